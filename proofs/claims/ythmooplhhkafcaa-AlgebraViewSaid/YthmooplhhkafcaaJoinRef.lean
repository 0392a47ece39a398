/- The contract of Join of the reference. Conditions: as each statement says. -/
import Derived.Test.YthmooplhhkafcaaJoin
import Derived.Test.YthmooplhhkafcaaThruRef2
import Derived.Test.YthmooplhhkafcaaSplitRef
namespace Go.Proofs.Ythmooplhhkafcaa
open Go.RowKit
set_option linter.unusedVariables false
set_option maxRecDepth 100000 in
theorem refJoin_3 (A : Option Addr) (n c : Nat) (k : Int) (w : World) (h : k < 1 ∨ 16 < k) :
    Calls Try.prog 30 #[.slice A n c, .int .i64 k] w (RetES w 3 []) := by
  rcases h with h | h
  · go_enter Try.func30, Try.ntmps30
    go_wp2_with fail
    go_ret2
    exact RetES.nil 3 (Below.refl _ _)
  · have h2 : ¬ k < 1 := by omega
    go_enter Try.func30, Try.ntmps30
    go_wp2_with fail
    go_ret2
    exact RetES.nil 3 (Below.refl _ _)
set_option maxRecDepth 100000 in
theorem refJoin_14 (A : Option Addr) (n c k : Nat) (w : World) (hk1 : 1 ≤ k) (hk2 : k ≤ 16) (h : n < k) :
    Calls Try.prog 30 #[.slice A n c, .int .i64 k] w (RetES w 14 []) := by
  have h1 : (1 : Int) ≤ (k : Int) := by omega
  have h2 : (k : Int) ≤ 16 := by omega
  have h3 : (n : Int) < (k : Int) := by omega
  go_enter Try.func30, Try.ntmps30
  go_wp2_with fail
  go_ret2
  exact RetES.nil 14 (Below.refl _ _)
theorem tail_e {e : Int} (h0 : 0 ≤ e) (hne : e ≠ 0) : 0 < e := by omega
set_option maxRecDepth 100000 in
set_option maxHeartbeats 1000000 in
theorem refJoin_chk (b off n c k : Nat) (s : ShareV) (r : List ShareV) (w : World) (hk1 : 1 ≤ k) (hk2 : k ≤ 16) (hn : n ≤ 1073741824) (h : k ≤ n) (hl : ShR w w.heap.size (some ⟨b, off, none⟩) n (s :: r)) (hE : chkE s.n [] (s :: r) ≠ 0) :
    Calls Try.prog 30 #[.slice (some ⟨b, off, none⟩) n c, .int .i64 k] w (RetES w (chkE s.n [] (s :: r)) []) := by
  have h1 : (1 : Int) ≤ (k : Int) := by omega
  have h2 : (k : Int) ≤ 16 := by omega
  have h3 : (k : Int) ≤ (n : Int) := by omega
  have hn0 : (0 : Int) < (n : Int) := by omega
  obtain ⟨b', off', he, hb, hc⟩ := hl.2.1.2 (by omega)
  injection he with he; injection he with he1 he2 _
  subst he1 he2
  have c1 : w.cell? ⟨b, off + 1, none⟩ = some (.slice s.A s.n s.c) := hc 1 _ rfl
  have hsn := (hl.2.2 s (by simp)).2.2.2.1
  have HF := Lib.hid (Faults_any (some ⟨b, off, none⟩) n c s.n (s :: r) w hn hsn hl)
  have hJ := chk_join (len := s.n) (s := s) (r := r) rfl
  have h0 := (flt_codes s.n (s :: r) [] 0).1
  obtain ⟨E, hEe⟩ : ∃ E, E = (fltE s.n [] 0 (s :: r)).1 := ⟨_, rfl⟩
  obtain ⟨I, hI⟩ : ∃ I, I = (fltE s.n [] 0 (s :: r)).2 := ⟨_, rfl⟩
  rw [← hEe, ← hI] at HF hJ
  rw [← hEe] at h0
  obtain ⟨C, hC⟩ : ∃ C, C = chkE s.n [] (s :: r) := ⟨_, rfl⟩
  rw [← hC] at hJ hE ⊢
  generalize s.n = len at c1 hsn HF hJ
  have HJ := Lib.hid hJ; have HE := Lib.hid hE
  clear hc hl hEe hI hC hJ hE
  by_cases g1 : 256 < len
  · have g1' : (256 : Int) < (len : Int) := by omega
    by_cases g2 : E = 0
    · subst g2
      have HC : Hid (C = 4) := Lib.hid (by rw [HJ.out, if_pos ⟨g1, .inl rfl⟩])
      clear HJ HE
      go_enter Try.func30, Try.ntmps30
      go_wp2_with fail
      refine HF.out.mono ?_
      rintro e w1 ⟨rfl, hq1⟩
      have c11 := (hq1.cell ⟨b, off + 1, none⟩).trans c1
      go_wp2_with fail
      go_ret2
      rw [HC.out]
      exact RetES.nil 4 (hq1.below _)
    · have g2' : (E == 0) = false := by simpa using g2
      by_cases g3 : 0 < I
      · have g3' : (0 : Int) < (I : Int) := by omega
        have HC : Hid (C = 4) := Lib.hid (by rw [HJ.out, if_pos ⟨g1, .inr g3⟩])
        clear HJ HE g2
        go_enter Try.func30, Try.ntmps30
        go_wp2_with fail
        refine HF.out.mono ?_
        rintro e w1 ⟨rfl, hq1⟩
        have c11 := (hq1.cell ⟨b, off + 1, none⟩).trans c1
        go_wp2_with fail
        go_ret2
        rw [HC.out]
        exact RetES.nil 4 (hq1.below _)
      · have g3' : ¬ (0 : Int) < (I : Int) := by omega
        have HC : Hid (C = E) := Lib.hid (by rw [HJ.out, if_neg (by omega)])
        have g4 := tail_e h0 g2
        clear HJ HE g2
        go_enter Try.func30, Try.ntmps30
        go_wp2_with fail
        refine HF.out.mono ?_
        rintro e w1 ⟨rfl, hq1⟩
        have c11 := (hq1.cell ⟨b, off + 1, none⟩).trans c1
        go_wp2_with fail
        go_ret2
        rw [HC.out]
        exact RetES.nil E (hq1.below _)
  · have g1' : (len : Int) ≤ 256 := by omega
    have HC : Hid (C = E) := Lib.hid (by rw [HJ.out, if_neg (by omega)])
    have g4 := tail_e h0 (by rw [← HC.out]; exact HE.out)
    clear HJ HE
    go_enter Try.func30, Try.ntmps30
    go_wp2_with fail
    refine HF.out.mono ?_
    rintro e w1 ⟨rfl, hq1⟩
    have c11 := (hq1.cell ⟨b, off + 1, none⟩).trans c1
    go_wp2_with fail
    go_ret2
    rw [HC.out]
    exact RetES.nil E (hq1.below _)
end Go.Proofs.Ythmooplhhkafcaa
