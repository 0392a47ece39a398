/- The contracts of list and draw: whatever is drawn, they return the state behind it and true. Conditions: as each statement says. -/
import Derived.Test.YthmooplhhkafcaaDrawLaw
import Derived.Test.YthmooplhhkafcaaToepWalk
namespace Go.Proofs.Ythmooplhhkafcaa
open Go.RowKit
set_option linter.unusedVariables false
/-- The call returns a state and true; the draws at block b have this state, all else stays. -/
def DrawPost (b : Nat) (w : World) (e : Ending) (w' : World) : Prop := ∃ s' : Nat, s' < two64 ∧ e = .returned (.tuple #[.int .u64 s', .bool true]) ∧ Upd w.heap.size b s' w w'
theorem refPerm_ex (s n : Nat) (w : World) (hs : s < two64) (hn : n ≤ 65536) :
    Calls Try.prog 93 #[.int .u64 s, .int .i64 n] w fun e w' => ∃ (S : Nat) (L : List Int) (A : Option Addr) (c : Nat), S = permS s n ∧ L = permL s n ∧ e = .returned (.tuple #[.int .u64 S, .slice A n c]) ∧ Rd w' w'.heap.size 1 A n (L.map (Value.int .i64)) ∧ Below w.heap.size w w' :=
  (refPerm_any s n w hs hn).mono fun e w' ⟨A, c, he, _, ho, hb⟩ => ⟨_, _, A, c, rfl, rfl, he, Rd.own ho, hb⟩
theorem refSample_ex (s n k : Nat) (w : World) (hs : s < two64) (hn : n ≤ 65536) (hk : k ≤ n) :
    Calls Try.prog 94 #[.int .u64 s, .int .i64 n, .int .i64 k] w fun e w' => ∃ (S : Nat) (L : List Int) (A : Option Addr) (c : Nat), S = permS s n ∧ L = sampL s n k ∧ e = .returned (.tuple #[.int .u64 S, .slice A k c]) ∧ Rd w' w'.heap.size 1 A k (L.map (Value.int .i64)) ∧ Below w.heap.size w w' :=
  (refSample_any s n k w hs hn hk).mono fun e w' ⟨A, c, he, _, ho, hb⟩ => ⟨_, _, A, c, rfl, rfl, he, Rd.own ho, hb⟩
theorem refNext_ex (s : Nat) (w : World) (hs : s < two64) :
    Calls Try.prog 40 #[.int .u64 s] w fun e w' => ∃ S y : Nat, S = nextS s ∧ y = nextY s ∧ e = .returned (.tuple #[.int .u64 S, .int .u64 y]) ∧ Qw w w' :=
  (refNext_any s w hs).mono fun _ _ ⟨he, hq⟩ => ⟨_, _, rfl, rfl, he, hq⟩
theorem Next_ex2 (b s B : Nat) (w : World) (hd : DrawAt w b s) (hB : b < B) :
    Calls Try.prog 36 #[.pointer (some ⟨b, 0, none⟩)] w fun e w' => ∃ y : Nat, y = nextY s ∧ e = .returned (.int .u64 y) ∧ Upd B b (nextS s) w w' ∧ w'.heap.size = w.heap.size :=
  (Next_upd b s B w hd hB).mono fun e w' ⟨he, h⟩ => ⟨_, rfl, he, h⟩
theorem Below_ex (b s n : Nat) (w : World) (hd : DrawAt w b s) (hn : 1 ≤ n) (hn' : n ≤ 9223372036854775807) :
    Calls Try.prog 37 #[.pointer (some ⟨b, 0, none⟩), .int .i64 n] w fun e w' => ∃ j : Nat, j = nextY s % n ∧ e = .returned (.tuple #[.int .i64 j, .int .i64 0]) ∧ Upd w.heap.size b (nextS s) w w' :=
  (Below_any b s n w hd hn hn').mono fun e w' ⟨he, h⟩ => ⟨_, rfl, he, h⟩
theorem refBits_ex (s n : Nat) (w : World) (hs : s < two64) (hn : n ≤ 65536) :
    Calls Try.prog 74 #[.int .u64 s, .int .i64 n] w fun e w' => ∃ (S : Nat) (L : List Bool) (A : Option Addr) (c : Nat), S = stN n s ∧ L = bitsD n s ∧ e = .returned (.tuple #[.int .u64 S, .slice A n c]) ∧ Rd w' w'.heap.size 1 A n (L.map Value.bool) ∧ Below w.heap.size w w' :=
  (refBits_any s n w hs hn).mono fun e w' ⟨A, c, he, _, ho, hb⟩ => ⟨_, _, A, c, rfl, rfl, he, Rd.own ho, hb⟩
theorem DrawPost.same {b s : Nat} {w w' : World} (hs : s < two64) (hd : DrawAt w b s) (hb : Below w.heap.size w w') : DrawPost b w (.returned (.tuple #[.int .u64 s, .bool true])) w' :=
  ⟨s, hs, rfl, Upd.below (Upd.start hd) hb⟩

set_option maxRecDepth 100000 in
set_option maxHeartbeats 2000000 in
theorem list_any (b s : Nat) (D N K : Int) (w : World) (hs : s < two64) (hd : DrawAt w b s) (hN1 : -9223372036854775808 ≤ N) (hN2 : N ≤ 9223372036854775807) :
    Calls Try.prog 75 #[.pointer (some ⟨b, 0, none⟩), .int .u64 s, .agg #[.int .i64 D, .int .i64 N, .int .i64 K]] w (DrawPost b w) := by
  have hlt := hd.lt
  have HS := Lib.hid hs
  have hba : Below w.heap.size w (w.alloc (.cells #[.int .i64 D, .int .i64 N, .int .i64 K] 80)) := (Below.refl _ _).alloc (Nat.le_refl _) _
  have HD0 := Lib.hid hd
  have HBA := Lib.hid hba
  have HD := Lib.hid (hd.below hba hlt)
  clear hs hd hba
  go_enter Try.func75, Try.ntmps75
  go_wp2_with fail
  refine (size_any N _ hN1 hN2).mono ?_
  rintro e w' ⟨r, hr, rfl, rfl⟩
  have HR := Lib.hid hr; clear hr
  go_wp2_with fail
  refine (kind_any D _).mono ?_
  rintro e w' ⟨g, rfl, rfl⟩
  by_cases hg : g = 3
  · subst hg
    rcases HR.out with ⟨h1, h2⟩ | ⟨h1, h2⟩
    · have h3 : N < 0 ∨ (0 ≤ N ∧ 65536 < N) := by omega
      subst h1
      clear h2 HR
      rcases h3 with h3 | ⟨h3, h4⟩
      all_goals
        go_wp2_with fail
        refine (Perm_bad b s r _ HD.out (by omega)).mono ?_
        rintro e w' ⟨rfl, rfl⟩
        go_wp2_with fail
        go_ret2
        exact DrawPost.same HS.out HD0.out HBA.out
    · obtain ⟨n, rfl⟩ := Int.eq_ofNat_of_zero_le h1
      have hn : n ≤ 300 := by omega
      have h3 : ¬ ((n : Int) < 0) := by omega
      have h4 : ¬ ((65536 : Int) < (n : Int)) := by omega
      clear HR
      go_wp2_with fail
      refine (Perm_any b s n _ HD.out (by omega)).mono ?_
      rintro e w1 ⟨rfl, r1, u1⟩
      have hs1 := u1.size
      simp only [World.size_alloc] at hs1
      have r1' := Rd.own r1
      simp only [World.size_alloc] at r1'
      have R1 := Lib.hid r1'; clear r1'
      have HU1 := Lib.hid (Upd.bel0 HBA.out (u1.mono (by simp)))
      clear r1 u1
      go_wp2_with fail
      refine (refPerm_ex s n _ HS.out (by omega)).mono ?_
      rintro e w2 ⟨S2, L2, A2, c2, hS2, hL2, rfl, r2, b2⟩
      have hs2 := b2.size
      have R2 := Lib.hid ((R1.out.below b2).mono hs2); have Q2 := Lib.hid r2
      rw [← hL2] at R2
      have HS2 := Lib.hid hS2
      clear hL2 hS2
      have HU2 := Lib.hid (HU1.out.below (b2.mono (by omega)))
      clear r2 b2 R1 HU1
      go_wp2_with fail
      refine (sameInts_self _ _ _ _ _ L2 _ _ (by omega) R2.out Q2.out).mono ?_
      rintro e w3 ⟨rfl, hq3⟩
      have HU := Lib.hid (HU2.out.below (hq3.below w.heap.size))
      clear hq3
      go_wp2_with fail
      go_ret2
      exact ⟨S2, by rw [HS2.out]; exact permS_lt s n HS.out, rfl, by rw [HS2.out]; exact HU.out⟩
  · have hg2 : (g == 3) = false := by simpa using hg
    by_cases hbad : r < 0 ∨ 65536 < r ∨ (0 ≤ r ∧ r ≤ 65536 ∧ (K < 0 ∨ (0 ≤ K ∧ r < K)))
    · have HBAD := Lib.hid hbad
      have h3 : r < 0 ∨ (0 ≤ r ∧ 65536 < r) ∨ (0 ≤ r ∧ r ≤ 65536 ∧ K < 0) ∨ (0 ≤ r ∧ r ≤ 65536 ∧ 0 ≤ K ∧ r < K) := by omega
      clear hbad hg HR
      rcases h3 with h3 | ⟨h3, h4⟩ | ⟨h3, h4, h5⟩ | ⟨h3, h4, h5, h6⟩
      all_goals
        go_wp2_with fail
        refine (Sample_bad b s r K _ HD.out HBAD.out).mono ?_
        rintro e w' ⟨rfl, rfl⟩
        go_wp2_with fail
        go_ret2
        exact DrawPost.same HS.out HD0.out HBA.out
    · have h1 : 0 ≤ r := by omega
      have h2 : r ≤ 65536 := by omega
      have h3 : 0 ≤ K := by omega
      have h4 : K ≤ r := by omega
      obtain ⟨n, rfl⟩ := Int.eq_ofNat_of_zero_le h1
      obtain ⟨k, rfl⟩ := Int.eq_ofNat_of_zero_le h3
      have hn : n ≤ 65536 := by omega
      have hk : k ≤ n := by omega
      have h5 : ¬ ((n : Int) < 0) := by omega
      have h6 : ¬ ((65536 : Int) < (n : Int)) := by omega
      have h7 : ¬ ((k : Int) < 0) := by omega
      have h8 : ¬ ((n : Int) < (k : Int)) := by omega
      clear hbad hg HR h1 h2 h3 h4
      go_wp2_with fail
      refine (Sample_any b s n k _ HD.out hn hk).mono ?_
      rintro e w1 ⟨A1, c1, rfl, r1, u1⟩
      have hs1 := u1.size
      simp only [World.size_alloc] at hs1
      have R1 := Lib.hid (Rd.own r1)
      have hbx : ∀ j : Nat, j < 3 → w1.cell? ⟨w.heap.size, j, none⟩ = (w.alloc (.cells #[.int .i64 D, .int .i64 N, .int .i64 (k : Int)] 80)).cell? ⟨w.heap.size, j, none⟩ := fun j _ => u1.cell (p := ⟨w.heap.size, j, none⟩) (by simp) (by simp only; omega)
      have hk1 : w1.cell? ⟨w.heap.size, 2, none⟩ = some (.int .i64 (k : Int)) := (hbx 2 (by omega)).trans (by simp [World.cell?_alloc_new])
      have HU1 := Lib.hid (Upd.bel0 HBA.out (u1.mono (by simp)))
      clear r1 u1 hbx
      go_wp2_with fail
      refine (refSample_ex s n k _ HS.out hn hk).mono ?_
      rintro e w2 ⟨S2, L2, A2, c2, hS2, hL2, rfl, r2, b2⟩
      have hs2 := b2.size
      have R2 := Lib.hid ((R1.out.below b2).mono hs2); have Q2 := Lib.hid r2
      rw [← hL2] at R2
      have HS2 := Lib.hid hS2
      clear hL2 hS2
      have HU2 := Lib.hid (HU1.out.below (b2.mono (by omega)))
      clear r2 b2 R1 HU1 hk1
      go_wp2_with fail
      refine (sameInts_self _ _ _ _ _ L2 _ _ (by omega) R2.out Q2.out).mono ?_
      rintro e w3 ⟨rfl, hq3⟩
      have HU := Lib.hid (HU2.out.below (hq3.below w.heap.size))
      clear hq3
      go_wp2_with fail
      go_ret2
      exact ⟨S2, by rw [HS2.out]; exact permS_lt s n HS.out, rfl, by rw [HS2.out]; exact HU.out⟩
set_option maxRecDepth 100000 in
set_option maxHeartbeats 2000000 in
theorem draw_any (b s : Nat) (D N K : Int) (w : World) (hs : s < two64) (hd : DrawAt w b s) (hN1 : -9223372036854775808 ≤ N) (hN2 : N ≤ 9223372036854775807) :
    Calls Try.prog 41 #[.pointer (some ⟨b, 0, none⟩), .int .u64 s, .agg #[.int .i64 D, .int .i64 N, .int .i64 K]] w (DrawPost b w) := by
  have hlt := hd.lt
  have HS := Lib.hid hs
  have hba : Below w.heap.size w (w.alloc (.cells #[.int .i64 D, .int .i64 N, .int .i64 K] 80)) := (Below.refl _ _).alloc (Nat.le_refl _) _
  have HD0 := Lib.hid hd
  have HBA := Lib.hid hba
  have HD := Lib.hid (hd.below hba hlt)
  clear hs hd hba
  go_enter Try.func41, Try.ntmps41
  go_wp2_with fail
  refine (size_any N _ hN1 hN2).mono ?_
  rintro e w' ⟨r, hr, rfl, rfl⟩
  have HR := Lib.hid hr; clear hr
  go_wp2_with fail
  refine (kind_any D _).mono ?_
  rintro e w' ⟨g, rfl, rfl⟩
  by_cases h0 : g = 0
  · subst h0
    clear HR
    go_wp2_with fail
    refine (refNext_ex s _ HS.out).mono ?_
    rintro e w1 ⟨S1, y1, hS1, hy1, rfl, q1⟩
    have hD1 := Lib.hid (HD.out.q q1)
    have hb1 := Lib.hid (HBA.out.trans (q1.below w.heap.size))
    have hsz := hb1.out.size
    have HS1 := Lib.hid hS1; have HY1 := Lib.hid hy1
    clear hS1 hy1 q1
    go_wp2_with fail
    refine (Next_ex2 b s w.heap.size _ hD1.out hlt).mono ?_
    rintro e w2 ⟨y2, hy2, rfl, u2, _⟩
    obtain rfl : y2 = y1 := by rw [hy2, HY1.out]
    have HU := Lib.hid (Upd.bel0 hb1.out u2)
    clear hy2 u2 HY1
    go_wp2_with fail
    go_ret2
    exact ⟨S1, by rw [HS1.out]; exact nextS_lt s, rfl, by rw [HS1.out]; exact HU.out⟩
  have g0 : (g == 0) = false := by simpa using h0
  by_cases h1 : g = 1
  · subst h1
    by_cases hN : N < 1
    · go_wp2_with fail
      refine (Below_bad b s N _ HD.out hN).mono ?_
      rintro e w' ⟨rfl, rfl⟩
      go_wp2_with fail
      go_ret2
      exact DrawPost.same HS.out HD0.out HBA.out
    · obtain ⟨n, rfl⟩ := Int.eq_ofNat_of_zero_le (show 0 ≤ N by omega)
      go_wp2_with fail
      refine (Below_ex b s n _ HD.out (by omega) (by omega)).mono ?_
      rintro e w1 ⟨j, hj, rfl, u1⟩
      have hk1 : w1.cell? ⟨w.heap.size, 1, none⟩ = some (.int .i64 (n : Int)) := (u1.cell (p := ⟨w.heap.size, 1, none⟩) (by simp) (by simp only; omega)).trans (by simp [World.cell?_alloc_new])
      have HU1 := Lib.hid (Upd.bel0 HBA.out (u1.mono (by simp)))
      have hs1 := u1.size
      simp only [World.size_alloc] at hs1
      have HJ := Lib.hid hj
      clear u1 hj
      go_wp2_with fail
      refine (refBelow_ex s n _ HS.out (by omega) (by omega)).mono ?_
      rintro e w2 ⟨S2, j2, hS2, hj2, rfl, q2⟩
      obtain rfl : j2 = j := by rw [hj2, HJ.out]
      have HU := Lib.hid (HU1.out.below (q2.below w.heap.size))
      have HS2 := Lib.hid hS2
      clear hS2 hj2 q2 hk1 HJ
      go_wp2_with fail
      go_ret2
      exact ⟨S2, by rw [HS2.out]; exact nextS_lt s, rfl, by rw [HS2.out]; exact HU.out⟩
  have g1 : (g == 1) = false := by simpa using h1
  by_cases h2 : g = 2
  · subst h2
    rcases HR.out with ⟨h3, h4⟩ | ⟨h3, h4⟩
    · have h5 : N < 0 ∨ (0 ≤ N ∧ 65536 < N) := by omega
      subst h3
      clear h4 HR
      rcases h5 with h5 | ⟨h5, h6⟩
      all_goals
        go_wp2_with fail
        refine (Bits_bad b s r _ HD.out (by omega)).mono ?_
        rintro e w' ⟨rfl, rfl⟩
        go_wp2_with fail
        go_ret2
        exact DrawPost.same HS.out HD0.out HBA.out
    · obtain ⟨n, rfl⟩ := Int.eq_ofNat_of_zero_le h3
      have hn : n ≤ 300 := by omega
      have h5 : ¬ ((n : Int) < 0) := by omega
      have h6 : ¬ ((65536 : Int) < (n : Int)) := by omega
      clear HR
      go_wp2_with fail
      refine (Bits_any b s n _ HD.out (by omega)).mono ?_
      rintro e w1 ⟨A1, c1, rfl, r1, u1⟩
      have hs1 := u1.size
      simp only [World.size_alloc] at hs1
      have R1 := Lib.hid (Rd.own r1)
      have HU1 := Lib.hid (Upd.bel0 HBA.out (u1.mono (by simp)))
      clear r1 u1
      go_wp2_with fail
      refine (refBits_ex s n _ HS.out (by omega)).mono ?_
      rintro e w2 ⟨S2, L2, A2, c2, hS2, hL2, rfl, r2, b2⟩
      have hs2 := b2.size
      have R2 := Lib.hid ((R1.out.below b2).mono hs2); have Q2 := Lib.hid r2
      rw [← hL2] at R2
      have HS2 := Lib.hid hS2
      have HU2 := Lib.hid (HU1.out.below (b2.mono (by omega)))
      clear hL2 hS2 r2 b2 R1 HU1
      go_wp2_with fail
      refine (Same_self _ _ _ _ _ _ L2 _ (by omega) (by omega) R2.out Q2.out).mono ?_
      rintro e w3 ⟨rfl, hb3⟩
      have HU := Lib.hid (HU2.out.below (hb3.mono (by omega)))
      clear hb3
      go_wp2_with fail
      go_ret2
      exact ⟨S2, by rw [HS2.out]; exact stN_lt HS.out n, rfl, by rw [HS2.out]; exact HU.out⟩
  have g2 : (g == 2) = false := by simpa using h2
  clear h0 h1 h2 HR
  go_wp2_with fail
  refine (list_any b s D N K _ HS.out HD.out hN1 hN2).mono ?_
  rintro e w1 ⟨S1, hS1, rfl, u1⟩
  have HU := Lib.hid (Upd.bel0 HBA.out (u1.mono (by simp)))
  have HL := Lib.hid hS1
  clear u1 hS1
  go_wp2_with fail
  go_ret2
  exact ⟨S1, HL.out, rfl, HU.out⟩
end Go.Proofs.Ythmooplhhkafcaa
