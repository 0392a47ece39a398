/- The contracts of Faults and at of the reference. Conditions: as each statement says. -/
import Derived.Test.YthmooplhhkafcaaCheck
namespace Go.Proofs.Ythmooplhhkafcaa
open Go.RowKit
set_option linter.unusedVariables false
/-- The error of the first share that has one, and its index. -/
def fltE (len : Nat) : List Nat → Nat → List ShareV → Int × Nat
  | _, _, [] => (0, 0)
  | seen, k, s :: r => if s.X < 1 ∨ 16 < s.X then (2, k) else if s.X ∈ seen then (10, k) else if s.n ≠ len then (22, k) else fltE len (seen ++ [s.X]) (k + 1) r
theorem fltE_cons (len : Nat) (seen : List Nat) (k : Nat) (s : ShareV) (r : List ShareV) : fltE len seen k (s :: r) = if s.X < 1 ∨ 16 < s.X then (2, k) else if s.X ∈ seen then (10, k) else if s.n ≠ len then (22, k) else fltE len (seen ++ [s.X]) (k + 1) r := rfl
theorem chk_flt {len : Nat} (hl : len ≤ 256) : ∀ (l : List ShareV) (s1 s2 : List Nat) (k : Nat), (∀ x, x ∈ s1 ↔ x ∈ s2) → chkE len s1 l = (fltE len s2 k l).1
  | [], _, _, _, _ => rfl
  | s :: r, s1, s2, k, h => by
    rw [chkE_cons, fltE_cons]
    by_cases h1 : s.X < 1 ∨ 16 < s.X
    · rw [if_pos h1, if_pos h1]
    · rw [if_neg h1, if_neg h1]
      by_cases h2 : s.X ∈ s1
      · rw [if_pos h2, if_pos ((h _).1 h2)]
      · rw [if_neg h2, if_neg (fun h3 => h2 ((h _).2 h3))]
        by_cases h3 : s.n ≠ len
        · rw [if_pos h3, if_pos h3]
        · rw [if_neg h3, if_neg h3, if_neg (by omega)]
          exact chk_flt hl r _ _ (k + 1) (fun x => by rw [List.mem_cons, List.mem_append, List.mem_singleton, h x]; exact or_comm)
theorem flt_ge (len : Nat) : ∀ (l : List ShareV) (seen : List Nat) (k : Nat), (fltE len seen k l).1 = 0 ∨ k ≤ (fltE len seen k l).2
  | [], _, _ => .inl rfl
  | s :: r, seen, k => by
    rw [fltE_cons]
    split
    · exact .inr (Nat.le_refl _)
    · split
      · exact .inr (Nat.le_refl _)
      · split
        · exact .inr (Nat.le_refl _)
        · rcases flt_ge len r (seen ++ [s.X]) (k + 1) with h | h
          · exact .inl h
          · exact .inr (by omega)
theorem flt_lt (len : Nat) : ∀ (l : List ShareV) (seen : List Nat) (k : Nat), (fltE len seen k l).2 ≤ k + l.length
  | [], _, _ => Nat.zero_le _
  | s :: r, seen, k => by
    rw [fltE_cons, List.length_cons]
    split
    · show k ≤ _; omega
    · split
      · show k ≤ _; omega
      · split
        · show k ≤ _; omega
        · have := flt_lt len r (seen ++ [s.X]) (k + 1); omega
theorem flt_codes (len : Nat) : ∀ (l : List ShareV) (seen : List Nat) (k : Nat), 0 ≤ (fltE len seen k l).1 ∧ (fltE len seen k l).1 ≤ 22
  | [], _, _ => by simp [fltE]
  | s :: r, seen, k => by
    rw [fltE_cons]
    split
    · simp
    · split
      · simp
      · split
        · simp
        · exact flt_codes len r _ _
/-- The program's error of Join is the document's. -/
theorem chk_join {len : Nat} {s : ShareV} {r : List ShareV} (h0 : s.n = len) : chkE len [] (s :: r) = if 256 < len ∧ ((fltE len [] 0 (s :: r)).1 = 0 ∨ 0 < (fltE len [] 0 (s :: r)).2) then 4 else (fltE len [] 0 (s :: r)).1 := by
  by_cases hl : len ≤ 256
  · rw [if_neg (by omega), chk_flt hl (s :: r) [] [] 0 (fun x => Iff.rfl)]
  · have hl' : 256 < len := by omega
    have e1 : chkE len [] (s :: r) = if s.X < 1 ∨ 16 < s.X then 2 else 4 := by
      rw [chkE_cons]
      split
      · rfl
      · simp [h0, hl']
    have e2 : fltE len [] 0 (s :: r) = if s.X < 1 ∨ 16 < s.X then (2, 0) else fltE len ([] ++ [s.X]) (0 + 1) r := by
      rw [fltE_cons]
      split
      · rfl
      · simp [h0]
    rw [e1, e2]
    by_cases h1 : s.X < 1 ∨ 16 < s.X
    · rw [if_pos h1, if_pos h1, if_neg (by simp)]
    · rw [if_neg h1, if_neg h1, if_pos]
      refine ⟨hl', ?_⟩
      rcases flt_ge len r ([] ++ [s.X]) (0 + 1) with h | h
      · exact .inl h
      · exact .inr (by omega)
set_option maxRecDepth 100000 in
set_option maxHeartbeats 1000000 in
theorem Faults_any (A : Option Addr) (n c len : Nat) (l : List ShareV) (w : World) (hn : n ≤ 1073741824) (hlen : len ≤ 1073741824) (h : ShR w w.heap.size A n l) :
    Calls Try.prog 61 #[.slice A n c, .int .i64 len] w fun e w' => e = .returned (.tuple #[.int .i64 (fltE len [] 0 l).1, .int .i64 ((fltE len [] 0 l).2 : Nat)]) ∧ Qw w w' := by
  have H := Lib.hid h
  clear h
  go_enter Try.func61, Try.ntmps61
  go_wp2
  go_loopw [6] (fun v wr => ∃ (k : Nat), k ≤ n ∧ v = .int .i64 k ∧ Qw w wr ∧ fltE len [] 0 l = fltE len ((l.take k).map ShareV.X) k (l.drop k)) (fun v _ => n - (intOf v).toNat)
  case atStart => exact ⟨0, Nat.zero_le _, rfl, Qw.refl _, rfl⟩
  case round =>
    obtain ⟨wp, rfl⟩ : ∃ wp : World, wp = wr := ⟨_, rfl⟩
    obtain ⟨k, hk, rfl, hq, hE⟩ := hrel
    have HE := Lib.hid hE; clear hE
    by_cases hlt : k < n
    · have hlt' : (k : Int) < (n : Int) := by omega
      have hkl : k < l.length := by rw [H.out.1]; exact hlt
      obtain ⟨b, off, rfl, hb, hc⟩ := H.out.2.1.2 (by omega)
      have hokk := H.out.2.2 _ (List.getElem_mem hkl)
      have hX := hokk.1
      have hn1 := hokk.2.2.2.1
      have c0 : wp.cell? ⟨b, off + k * 2, none⟩ = some (.int .u8 (l[k]).X) := (hq.cell _).trans (hc _ _ (shCells_0 l k hkl))
      have c1 : wp.cell? ⟨b, off + k * 2 + 1, none⟩ = some (.slice (l[k]).A (l[k]).n (l[k]).c) := (hq.cell _).trans (hc _ _ (shCells_1 l k hkl))
      have HS : Hid (fltE len [] 0 l = fltE len ((l.take k).map ShareV.X) k (l[k] :: l.drop (k + 1))) := Lib.hid (by rw [HE.out, List.drop_eq_getElem_cons hkl])
      have HTK : Hid ((l.take (k + 1)).map ShareV.X = (l.take k).map ShareV.X ++ [(l[k]).X]) := Lib.hid (by rw [take_snoc _ _ hkl, List.map_append]; rfl)
      have HCC := Lib.hid hc
      clear hc HE hokk
      generalize l[k] = s at c0 c1 HS HTK hX hn1
      obtain ⟨X, A1, n1, cp1, Y⟩ := s
      dsimp only at c0 c1 hX hn1
      rw [fltE_cons] at HS
      dsimp only at HS HTK
      clear hkl
      by_cases g1 : X < 1 ∨ 16 < X
      · rw [if_pos g1] at HS
        rcases g1 with g1 | g1
        · have g1' : (X : Int) < 1 := by omega
          go_wp2_with fail
          go_ret2
          exact ⟨by rw [HS.out]; rfl, hq⟩
        · have g1' : ¬ (X : Int) < 1 := by omega
          have g2' : (16 : Int) < (X : Int) := by omega
          go_wp2_with fail
          go_ret2
          exact ⟨by rw [HS.out]; rfl, hq⟩
      · rw [if_neg g1] at HS
        have g1' : ¬ (X : Int) < 1 := by omega
        have g2' : ¬ (16 : Int) < (X : Int) := by omega
        clear g1
        go_wp2_with fail
        go_loopw [7] (fun v wr => ∃ (j : Nat), j ≤ k ∧ v = .int .i64 j ∧ Qw wp wr ∧ X ∉ (l.take j).map ShareV.X) (fun v _ => k - (intOf v).toNat)
        case atStart => exact ⟨0, Nat.zero_le _, rfl, Qw.refl _, by simp⟩
        case round =>
          obtain ⟨j, hj, rfl, hq2, hno⟩ := hrel
          by_cases hlj : j < k
          · have hlj' : (j : Int) < (k : Int) := by omega
            have hjn : (j : Int) < (n : Int) := by omega
            have hjl : j < l.length := by rw [H.out.1]; omega
            have d0 : wr.cell? ⟨b, off + j * 2, none⟩ = some (.int .u8 (l[j]).X) := (hq2.cell _).trans ((hq.cell _).trans (HCC.out _ _ (shCells_0 l j hjl)))
            have c0' : wr.cell? ⟨b, off + k * 2, none⟩ = some (.int .u8 X) := (hq2.cell _).trans c0
            have HTJ : Hid ((l.take (j + 1)).map ShareV.X = (l.take j).map ShareV.X ++ [(l[j]).X]) := Lib.hid (by rw [take_snoc _ _ hjl, List.map_append]; rfl)
            have HMM : Hid ((l[j]).X ∈ (l.take k).map ShareV.X) := Lib.hid (List.mem_map.2 ⟨l[j], by rw [List.mem_take_iff_getElem]; exact ⟨j, by omega, rfl⟩, rfl⟩)
            generalize (l[j]).X = X2 at d0 HTJ HMM
            clear hjl
            have HNO := Lib.hid hno
            clear hno
            by_cases hxx : X2 = X
            · have hxx' : ((X2 : Int) == (X : Int)) = true := by subst hxx; simp
              have HXX := Lib.hid hxx
              clear hxx
              go_wp2_with fail
              go_quiet (fail)
              go_wp2_with fail
              go_ret2
              exact ⟨by rw [HS.out, if_pos (by rw [← HXX.out]; exact HMM.out)]; rfl, hq.trans (hq2.drewN _)⟩
            · have hxx' : ((X2 : Int) == (X : Int)) = false := by simp only [beq_eq_false_iff_ne, ne_eq]; omega
              have HXX := Lib.hid hxx
              clear hxx
              go_wp2_with fail
              go_quiet (fail)
              go_wp2_with fail
              go_roundw
              case rel => exact ⟨j + 1, by omega, by go_num, hq2.drewN _, by rw [HTJ.out, List.mem_append, List.mem_singleton]; intro h; rcases h with h | h; exact HNO.out h; exact HXX.out h.symm⟩
              case measure => simp [intOf]; omega
          · obtain rfl : j = k := by omega
            have hlj' : ¬ (j : Int) < (j : Int) := by omega
            rw [if_neg hno] at HS
            have c1' := (hq2.cell _).trans c1
            clear hno c1 c0
            by_cases g4 : n1 = len
            · rw [if_neg (by omega)] at HS
              have g4' : ((n1 : Int) != (len : Int)) = false := by subst g4; simp
              clear g4
              go_wp2_with fail
              exact ⟨⟨j + 1, by omega, by go_num, hq.trans hq2, by rw [HS.out, HTK.out]⟩, by simp [intOf]; omega⟩
            · rw [if_pos g4] at HS
              have g4' : ((n1 : Int) != (len : Int)) = true := by simp only [bne_iff_ne, ne_eq]; omega
              clear g4
              go_wp2_with fail
              go_ret2
              exact ⟨by rw [HS.out]; rfl, hq.trans hq2⟩
    · have hlt' : ¬ (k : Int) < (n : Int) := by omega
      have hz : fltE len [] 0 l = (0, 0) := by rw [HE.out, List.drop_of_length_le (by rw [H.out.1]; omega)]; rfl
      have HZ := Lib.hid hz
      clear hz
      go_wp2_with fail
      go_ret2
      exact ⟨by rw [HZ.out]; rfl, hq⟩
end Go.Proofs.Ythmooplhhkafcaa
