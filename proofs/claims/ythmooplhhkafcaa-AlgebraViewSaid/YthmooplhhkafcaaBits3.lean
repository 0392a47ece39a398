/- Contracts of kept, Same, Count and zip. Conditions: as each statement says. -/
import Derived.Test.YthmooplhhkafcaaBits2
namespace Go.Proofs.Ythmooplhhkafcaa
open Go.RowKit
set_option maxHeartbeats 400000 in
theorem refCount_any (A : Option Addr) (n c : Nat) (bs : List Bool) (w : World) (B : Nat) (hn : n ≤ 9223372036854775807) (h : Rd w B 1 A n (bs.map Value.bool)) :
    Calls Try.prog 55 #[.slice A n c] w fun e w' => e = .returned (.int .i64 (cnt bs)) ∧ w = w' := by
  have hl : bs.length = n := by have := h.1; simpa using this
  have H := Lib.hid h; clear h
  have HL := Lib.hid hl; clear hl
  go_enter Try.func55, Try.ntmps55
  go_wp2
  go_loop [3, 4] (fun t i => ∃ k : Nat, k ≤ n ∧ i = .int .i64 k ∧ t = .int .i64 (cnt (bs.take k))) (fun _ i => n - (intOf i).toNat)
  case atStart => exact ⟨0, Nat.zero_le _, rfl, rfl⟩
  case round =>
    obtain ⟨k, hk, rfl, rfl⟩ := hrel
    have hle := cnt_le (bs.take k)
    have hl : (bs.take k).length ≤ k := List.length_take_le _ _
    by_cases hlt : k < n
    · obtain ⟨b, off, rfl, hb, hc⟩ := H.out.2 (by omega)
      have hcell := hc k (.bool (bs[k]'(by rw [HL.out]; exact hlt))) (by simp [HL.out, hlt])
      have HS := Lib.hid (cnt_snoc (bs.take k) (bs[k]'(by rw [HL.out]; exact hlt)))
      rw [← take_snoc] at HS
      clear hc
      generalize bs[k]'(by rw [HL.out]; exact hlt) = x at hcell HS
      cases x
      all_goals
        go_wp2
        go_round
        case rel => exact ⟨k + 1, by omega, by go_num, by rw [HS.out]; simp⟩
        case measure => simp [intOf]; omega
    · go_wp2
      go_ret
      exact ⟨ret_int (by rw [List.take_of_length_le (by rw [HL.out]; omega)]), rfl⟩
theorem cnt_xor (xs ys : List Bool) (h : xs.length = ys.length) : cnt (xorL xs ys) = 0 ↔ xs = ys := by
  induction xs generalizing ys with
  | nil => cases ys with
    | nil => simp [xorL, cnt]
    | cons y ys => simp at h
  | cons x xs ih => cases ys with
    | nil => simp at h
    | cons y ys =>
      have := ih ys (by simpa using h)
      simp only [xorL, List.zipWith_cons_cons, cnt] at *
      cases x <;> cases y <;> simp_all
/-- Whether two bit strings are equal. -/
def sameB (xs ys : List Bool) : Bool := decide (xs = ys)
theorem Same_any (A A' : Option Addr) (n m c c' : Nat) (xs ys : List Bool) (w : World) (hn : n ≤ 1073741824) (hm : m ≤ 1073741824) (h : Rd w w.heap.size 1 A n (xs.map Value.bool)) (h' : Rd w w.heap.size 1 A' m (ys.map Value.bool)) :
    Calls Try.prog 17 #[.slice A n c, .slice A' m c'] w fun e w' => e = .returned (.bool (sameB xs ys)) ∧ Below w.heap.size w w' := by
  have hl : xs.length = n := by have := h.1; simpa using this
  have hl' : ys.length = m := by have := h'.1; simpa using this
  by_cases hnm : n = m
  · subst hnm
    have HE : Hid (sameB xs ys = ((cnt (xorL xs ys) : Int) == 0)) := Lib.hid (by
      unfold sameB
      rw [Bool.eq_iff_iff]
      simp only [decide_eq_true_eq, beq_iff_eq]
      rw [← cnt_xor xs ys (by omega)]
      omega)
    have H := Lib.hid h; clear h
    have H' := Lib.hid h'; clear h'
    have HL := Lib.hid hl; clear hl
    have HL' := Lib.hid hl'; clear hl'
    go_enter Try.func17, Try.ntmps17
    go_wp2_with fail
    refine (refXor_any _ _ _ _ _ xs ys _ hn H.out H'.out).mono ?_
    rintro e w1 ⟨A2, c2, rfl, hc2, hown, hb⟩
    have HR := Lib.hid (Rd.own hown); clear hown
    dsimp only [id]
    go_wp2_with fail
    refine (refCount_any _ _ _ _ _ _ (by omega) HR.out).mono ?_
    rintro e w2 ⟨rfl, rfl⟩
    go_wp2_with fail
    go_ret
    exact ⟨by rw [HE.out]; rfl, hb⟩
  · have hne : ((n : Int) == (m : Int)) = false := by rw [beq_eq_false_iff_ne]; omega
    have HE : Hid (sameB xs ys = false) := Lib.hid (by
      unfold sameB
      simp only [decide_eq_false_iff_not]
      intro h; rw [h] at hl; omega)
    clear h h' hl hl'
    go_enter Try.func17, Try.ntmps17
    go_wp2
    go_ret
    exact ⟨by rw [HE.out]; rfl, Below.refl _ _⟩
end Go.Proofs.Ythmooplhhkafcaa
