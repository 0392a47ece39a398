/- The contracts of named and between. Conditions: as each statement says. -/
import Derived.Test.YtghjlbbalngdhaaGreatDoorNet1
import Derived.Test.YtghjlbbalngdhaaGreatDoorMapL
import Derived.Sort.Walk0
namespace Go.Proofs.YtghjlbbalngdhaaGreatDoor
open Go.RowKit
set_option linter.unusedVariables false
def chB (c : UInt8) : Bool := (decide (97 ≤ c.toNat) && decide (c.toNat ≤ 122)) || (decide (48 ≤ c.toNat) && decide (c.toNat ≤ 57))
def namedB (x : Nm) : Bool := decide (1 ≤ x.length) && decide (x.length ≤ 16) && decide (57 < (x.headD 0).toNat) && x.all chB
theorem index_str (x : Nm) (k : Nat) (hk : k < x.length) (w : World) : (Instr.index 9 (encS x) (.int .i64 k)).run Tryz.prog w = .ok (.int .u8 ((x.getD k 0).toNat : Int)) w := by
  rw [run_index_string (h := Tryz.underlying9), dif_pos ⟨by omega, by simp [ByteArray.size]; omega⟩]
  have e : (ByteArray.mk x.toArray).data.toList = x := rfl
  simp [List.getD_eq_getElem?_getD, List.getElem?_eq_getElem hk]
  rfl
theorem eq_str (x y : Nm) (w : World) : (binOp BinOp.eql 9 (encS x) (encS y)).run Tryz.prog w = .ok (.bool (decide (x = y))) w := by
  have : (x == y) = decide (x = y) := by
    by_cases h : x = y <;> simp [h]
  simp [binOp, Op.stringOp, go_sem, this]
theorem namedB_head (x : Nm) (h : 1 ≤ x.length) : x.headD 0 = x.getD 0 0 := by cases x <;> simp at h ⊢
theorem namedB_all (x : Nm) (k : Nat) (hk : k < x.length) : (x.take (k + 1)).all chB = ((x.take k).all chB && chB (x.getD k 0)) := by
  rw [List.take_succ_eq_append_getElem hk, List.all_append, List.getD_eq_getElem?_getD, List.getElem?_eq_getElem hk]
  simp
theorem all_false_of {x : Nm} {k : Nat} (hk : k < x.length) (h : chB (x.getD k 0) = false) : x.all chB = false := by
  cases e : x.all chB with
  | false => rfl
  | true =>
    rw [List.all_eq_true] at e
    have := e (x.getD k 0) (by rw [List.getD_eq_getElem?_getD, List.getElem?_eq_getElem hk]; exact List.getElem_mem hk)
    rw [h] at this; cases this
theorem get_str (x : Nm) (k : Nat) (h : k < (ByteArray.mk x.toArray).size) : (ByteArray.mk x.toArray)[k]'h = x.getD k 0 := by
  have hk : k < x.length := by simpa [ByteArray.size] using h
  rw [List.getD_eq_getElem?_getD, List.getElem?_eq_getElem hk]
  rfl
set_option maxHeartbeats 1000000 in
theorem named_any (x : Nm) (w : World) : Calls Tryz.prog 30 #[encS x] w fun e w' => e = .returned (.bool (namedB x)) ∧ w = w' := by
  by_cases h0 : x = []
  · subst h0
    go_enter Tryz.func30, Tryz.ntmps30
    go_wp2_with fail
    go_ret
    exact ⟨rfl, rfl⟩
  have h1 : 1 ≤ x.length := by cases x with | nil => exact absurd rfl h0 | cons a l => simp
  have hd : x.isEmpty = false := by cases x with | nil => exact absurd rfl h0 | cons a l => rfl
  clear h0
  by_cases h2 : x.length ≤ 16
  case neg =>
    have q : (16 : Int) < (x.length : Int) := by omega
    have HF : Hid (namedB x = false) := Lib.hid (by unfold namedB; rw [decide_eq_false h2]; simp)
    go_enter Tryz.func30, Tryz.ntmps30
    go_wp2_with fail
    go_ret
    exact ⟨by rw [HF.out]; rfl, rfl⟩
  have q : ¬ (16 : Int) < (x.length : Int) := by omega
  have HD := Lib.hid (namedB_head x h1)
  have hg0 := get_str x 0
  by_cases h3 : 57 < (x.getD 0 0).toNat
  case neg =>
    have HF : Hid (namedB x = false) := Lib.hid (by unfold namedB; rw [HD.out, decide_eq_false h3]; simp)
    have q3 : ((x.getD 0 0).toNat : Int) ≤ 57 := by omega
    generalize x.getD 0 0 = c0 at *
    go_enter Tryz.func30, Tryz.ntmps30
    go_wp2_with fail
    go_ret
    exact ⟨by rw [HF.out]; rfl, rfl⟩
  have q3 : ¬ ((x.getD 0 0).toNat : Int) ≤ 57 := by omega
  have HN : Hid (namedB x = x.all chB) := Lib.hid (by unfold namedB; rw [HD.out, decide_eq_true h1, decide_eq_true h2, decide_eq_true h3]; simp)
  generalize x.getD 0 0 = c0 at *
  clear HD
  go_enter Tryz.func30, Tryz.ntmps30
  go_wp2_with fail
  go_loopw [3, 4, 19] (fun _ _ i wr => ∃ k : Nat, k ≤ x.length ∧ i = .int .i64 k ∧ (x.take k).all chB = true ∧ w = wr) (fun _ _ i _ => x.length - (intOf i).toNat)
  case atStart => exact ⟨0, Nat.zero_le _, rfl, by simp, rfl⟩
  case round =>
    obtain ⟨k, hk, rfl, ha, rfl⟩ := hrel
    have HA := Lib.hid ha; clear ha
    clear hg0
    by_cases hlt : k < x.length
    · have hki : (k : Int) < (x.length : Int) := by omega
      have hgk := index_str x k hlt
      have HT := Lib.hid (namedB_all x k hlt)
      have HF := Lib.hid (fun h => all_false_of hlt h)
      generalize hc : x.getD k 0 = c at *
      have HC := Lib.hid hc; clear hc
      by_cases hb : chB c = true
      · have HT2 : Hid ((x.take (k + 1)).all chB = true) := Lib.hid (by rw [HT.out, HA.out, hb]; rfl)
        clear HT HF
        have hcases : (¬ (c.toNat : Int) < 97 ∧ ¬ (122 : Int) < (c.toNat : Int)) ∨ ((c.toNat : Int) < 97 ∧ ¬ (122 : Int) < (c.toNat : Int) ∧ ¬ (c.toNat : Int) < 48 ∧ ¬ (57 : Int) < (c.toNat : Int)) := by
          unfold chB at hb
          simp only [Bool.or_eq_true, Bool.and_eq_true, decide_eq_true_eq] at hb
          omega
        clear hb
        rcases hcases with ⟨a1, a2⟩ | ⟨a1, a2, a3, a4⟩
        all_goals
          go_wp2_with fail
          go_roundw
          case rel => exact ⟨k + 1, by omega, by go_num, HT2.out, trivial⟩
          case measure => simp [intOf]; omega
      · have hb' : chB c = false := by simpa using hb
        have HN2 : Hid (namedB x = false) := Lib.hid (by rw [HN.out]; exact HF.out hb')
        clear HT HF
        have hcases : ((c.toNat : Int) < 97 ∧ (c.toNat : Int) < 48) ∨ ((c.toNat : Int) < 97 ∧ ¬ (c.toNat : Int) < 48 ∧ (57 : Int) < (c.toNat : Int)) ∨ (¬ (c.toNat : Int) < 97 ∧ (122 : Int) < (c.toNat : Int) ∧ ¬ (c.toNat : Int) < 48 ∧ (57 : Int) < (c.toNat : Int)) := by
          unfold chB at hb
          simp only [Bool.or_eq_true, Bool.and_eq_true, decide_eq_true_eq] at hb
          omega
        clear hb hb'
        rcases hcases with ⟨a1, a2⟩ | ⟨a1, a2, a3⟩ | ⟨a1, a2, a3, a4⟩
        all_goals
          go_wp2_with fail
          go_ret
          exact ⟨by rw [HN2.out]; rfl, rfl⟩
    · have hki : ¬ (k : Int) < (x.length : Int) := by omega
      have HN2 : Hid (namedB x = true) := Lib.hid (by rw [HN.out]; have := HA.out; rw [List.take_of_length_le (by omega)] at this; exact this)
      go_wp2_with fail
      go_ret
      exact ⟨by rw [HN2.out]; rfl, rfl⟩
/-- The two names of a link. -/
def pairOf (a b : Nm) : Nm × Nm := if a < b then (a, b) else (b, a)
abbrev pairV (p : Nm × Nm) : Value := .agg #[encS p.1, encS p.2]
theorem min_str (a b : Nm) (t t1 t2 : TypeId) (w : World) : (Builtin.min_ #[t1, t2] t #[encS a, encS b]).run Tryz.prog w = .ok (encS (pairOf a b).1) w := by
  have e : (Builtin.min_ #[t1, t2] t #[encS a, encS b]).run Tryz.prog w = .ok (encS (if (decide (a < b) || (a == b)) = true then a else b)) w := by
    simp [Builtin.min_, Builtin.min2, Op.stringOp, go_sem, Go.Proofs.bytesLess_eq]
    split <;> rfl
  rw [e]
  unfold pairOf
  by_cases h : a < b
  · simp [h]
  · by_cases h2 : a = b
    · subst h2; simp
    · simp [h, h2]
theorem max_str (a b : Nm) (t t1 t2 : TypeId) (w : World) : (Builtin.max_ #[t1, t2] t #[encS a, encS b]).run Tryz.prog w = .ok (encS (pairOf a b).2) w := by
  have e : (Builtin.max_ #[t1, t2] t #[encS a, encS b]).run Tryz.prog w = .ok (encS (if (!decide (a < b)) = true then a else b)) w := by
    simp [Builtin.max_, Builtin.max2, Op.stringOp, go_sem, Go.Proofs.bytesLess_eq]
    split <;> rfl
  rw [e]
  unfold pairOf
  by_cases h : a < b
  · simp [h]
  · simp [h]
set_option maxHeartbeats 1000000 in
theorem between_any (a b : Nm) (w : World) : Calls Tryz.prog 36 #[encS a, encS b] w fun e w' => e = .returned (pairV (pairOf a b)) ∧ Below w.heap.size w w' := by
  have hmin := min_str a b
  have hmax := max_str a b
  generalize pairOf a b = q at *
  go_enter Tryz.func36, Tryz.ntmps36
  go_wp2_with fail
  have hw : ∀ (cs : Array Value) t k, (w.alloc (.cells cs t)).cell? ⟨w.heap.size, k, none⟩ = cs[k]? := fun cs t k => by rw [cell_of_row _ _ _ _ _ _ (heap_alloc_new w _)]
  have k0 := hw #[encS q.1, encS q.2] 84 0
  have k1 := hw #[encS q.1, encS q.2] 84 1
  refine bodyPost_ret (v := pairV q) (by simp [results, Tryz.results36, go_sem, k0, k1]) rfl ?_
  exact ⟨rfl, (Below.refl _ w).alloc (Nat.le_refl _) _⟩
#print axioms between_any
end Go.Proofs.YtghjlbbalngdhaaGreatDoor
