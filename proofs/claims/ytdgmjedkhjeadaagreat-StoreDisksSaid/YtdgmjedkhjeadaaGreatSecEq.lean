/- Two sectors are compared. Conditions: as each statement says. -/
import Derived.Test.YtdgmjedkhjeadaaGreatRecW
import Derived.ChangeKeysEq
namespace Go.Proofs.YtdgmjedkhjeadaaGreat
open Go.RowKit
set_option linter.unusedVariables false
theorem info_u8q : (Tryz.prog.info? 5).map (fun i => (i.zero, i.size, i.bytes)) = some (some (.int .u8 0), 1, 1) := by kernel_rfl
theorem sec_part (l : List Nat) (w : World) (j : Nat) (hj : j < l.length) : (part 5 (secC l).toArray (j * 1)).run Tryz.prog w = .ok (.int .u8 (l.getD j 0 : Nat)) w := by
  have h : (secC l).toArray[j]? = some (.int .u8 (l.getD j 0 : Nat)) := by
    rw [List.getElem?_toArray]
    unfold secC
    rw [List.getElem?_map, List.getD_eq_getElem?_getD, List.getElem?_eq_getElem hj]
    rfl
  simp [part, isAgg, run_underlying Tryz.underlying5, h]
theorem sec_item (w : World) (d a b : Nat) : (Op.equalIn (d + 1) 5 (.int .u8 (a : Nat)) (.int .u8 (b : Nat))).run Tryz.prog w = .ok (decide (a = b)) w := by
  rw [run_equalIn_int w d 5 .u8 .u8 _ _ Tryz.underlying5]
  congr 1
  rw [Bool.eq_iff_iff]; simp; omega
theorem sec_items (a b : List Nat) (d : Nat) (w : World) : ∀ (is : List Nat), (∀ j ∈ is, j < a.length ∧ j < b.length) →
    (Op.eqItems (d + 1) 5 1 (secC a).toArray (secC b).toArray is).run Tryz.prog w = .ok (is.all fun j => decide (a.getD j 0 = b.getD j 0)) w
  | [], _ => by simp [Op.eqItems]
  | j :: is, h => by
    obtain ⟨h1, h2⟩ := h j (by simp)
    have ih := sec_items a b d w is (fun k hk => h k (by simp [hk]))
    simp only [Op.eqItems, Sem.run_bind, sec_part a w j h1, sec_part b w j h2, Result.andThen_ok, sec_item]
    by_cases e : a.getD j 0 = b.getD j 0
    · rw [decide_eq_true e]
      simp only [Bool.not_true, Bool.false_eq_true, if_false, List.all_cons, decide_eq_true e, Bool.true_and]
      exact ih
    · rw [decide_eq_false e]
      simp only [Bool.not_false, if_true, List.all_cons, decide_eq_false e, Bool.false_and]
      simp
set_option maxRecDepth 100000 in
theorem sec_eq (a b : List Nat) (ha : a.length = 64) (hb : b.length = 64) (w : World) : (Op.equalIn 10000 101 (.agg (secC a).toArray) (.agg (secC b).toArray)).run Tryz.prog w = .ok (decide (a = b)) w := by
  obtain ⟨i, hi, _, _, _⟩ := info_parts info_u8q
  have hc : Tryz.prog.cellsOf 5 = 1 := by kernel_rfl
  show (Op.equalIn (9998 + 1 + 1) _ _ _).run Tryz.prog w = _
  rw [run_equalIn_array w (9998 + 1) _ _ Tryz.underlying101 hi, hc]
  rw [sec_items a b 9998 w _ (fun j hj => by rw [List.mem_range] at hj; omega)]
  congr 1
  rw [Bool.eq_iff_iff]
  simp only [List.all_eq_true, List.mem_range, decide_eq_true_eq]
  constructor
  · intro h
    refine List.ext_getElem (by omega) fun j h1 h2 => ?_
    have := h j (by omega)
    rw [List.getD_eq_getElem?_getD, List.getD_eq_getElem?_getD, List.getElem?_eq_getElem h1, List.getElem?_eq_getElem h2] at this
    exact this
  · rintro rfl j _
    rfl
end Go.Proofs.YtdgmjedkhjeadaaGreat
