/- A bit string is read back from its text, its bytes and its number: the plain law. Conditions: none beyond those in each statement. -/
import Derived.Test.YtdgmjedkhjeadaaGreatToep
import Derived.Test.YtdgmjedkhjeadaaGreatPack
namespace Go.Proofs.YtdgmjedkhjeadaaGreat
open Go.RowKit
theorem pv_bit (bs : List Bool) (i : Nat) : ∀ k, (pv bs k (i / 8)).testBit (7 - i % 8) = (decide (i < k) && bs.getD i false)
  | 0 => by simp [pv]
  | k + 1 => by
    have ih := pv_bit bs i k
    simp only [pv]
    by_cases hj : k / 8 = i / 8
    · by_cases hb : bs.getD k false = true
      · rw [if_pos ⟨hb, hj⟩, ← hj, ← pv_or, Nat.testBit_or, Nat.testBit_two_pow, hj, ih]
        by_cases hik : i = k
        · subst hik; rw [hb]; simp
        · have h1 : ¬ (7 - k % 8 = 7 - i % 8) := by omega
          rw [decide_eq_false h1, Bool.or_false]
          by_cases h2 : i < k
          · rw [decide_eq_true h2, decide_eq_true (by omega : i < k + 1)]
          · rw [decide_eq_false h2, decide_eq_false (by omega : ¬ i < k + 1)]
      · rw [if_neg (fun h => hb h.1), Nat.add_zero, ih]
        by_cases hik : i = k
        · subst hik
          have hb' : bs.getD i false = false := by cases h : bs.getD i false <;> simp_all
          rw [hb']; simp
        · by_cases h2 : i < k
          · rw [decide_eq_true h2, decide_eq_true (by omega : i < k + 1)]
          · rw [decide_eq_false h2, decide_eq_false (by omega : ¬ i < k + 1)]
    · rw [if_neg (fun h => hj h.2), Nat.add_zero, ih]
      have hik : i ≠ k := fun h => hj (by rw [h])
      by_cases h2 : i < k
      · rw [decide_eq_true h2, decide_eq_true (by omega : i < k + 1)]
      · rw [decide_eq_false h2, decide_eq_false (by omega : ¬ i < k + 1)]
def packN (bs : List Bool) : List Nat := (packL bs).map UInt8.toNat
theorem packN_lt (bs : List Bool) : ∀ x ∈ packN bs, x < 256 := by
  intro x hx
  obtain ⟨c, _, rfl⟩ := List.mem_map.1 hx
  exact c.toNat_lt
theorem packN_cells (bs : List Bool) : (packN bs).map (fun x : Nat => Value.int .u8 x) = Lib.byteCells (packL bs) := by
  simp [packN, Lib.byteCells, List.map_map, Function.comp_def]
theorem packN_get (bs : List Bool) (i : Nat) (h : i < 8 * ((bs.length + 7) / 8)) : (packN bs).getD (i / 8) 0 = pv bs bs.length (i / 8) := by
  have hi : i / 8 < (bs.length + 7) / 8 := by omega
  simp only [packN, packL, List.map_map, List.getD, List.getElem?_map, List.getElem?_range hi, Option.map_some, Option.getD_some, Function.comp_apply]
  rw [UInt8.toNat_ofNat', Nat.mod_eq_of_lt (pv_lt _ _ _)]
theorem bitU_pack (bs : List Bool) (i : Nat) (h : i < 8 * ((bs.length + 7) / 8)) : bitU (packN bs) i = (decide (i < bs.length) && bs.getD i false) := by
  rw [bitU, packN_get bs i h, ← pv_bit bs i bs.length, Nat.testBit_eq_decide_div_mod_eq]
  rfl
theorem unL_pack (bs : List Bool) : unL (packN bs) bs.length = bs := by
  apply List.ext_getElem
  · simp [unL]
  · intro i h1 h2
    simp only [unL, List.getElem_map, List.getElem_range]
    rw [bitU_pack bs i (by omega), decide_eq_true h2, Bool.true_and]
    simp [List.getD, List.getElem?_eq_getElem h2]
theorem okU_pack (bs : List Bool) : okU (packN bs) bs.length (8 * ((bs.length + 7) / 8)) = true := by
  simp only [okU, List.all_eq_true, List.mem_range]
  intro i hi
  rw [bitU_pack bs i hi]
  by_cases h : i < bs.length
  · simp [h]
  · simp [h]
end Go.Proofs.YtdgmjedkhjeadaaGreat
