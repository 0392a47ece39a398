/- Contracts of kept, zip and Xor. Conditions: as each statement says. -/
import Derived.Test.YtecndceekgaglaaGreatBits2
import Derived.Test.YtecndceekgaglaaGreatApp
import Derived.Test.YtecndceekgaglaaGreatField
import Derived.Test.YtecndceekgaglaaGreatMath
namespace Go.Proofs.YtecndceekgaglaaGreat
open Go.RowKit
end Go.Proofs.YtecndceekgaglaaGreat
/- Contracts of the functions between bits and numbers (program and reference): number, Word, Number. Conditions: as each statement says. -/
namespace Go.Proofs.YtecndceekgaglaaGreat
open Go.RowKit
set_option linter.unusedVariables false
set_option linter.unusedSimpArgs false
def wordV (l : List Bool) : Nat := l.foldl (fun n b => 2 * n + if b then 1 else 0) 0
theorem wordV_snoc (l : List Bool) (b : Bool) : wordV (l ++ [b]) = 2 * wordV l + if b then 1 else 0 := by simp [wordV, List.foldl_append]
theorem wordV_lt (l : List Bool) : wordV l < 2 ^ l.length := by
  suffices h : ∀ (r : List Bool), wordV r.reverse < 2 ^ r.length by have := h l.reverse; simpa using this
  intro r
  induction r with
  | nil => simp [wordV]
  | cons b r ih =>
    rw [List.reverse_cons, wordV_snoc, List.length_cons, Nat.pow_succ]
    split <;> omega
theorem wordV_small (l : List Bool) (k n : Nat) (hk : k < n) (hn : n ≤ 64) : wordV (l.take k) < 9223372036854775808 := by
  refine Nat.lt_of_lt_of_le (wordV_lt _) ?_
  refine Nat.le_trans (Nat.pow_le_pow_right (by omega) (List.length_take_le _ _)) ?_
  exact Nat.le_trans (Nat.pow_le_pow_right (by omega) (show k ≤ 63 by omega)) (by decide)
/-- The bits of a number. -/
def numL (a width : Nat) : List Bool := (List.range width).map fun i => (a / 2 ^ (width - 1 - i)) % 2 == 1
theorem numL_len (a width : Nat) : (numL a width).length = width := by simp [numL]
theorem or_one {q : Nat} (hq : q < 9223372036854775808) : bits BinOp.or IntKind.u64 ((q : Int) * 2) 1 = ((2 * q + 1 : Nat) : Int) := by
  rw [show ((q : Int) * 2) = ((q * 2 : Nat) : Int) by omega, show (1 : Int) = ((1 : Nat) : Int) from rfl, u64_or_nat _ _ (by omega) (by omega)]
  congr 1
  rw [Nat.mul_comm]
  exact (Nat.two_pow_add_eq_or_of_lt (i := 1) (b := 1) (by decide) q).symm
/-- A store into the last of the cells that have not been filled, from the end on. -/
theorem row_put {wi : World} {h q : Nat} {t : TypeId} {xs : List Value} {z u : Value} (hh : wi.heap[h]? = some (.cells (List.replicate (q + 1) z ++ xs).toArray t (0, 0))) :
    (wi.setCell ⟨h, q, none⟩ u).heap[h]? = some (.cells (List.replicate q z ++ (u :: xs)).toArray t (0, 0)) := by
  simp only [World.setCell, Array.getElem?_modify, hh, if_true, Option.map_some, Option.isSome_none, Bool.false_eq_true, if_false]
  congr 2
  apply Array.ext'
  rw [List.replicate_succ']
  simp
theorem numL_drop (a width q : Nat) (hq : q < width) : (numL a width).drop q = ((a / 2 ^ (width - 1 - q)) % 2 == 1) :: (numL a width).drop (q + 1) := by
  rw [List.drop_eq_getElem_cons (by rw [numL_len]; exact hq)]
  simp [numL]
theorem numL_take (a width q : Nat) (hq : q < width) : (numL a width).take (q + 1) = (numL a width).take q ++ [((a / 2 ^ (width - 1 - q)) % 2 == 1)] := by
  rw [take_snoc _ _ (by rw [numL_len]; exact hq)]
  simp [numL]
theorem odd_cast (b : Nat) : ((b : Int) % 2 == 1) = (b % 2 == 1) := by
  rw [Bool.eq_iff_iff]
  simp
  omega
theorem mask_one (b : Nat) (hb : b < 18446744073709551616) : (bits BinOp.and IntKind.u64 (b : Int) 1 == 1) = (b % 2 == 1) := by
  rw [show (1 : Int) = ((1 : Nat) : Int) from rfl, u64_and_nat b 1 hb (by omega), nat_mask1, Bool.eq_iff_iff]
  simp
  omega
end Go.Proofs.YtecndceekgaglaaGreat
/- Plain mathematics of AlgebraHash: the words of a bit string; the program's hash (step by step) is the document's (a sum of words times powers). No program is in sight. -/
namespace Go.Proofs.YtecndceekgaglaaGreat
set_option linter.unusedVariables false
/-- The full words of a bit string, and the last one. -/
def chunkL (w : Nat) (m : List Bool) (q : Nat) : List Nat := (List.range q).map fun i => wordV ((m.drop (i * w)).take w)
def tailW (w : Nat) (t : List Bool) : Nat := (2 * wordV t + 1) * 2 ^ (w - 1 - t.length)
def wordsL (w : Nat) (m : List Bool) : List Nat := 1 :: (chunkL w m (m.length / w) ++ [tailW w (m.drop (m.length / w * w))])
theorem chunkL_snoc (w : Nat) (m : List Bool) (q : Nat) : chunkL w m (q + 1) = chunkL w m q ++ [wordV ((m.drop (q * w)).take w)] := by simp [chunkL, List.range_succ]
theorem chunkL_pre (w : Nat) (m : List Bool) {q n : Nat} (h : q ≤ n) : chunkL w m q <+: chunkL w m n := by
  unfold chunkL
  refine List.IsPrefix.map _ ?_
  rw [← Nat.add_sub_of_le h, List.range_add]
  exact ⟨_, rfl⟩
theorem words_pre (w : Nat) (m : List Bool) {q : Nat} (h : q < m.length / w) : (1 :: chunkL w m q) ++ [wordV ((m.drop (q * w)).take w)] <+: wordsL w m := by
  rw [List.cons_append, ← chunkL_snoc]
  obtain ⟨r, hr⟩ := chunkL_pre w m (show q + 1 ≤ m.length / w from h)
  exact ⟨r ++ [tailW w (m.drop (m.length / w * w))], by rw [List.cons_append, ← List.append_assoc, hr]; rfl⟩
theorem wordsL_len (w : Nat) (m : List Bool) : (wordsL w m).length = m.length / w + 2 := by simp [wordsL, chunkL]
theorem tailW_lt {w : Nat} {t : List Bool} (h : t.length < w) : tailW w t < 2 ^ w := by
  unfold tailW
  have h1 := wordV_lt t
  have e : 2 ^ w = 2 * 2 ^ t.length * 2 ^ (w - 1 - t.length) := by
    rw [Nat.mul_assoc, ← Nat.pow_add, ← Nat.pow_succ', show (t.length + (w - 1 - t.length)).succ = w by omega]
  rw [e]
  exact Nat.mul_lt_mul_of_pos_right (by omega) (Nat.two_pow_pos _)
theorem wordsL_lt {w : Nat} (hw : 0 < w) (m : List Bool) : ∀ x ∈ wordsL w m, x < 2 ^ w := by
  intro x hx
  unfold wordsL at hx
  rcases List.mem_cons.1 hx with rfl | hx
  · exact Nat.one_lt_two_pow (by omega)
  · rcases List.mem_append.1 hx with hx | hx
    · obtain ⟨i, _, rfl⟩ := List.mem_map.1 hx
      refine Nat.lt_of_lt_of_le (wordV_lt _) (Nat.pow_le_pow_right (by decide) ?_)
      exact List.length_take_le _ _
    · rw [List.mem_singleton.1 hx]
      refine tailW_lt ?_
      rw [List.length_drop]
      have := Nat.mod_lt m.length hw
      have h2 := Nat.div_add_mod m.length w
      rw [Nat.mul_comm] at h2
      omega
/-- The program's hash of a list of words. -/
def horner (w key : Nat) (xs : List Nat) : Nat := xs.foldl (fun h c => gm w (h ^^^ c) key) 0
theorem horner_snoc (w key : Nat) (xs : List Nat) (c : Nat) : horner w key (xs ++ [c]) = gm w (horner w key xs ^^^ c) key := by simp [horner, List.foldl_append]
/-- The document's hash: from the last word on, each times a power. -/
def sumP (w key : Nat) : List Nat → Nat → Nat
  | [], _ => 0
  | c :: r, p => gm w c p ^^^ sumP w key r (gm w p key)
section
variable {w key : Nat} (hw : IsW w) (hk : key < 2 ^ w)
include hw hk
omit hk in
theorem horner_lt (xs : List Nat) (h : ∀ x ∈ xs, x < 2 ^ w) : horner w key xs < 2 ^ w := by
  suffices ∀ (r : List Nat), (∀ x ∈ r, x < 2 ^ w) → horner w key r.reverse < 2 ^ w by
    have := this xs.reverse (fun x hx => h x (List.mem_reverse.1 hx)); rwa [List.reverse_reverse] at this
  intro r
  induction r with
  | nil => intro _; exact Nat.two_pow_pos _
  | cons c r ih =>
    intro h
    rw [List.reverse_cons, horner_snoc]
    exact gm_lt hw (Nat.xor_lt_two_pow (ih fun x hx => h x (by simp [hx])) (h c (by simp)))
theorem sumP_horner : ∀ (r : List Nat) (t : Nat), t < 2 ^ w → (∀ x ∈ r, x < 2 ^ w) → sumP w key r (gm w key t) = gm w (horner w key r.reverse) t
  | [], t, ht, _ => by simp [sumP, horner, zero_gm hw]
  | c :: r, t, ht, h => by
    have hp : gm w key t < 2 ^ w := gm_lt hw hk
    have hc : c < 2 ^ w := h c (by simp)
    have hr := horner_lt hw (key := key) r.reverse (fun x hx => h x (by simp [List.mem_reverse.1 hx]))
    rw [sumP, gm_comm hw hp hk, sumP_horner r (gm w key t) hp (fun x hx => h x (by simp [hx])), List.reverse_cons, horner_snoc]
    rw [← gm_xor_left hw hc hr, Nat.xor_comm c, ← gm_assoc hw (Nat.xor_lt_two_pow hr hc) hk ht]
theorem hash_eq (xs : List Nat) (h : ∀ x ∈ xs, x < 2 ^ w) : sumP w key xs.reverse key = horner w key xs := by
  have := sumP_horner hw hk xs.reverse 1 (one_lt' hw) (fun x hx => h x (List.mem_reverse.1 hx))
  rw [gm_one hw, gm_one hw, List.reverse_reverse] at this
  exact this
end
/-- The bit string with the document's padding. -/
def padL (w : Nat) (m : List Bool) : List Bool := m ++ [true] ++ List.replicate (w - 1 - m.length % w) false
theorem wordV_rep (l : List Bool) : ∀ k, wordV (l ++ List.replicate k false) = wordV l * 2 ^ k
  | 0 => by simp
  | k + 1 => by
    rw [List.replicate_succ', ← List.append_assoc, wordV_snoc, wordV_rep l k, Nat.pow_succ]
    rw [if_neg (by decide), Nat.add_zero, Nat.mul_comm 2, Nat.mul_assoc]
theorem padL_len {w : Nat} (hw : 0 < w) (m : List Bool) : (padL w m).length = (m.length / w + 1) * w := by
  have h1 := Nat.mod_lt m.length hw
  have h2 := Nat.div_add_mod m.length w
  rw [Nat.mul_comm] at h2
  simp only [padL, List.length_append, List.length_replicate, List.length_cons, List.length_nil, Nat.add_mul]
  omega
/-- The document's words are the program's. -/
theorem pad_words {w : Nat} (hw : 0 < w) (m : List Bool) : 1 :: chunkL w (padL w m) (m.length / w + 1) = wordsL w m := by
  have h1 := Nat.mod_lt m.length hw
  have h2 := Nat.div_add_mod m.length w
  rw [Nat.mul_comm] at h2
  rw [wordsL, chunkL_snoc]
  congr 2
  · unfold chunkL
    apply List.map_congr_left
    intro i hi
    have hi' := List.mem_range.1 hi
    have hle : (i + 1) * w ≤ m.length / w * w := Nat.mul_le_mul_right _ hi'
    rw [Nat.add_mul] at hle
    unfold padL
    rw [List.append_assoc, List.drop_append_of_le_length (by omega), List.take_append_of_le_length (by rw [List.length_drop]; omega)]
  · congr 1
    unfold padL tailW
    rw [List.append_assoc, List.drop_append_of_le_length (by omega), List.take_of_length_le (by simp; omega)]
    have hl : (m.drop (m.length / w * w)).length = m.length % w := by rw [List.length_drop]; omega
    rw [← List.append_assoc, wordV_rep, wordV_snoc, hl]
    simp
end Go.Proofs.YtecndceekgaglaaGreat
