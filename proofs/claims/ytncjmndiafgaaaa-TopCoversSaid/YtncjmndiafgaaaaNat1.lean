/- Natural numbers as lists of limbs. Conditions: none beyond those in each statement. -/
import Derived.Test.YtncjmndiafgaaaaBase
namespace Go.Proofs.Ytncjmndiafgaaaa
open Go.RowKit
set_option linter.unusedVariables false
def valL : List Nat → Nat
  | [] => 0
  | x :: l => x + 4294967296 * valL l
def Limbs (l : List Nat) : Prop := ∀ x ∈ l, x < 4294967296
theorem valL_append : ∀ (l m : List Nat), valL (l ++ m) = valL l + 4294967296 ^ l.length * valL m
  | [], m => by simp [valL]
  | x :: l, m => by
    rw [List.cons_append, valL, valL, valL_append l m, List.length_cons, Nat.pow_succ, Nat.mul_add, ← Nat.mul_assoc, Nat.mul_comm (4294967296 ^ l.length)]; omega
theorem valL_snoc (l : List Nat) (x : Nat) : valL (l ++ [x]) = valL l + 4294967296 ^ l.length * x := by
  rw [valL_append]; simp [valL]
theorem Limbs.cons {x : Nat} {l : List Nat} (h : Limbs (x :: l)) : x < 4294967296 ∧ Limbs l := ⟨h x (by simp), fun y hy => h y (by simp [hy])⟩
theorem Limbs.take {l : List Nat} (h : Limbs l) (n : Nat) : Limbs (l.take n) := fun x hx => h x (List.mem_of_mem_take hx)
theorem Limbs.drop {l : List Nat} (h : Limbs l) (n : Nat) : Limbs (l.drop n) := fun x hx => h x (List.mem_of_mem_drop hx)
theorem Limbs.snoc {l : List Nat} {x : Nat} (h : Limbs l) (hx : x < 4294967296) : Limbs (l ++ [x]) := fun y hy => by
  rw [List.mem_append] at hy
  rcases hy with hy | hy
  · exact h y hy
  · simp only [List.mem_singleton] at hy; omega
theorem Limbs.zeros (n : Nat) : Limbs (List.replicate n 0) := fun x hx => by rw [List.eq_of_mem_replicate hx]; decide
theorem Limbs.set {l : List Nat} {i x : Nat} (h : Limbs l) (hx : x < 4294967296) : Limbs (l.set i x) := fun y hy => by
  rcases List.mem_or_eq_of_mem_set hy with hy | hy
  · exact h y hy
  · omega
theorem Limbs.getD {l : List Nat} (h : Limbs l) (i : Nat) : l.getD i 0 < 4294967296 := by
  by_cases hi : i < l.length
  · rw [List.getD_eq_getElem?_getD, List.getElem?_eq_getElem hi]; exact h _ (List.getElem_mem hi)
  · rw [List.getD_eq_getElem?_getD, List.getElem?_eq_none (by omega)]; decide
theorem valL_lt : ∀ {l : List Nat}, Limbs l → valL l < 4294967296 ^ l.length
  | [], _ => by simp [valL]
  | x :: l, h => by
    obtain ⟨h1, h2⟩ := h.cons
    have := valL_lt h2
    rw [valL, List.length_cons, Nat.pow_succ]
    omega
theorem valL_zeros : ∀ n, valL (List.replicate n 0) = 0
  | 0 => rfl
  | n + 1 => by rw [List.replicate_succ, valL, valL_zeros n]
/-- How many limbs are left without zeros at the end. -/
def trimN (l : List Nat) : Nat → Nat
  | 0 => 0
  | n + 1 => if l.getD n 0 = 0 then trimN l n else n + 1
def trimL (l : List Nat) : List Nat := l.take (trimN l l.length)
/-- No zero at the end. -/
def Nrm (l : List Nat) : Prop := l = [] ∨ l.getD (l.length - 1) 0 ≠ 0
theorem trimN_le (l : List Nat) : ∀ n, trimN l n ≤ n
  | 0 => Nat.le_refl _
  | n + 1 => by rw [trimN]; split
                · exact Nat.le_trans (trimN_le l n) (Nat.le_succ n)
                · exact Nat.le_refl _
theorem trimN_val (l : List Nat) : ∀ n, n ≤ l.length → valL (l.take (trimN l n)) = valL (l.take n)
  | 0, _ => rfl
  | n + 1, h => by
    rw [trimN]
    split
    · rename_i h0
      rw [trimN_val l n (by omega), take_snoc _ _ (show n < l.length by omega), valL_snoc]
      have : l[n]'(by omega) = 0 := by
        rw [List.getD_eq_getElem?_getD, List.getElem?_eq_getElem (show n < l.length by omega)] at h0; exact h0
      rw [this]; omega
    · rfl
theorem trimL_val (l : List Nat) : valL (trimL l) = valL l := by
  unfold trimL
  rw [trimN_val l _ (Nat.le_refl _), List.take_of_length_le (Nat.le_refl _)]
theorem trimL_len (l : List Nat) : (trimL l).length = trimN l l.length := by
  unfold trimL
  rw [List.length_take]; have := trimN_le l l.length; omega
theorem trimN_nz (l : List Nat) : ∀ n, 0 < trimN l n → l.getD (trimN l n - 1) 0 ≠ 0
  | 0, h => absurd h (by simp [trimN])
  | n + 1, h => by
    rw [trimN] at h ⊢
    split at h
    · rename_i h0; rw [if_pos h0]; exact trimN_nz l n h
    · rename_i h0; rw [if_neg h0]; exact h0
theorem trimL_nrm (l : List Nat) : Nrm (trimL l) := by
  rcases Nat.eq_zero_or_pos (trimN l l.length) with h | h
  · exact .inl (by unfold trimL; rw [h]; rfl)
  · refine .inr ?_
    rw [trimL_len]
    unfold trimL
    have := trimN_nz l l.length h
    rw [List.getD_eq_getElem?_getD, List.getElem?_take, if_pos (by omega), ← List.getD_eq_getElem?_getD]
    exact this
theorem trimL_limbs {l : List Nat} (h : Limbs l) : Limbs (trimL l) := h.take _
theorem trimN_of_nrm {l : List Nat} (h : Nrm l) : trimN l l.length = l.length := by
  rcases h with rfl | h
  · rfl
  · cases hl : l.length with
    | zero => rfl
    | succ n =>
      rw [hl] at h
      rw [trimN, if_neg (by simpa using h)]
theorem nrm_pos {l : List Nat} (h : Nrm l) (h0 : 0 < l.length) : 4294967296 ^ (l.length - 1) ≤ valL l := by
  rcases h with rfl | h
  · simp at h0
  · have hk : l.length - 1 < l.length := by omega
    have e := take_snoc l (l.length - 1) hk
    rw [show l.length - 1 + 1 = l.length by omega, List.take_of_length_le (Nat.le_refl _)] at e
    have h2 : 1 ≤ l[l.length - 1] := by
      rw [List.getD_eq_getElem?_getD, List.getElem?_eq_getElem hk] at h
      simp only [Option.getD_some] at h; omega
    have hv : valL l = valL (l.take (l.length - 1)) + 4294967296 ^ (l.length - 1) * l[l.length - 1] := by
      conv => lhs; rw [e, valL_snoc, List.length_take, Nat.min_eq_left (by omega)]
    rw [hv]
    have := Nat.mul_le_mul_left (4294967296 ^ (l.length - 1)) h2
    omega
theorem len_lt {a b : List Nat} (ha : Limbs a) (hb : Nrm b) (h : a.length < b.length) : valL a < valL b := by
  have h1 := valL_lt ha
  have h2 := nrm_pos hb (by omega)
  have h3 : 4294967296 ^ a.length ≤ 4294967296 ^ (b.length - 1) := Nat.pow_le_pow_right (by decide) (by omega)
  omega
/-- The highest limb that differs decides. -/
theorem top_lt {a b : List Nat} {i : Nat} (ha : Limbs a) (hi : i < a.length) (hi2 : i < b.length) (hd : a.drop (i + 1) = b.drop (i + 1)) (h : a.getD i 0 < b.getD i 0) : valL a < valL b := by
  have ea : a = a.take i ++ (a[i] :: a.drop (i + 1)) := by rw [← List.drop_eq_getElem_cons hi, List.take_append_drop]
  have eb : b = b.take i ++ (b[i] :: b.drop (i + 1)) := by rw [← List.drop_eq_getElem_cons hi2, List.take_append_drop]
  have h' : a[i] < b[i] := by
    rw [List.getD_eq_getElem?_getD, List.getElem?_eq_getElem hi, List.getD_eq_getElem?_getD, List.getElem?_eq_getElem hi2] at h; exact h
  have va : valL a = valL (a.take i) + 4294967296 ^ i * (a[i] + 4294967296 * valL (a.drop (i + 1))) := by
    conv => lhs; rw [ea, valL_append, List.length_take, Nat.min_eq_left (by omega), valL]
  have vb : valL b = valL (b.take i) + 4294967296 ^ i * (b[i] + 4294967296 * valL (b.drop (i + 1))) := by
    conv => lhs; rw [eb, valL_append, List.length_take, Nat.min_eq_left (by omega), valL]
  rw [va, vb, hd]
  have h1 := valL_lt (ha.take i)
  rw [List.length_take, Nat.min_eq_left (by omega)] at h1
  have h2 : 4294967296 ^ i * (a[i] + 4294967296 * valL (b.drop (i + 1))) + 4294967296 ^ i ≤ 4294967296 ^ i * (b[i] + 4294967296 * valL (b.drop (i + 1))) := by
    rw [← Nat.mul_succ]
    exact Nat.mul_le_mul_left _ (by omega)
  omega
/-- How two numbers compare, as the program says it. -/
def ordI (v u : Nat) : Int := if v < u then -1 else if u < v then 1 else 0
end Go.Proofs.Ytncjmndiafgaaaa
