/- Plain mathematics of the Toeplitz hash. No program is in sight. -/
namespace Go.Proofs.Ytahfkhnhmnjbeaa
set_option linter.unusedVariables false
/-- Bit i of the hash after k bits of a. -/
def tb (seed a : List Bool) (n i : Nat) : Nat → Bool
  | 0 => false
  | k + 1 => tb seed a n i k != (a.getD k false && seed.getD (i + (n - 1 - k)) false)
def toepL (seed a : List Bool) (out k : Nat) : List Bool := (List.range out).map fun i => tb seed a a.length i k
theorem toepL_len (seed a : List Bool) (out k : Nat) : (toepL seed a out k).length = out := by simp [toepL]
theorem toepL_zero (seed a : List Bool) (out : Nat) : toepL seed a out 0 = List.replicate out false := by
  apply List.ext_getElem
  · simp [toepL]
  · intro i h1 h2; simp [toepL, tb]
theorem toepL_skip {seed a : List Bool} {out k : Nat} (h : a.getD k false = false) : toepL seed a out (k + 1) = toepL seed a out k := by
  unfold toepL
  congr 1
  funext i
  simp only [tb, h, Bool.false_and]
  cases tb seed a a.length i k <;> rfl
theorem toepL_none (seed a : List Bool) (k : Nat) : toepL seed a 0 k = [] := rfl
theorem toepL_add {seed a : List Bool} {out k q : Nat} (hk : k < a.length) (hq : q = a.length - 1 - k) (hs : q + out ≤ seed.length) (h : a.getD k false = true) :
    toepL seed a out (k + 1) = List.zipWith (fun x y => x != y) (toepL seed a out k) ((seed.drop q).take out) := by
  apply List.ext_getElem
  · simp [toepL]; omega
  · intro i h1 h2
    have hi : i < out := by simpa [toepL] using h1
    simp only [toepL, List.getElem_map, List.getElem_range, List.getElem_zipWith, List.getElem_take, List.getElem_drop, tb, h, Bool.true_and]
    rw [← hq, List.getD_eq_getElem?_getD, List.getElem?_eq_getElem (by omega), Option.getD_some]
    congr 2
    omega
/-- The hash of the xor is the xor of the hashes. -/
theorem tb_xor (seed a b : List Bool) (n i : Nat) : ∀ k, k ≤ a.length → k ≤ b.length →
    tb seed (List.zipWith (fun x y => x != y) a b) n i k = (tb seed a n i k != tb seed b n i k)
  | 0, _, _ => rfl
  | k + 1, ha, hb => by
    simp only [tb]
    rw [tb_xor seed a b n i k (by omega) (by omega)]
    have e : (List.zipWith (fun x y => x != y) a b).getD k false = (a.getD k false != b.getD k false) := by
      simp only [List.getD_eq_getElem?_getD]
      rw [List.getElem?_eq_getElem (by simp; omega), List.getElem?_eq_getElem (by omega), List.getElem?_eq_getElem (by omega)]
      simp
    rw [e]
    cases tb seed a n i k <;> cases tb seed b n i k <;> cases a.getD k false <;> cases b.getD k false <;> cases seed.getD (i + (n - 1 - k)) false <;> rfl
end Go.Proofs.Ytahfkhnhmnjbeaa
