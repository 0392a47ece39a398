/- Plain mathematics: the product of a finite field as the program multiplies. No program is in sight. -/

namespace Go.Proofs.YtdgmjedkhjeadaaGreat

/-- The polynomial of the field of a width. -/
def modN (w : Nat) : Nat := if w = 8 then 0x11b else if w = 16 then 0x1002b else if w = 32 then 0x10000008d else 0
/-- Times x. -/
def xt (w a : Nat) : Nat := if a * 2 / 2 ^ w = 0 then a * 2 else (a * 2) ^^^ modN w
/-- The program's product: f rounds. -/
def tim (w : Nat) : Nat → Nat → Nat → Nat → Nat
  | 0, _, _, n => n
  | f + 1, a, b, n => if b = 0 then n else tim w f (xt w a) (b / 2) (if b % 2 = 1 then n ^^^ a else n)
def IsW (w : Nat) : Prop := w = 8 ∨ w = 16 ∨ w = 32
theorem IsW.le {w : Nat} (h : IsW w) : w ≤ 32 := by unfold IsW at h; omega
theorem IsW.pos {w : Nat} (h : IsW w) : 8 ≤ w := by unfold IsW at h; omega
/-- The product. -/
def gm (w a b : Nat) : Nat := tim w 64 a b 0
set_option linter.unusedSectionVars false
set_option linter.unusedVariables false
set_option linter.unusedSimpArgs false

/-! ### Numbers as bit strings -/
/-! ### Times x -/
/-! ### A polynomial acts on the elements -/
section
variable {w : Nat} (hw : IsW w)
include hw
/-! ### The laws of the product -/
end

/-! ### Linear maps -/
/-! ### Squares -/
section
variable {w : Nat} (hw : IsW w)
include hw
/-! ### Powers and inverses -/
end
def pw (w a : Nat) : Nat → Nat
  | 0 => 1
  | n + 1 => gm w (pw w a n) a
section
variable {w : Nat} (hw : IsW w)
include hw
end
/-- The inverse. -/
def inv (w a : Nat) : Nat := pw w a (2 ^ w - 2)
section
variable {w : Nat} (hw : IsW w)
include hw
end
end Go.Proofs.YtdgmjedkhjeadaaGreat
namespace Go.Proofs.YtdgmjedkhjeadaaGreat
set_option linter.unusedVariables false
def Bytes (l : List Nat) : Prop := ∀ x ∈ l, x < 256
theorem Bytes.tail {c : Nat} {p : List Nat} (h : Bytes (c :: p)) : Bytes p := fun y hy => h y (by simp [hy])
theorem Bytes.head {c : Nat} {p : List Nat} (h : Bytes (c :: p)) : c < 256 := h c (by simp)
theorem Bytes.cons {c : Nat} {p : List Nat} (hc : c < 256) (h : Bytes p) : Bytes (c :: p) := fun y hy => by
  rcases List.mem_cons.1 hy with rfl | hy
  · exact hc
  · exact h y hy
theorem Bytes.nil : Bytes [] := fun _ h => by cases h
theorem Bytes.append {p q : List Nat} (hp : Bytes p) (hq : Bytes q) : Bytes (p ++ q) := fun y hy => by
  rcases List.mem_append.1 hy with h | h
  · exact hp y h
  · exact hq y h
theorem Bytes.take {p : List Nat} (hp : Bytes p) (k : Nat) : Bytes (p.take k) := fun y hy => hp y (List.mem_of_mem_take hy)
theorem Bytes.drop {p : List Nat} (hp : Bytes p) (k : Nat) : Bytes (p.drop k) := fun y hy => hp y (List.mem_of_mem_drop hy)
/-- Bit i of the hash after k bits of a. -/
def tb (seed a : List Bool) (n i : Nat) : Nat → Bool
  | 0 => false
  | k + 1 => tb seed a n i k != (a.getD k false && seed.getD (i + (n - 1 - k)) false)
def toepL (seed a : List Bool) (out k : Nat) : List Bool := (List.range out).map fun i => tb seed a a.length i k
end Go.Proofs.YtdgmjedkhjeadaaGreat
