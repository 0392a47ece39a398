/- The walk of AlgebraLinear: it returns true for every seed and bit strings. -/
import Derived.Test.YthmooplhhkafcaaToepWalk
import Derived.Deep.RegionHeld3
namespace Go.Proofs.Ythmooplhhkafcaa
open Go.RowKit
set_option linter.unusedVariables false
/-- A slice expression from the start, within the length. -/
theorem slice_head {P : Program} {t e : TypeId} {sz : Nat} (ht' : P.underlying t = some (.slice e)) (hz' : ∀ w, (sizeOf e).run P w = .ok sz w)
    {w : World} {B n : Nat} {A : Option Addr} {xs : List Value} (h : Rd w B sz A n xs) (E : Int) (hi c : Nat) (hE : E = (hi : Int)) (hhi : hi ≤ n) (hc : n ≤ c) :
    ∃ A2, (∀ w', (Instr.sliceAt t (.slice A n c) none (some (.int .i64 E)) none).run P w' = .ok (.slice A2 hi c) w') ∧ Rd w B sz A2 hi (xs.take (hi * sz)) := by
  subst hE
  have he : P.elem t = e := by simp [Program.elem, ht']
  have ht : P.underlying t = some (.slice (P.elem t)) := by rw [he]; exact ht'
  have hz : ∀ w, (sizeOf (P.elem t)).run P w = .ok sz w := by rw [he]; exact hz'
  have hr := h.cut (Nat.zero_le hi) hhi hc
  simp only [Nat.zero_mul, List.drop_zero, Nat.sub_zero] at hr
  refine ⟨_, fun w' => ?_, hr⟩
  rw [run_sliceAt_slice (h := ht), run_slice_h (ht := ht) (h0 := by omega) (h2 := by omega), hz]
  simp [Result.andThen, sliced]
theorem toepL_xor (seed a b : List Bool) (o n : Nat) (ha : a.length = n) (hb : b.length = n) : toepL seed (xorL a b) o (xorL a b).length = xorL (toepL seed a o a.length) (toepL seed b o b.length) := by
  apply List.ext_getElem
  · simp [toepL, xorL]
  · intro i h1 h2
    have hx : (xorL a b).length = n := by rw [xorL_len (by omega), ha]
    simp only [toepL, xorL, List.getElem_map, List.getElem_range, List.getElem_zipWith]
    have hx' : (List.zipWith (fun x y => x != y) a b).length = n := hx
    rw [hx', tb_xor seed a b n i n (by omega) (by omega), ha, hb]
end Go.Proofs.Ythmooplhhkafcaa
