/- Contracts of Unpack of the program, the part that is not refused for its range. Conditions: as each statement says. -/
import Derived.Test.YtahfkhnhmnjbeaaUnpack2
namespace Go.Proofs.Ytahfkhnhmnjbeaa
open Go.RowKit
set_option linter.unusedVariables false
set_option linter.unusedSimpArgs false
/-- A slice expression from a place on, up to the length. -/
theorem slice_tail {P : Program} {t e : TypeId} {sz : Nat} (ht' : P.underlying t = some (.slice e)) (hz' : ∀ w, (sizeOf e).run P w = .ok sz w)
    {w : World} {B n : Nat} {A : Option Addr} {xs : List Value} (h : Rd w B sz A n xs) (lo c : Nat) (hlo : lo ≤ n) (hc : n ≤ c) :
    ∃ A2, (∀ w', (Instr.sliceAt t (.slice A n c) (some (.int .i64 lo)) none none).run P w' = .ok (.slice A2 (n - lo) (c - lo)) w') ∧ Rd w B sz A2 (n - lo) ((xs.drop (lo * sz)).take ((n - lo) * sz)) := by
  have he : P.elem t = e := by simp [Program.elem, ht']
  have ht : P.underlying t = some (.slice (P.elem t)) := by rw [he]; exact ht'
  have hz : ∀ w, (sizeOf (P.elem t)).run P w = .ok sz w := by rw [he]; exact hz'
  refine ⟨_, fun w' => ?_, h.cut hlo (Nat.le_refl n) hc⟩
  rw [run_sliceAt_slice (h := ht), run_slice_l (ht := ht) (h0 := by omega) (h1 := by omega), hz]
  simp [Result.andThen, sliced]
theorem okU_cnt (p : List Nat) (n M : Nat) (hn : n ≤ M) : okU p n M = (cnt ((unL p M).drop n) == 0) := by
  rw [Bool.eq_iff_iff]
  simp only [okU, List.all_eq_true, beq_iff_eq, cnt, List.length_eq_zero_iff, List.filter_eq_nil_iff, List.mem_range]
  constructor
  · intro h x hx hxt
    obtain ⟨i, hi⟩ := List.getElem?_of_mem hx
    rw [List.getElem?_drop] at hi
    have hlt : n + i < M := by
      have := (List.getElem?_eq_some_iff.1 hi).1
      simpa [unL] using this
    have e : bitU p (n + i) = x := by simpa [unL, hlt] using hi
    have h1 := h (n + i) hlt
    have hxt' : x = true := hxt
    rw [e, hxt'] at h1
    have h2 : ¬ n + i < n := by omega
    rw [decide_eq_false h2] at h1
    cases h1
  · intro h i hi
    by_cases hin : i < n
    · simp [hin]
    · have hm : bitU p i ∈ (unL p M).drop n := by
        apply List.mem_of_getElem? (i := i - n)
        rw [List.getElem?_drop, show n + (i - n) = i by omega]
        simp [unL, hi]
      have := h _ hm
      simp only [id] at this
      simp [this]
end Go.Proofs.Ytahfkhnhmnjbeaa
