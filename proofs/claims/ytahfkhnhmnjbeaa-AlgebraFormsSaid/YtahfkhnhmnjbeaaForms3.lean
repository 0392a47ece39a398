/- Contracts that the walk of AlgebraForms uses in one form for all cases. Conditions: as each statement says. -/
import Derived.Test.YtahfkhnhmnjbeaaForms2
import Derived.Test.YtahfkhnhmnjbeaaPack
import Derived.Test.YtahfkhnhmnjbeaaFits
import Derived.Test.YtahfkhnhmnjbeaaUnpack4
import Derived.Test.YtahfkhnhmnjbeaaOpenForms
namespace Go.Proofs.Ytahfkhnhmnjbeaa
open Go.RowKit
set_option linter.unusedVariables false
noncomputable def isAB (s : ByteArray) : Bool := @decide (AllBits s.data.toList) (Classical.propDecidable _)
noncomputable def parL (s : ByteArray) : List Bool := if isAB s then bitsOf s.data.toList else []
noncomputable def parE (s : ByteArray) : Int := if isAB s then 0 else 6
/-- Parse, whatever the text: a slice that reads as parL, and the error. -/
theorem Parse_all (s : ByteArray) (w : World) (hs : s.size ≤ 1073741824) :
    Calls Try.prog 52 #[.string s] w fun e w' => ∃ A n c, e = .returned (.tuple #[.slice A n c, .int .i64 (parE s)]) ∧ n ≤ s.size ∧ Rd w' w'.heap.size 1 A n ((parL s).map Value.bool) ∧ Below w.heap.size w w' := by
  refine (Parse_any s w hs).mono fun e w' hp => ?_
  rcases hp with ⟨ha, A, c, rfl, _, hown, hb⟩ | ⟨ha, rfl, hb⟩
  · have hi : isAB s = true := by unfold isAB; exact @decide_eq_true _ (Classical.propDecidable _) ha
    refine ⟨A, s.size, c, ?_, Nat.le_refl _, ?_, hb⟩
    · rw [parE, if_pos hi]
    · rw [parL, if_pos hi]; exact Rd.own hown
  · have hi : isAB s = false := by unfold isAB; exact @decide_eq_false _ (Classical.propDecidable _) ha
    refine ⟨none, 0, 0, ?_, Nat.zero_le _, ?_, hb⟩
    · rw [parE, hi]; rfl
    · rw [parL, hi]; exact Rd.nil _ _ _ _
theorem refParse_all (s : ByteArray) (w : World) (hs : s.size ≤ 1073741824) :
    Calls Try.prog 53 #[.string s] w fun e w' => ∃ A n c, e = .returned (.tuple #[.slice A n c, .bool (isAB s)]) ∧ n ≤ s.size ∧ Rd w' w'.heap.size 1 A n ((parL s).map Value.bool) ∧ Below w.heap.size w w' := by
  refine (refParse_any s w hs).mono fun e w' hp => ?_
  rcases hp with ⟨ha, A, c, rfl, _, hown, hb⟩ | ⟨ha, rfl, hb⟩
  · have hi : isAB s = true := by unfold isAB; exact @decide_eq_true _ (Classical.propDecidable _) ha
    refine ⟨A, s.size, c, ?_, Nat.le_refl _, ?_, hb⟩
    · rw [hi]
    · rw [parL, if_pos hi]; exact Rd.own hown
  · have hi : isAB s = false := by unfold isAB; exact @decide_eq_false _ (Classical.propDecidable _) ha
    refine ⟨none, 0, 0, ?_, Nat.zero_le _, ?_, hb⟩
    · rw [hi]
    · rw [parL, hi]; exact Rd.nil _ _ _ _
end Go.Proofs.Ytahfkhnhmnjbeaa
