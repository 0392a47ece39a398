/- Plain mathematics: insertion sort is the sorted list. No program is in sight. -/
import Derived.Test.YthmooplhhkafcaaOrdMath
namespace Go.Proofs.Ythmooplhhkafcaa
set_option linter.unusedVariables false
def insAt (l : List Int) (x : Int) : Nat := (l.takeWhile fun y => decide (y < x)).length
def insL (l : List Int) (x : Int) : List Int := l.take (insAt l x) ++ [x] ++ l.drop (insAt l x)
theorem insAt_le (l : List Int) (x : Int) : insAt l x ≤ l.length := (List.takeWhile_sublist _).length_le
theorem insAt_lt {l : List Int} {x : Int} : ∀ {q : Nat}, q < insAt l x → l.getD q 0 < x := by
  intro q hq
  unfold insAt at hq
  have h1 : (l.takeWhile fun y => decide (y < x))[q] = l[q]'(Nat.lt_of_lt_of_le hq (List.takeWhile_sublist _).length_le) := (List.takeWhile_prefix _).getElem hq
  have h2 : (l.takeWhile fun y => decide (y < x))[q] ∈ l.takeWhile fun y => decide (y < x) := List.getElem_mem _
  have h3 := List.all_takeWhile (p := fun y => decide (y < x)) (l := l)
  rw [List.all_eq_true] at h3
  have h4 := h3 _ h2
  rw [h1] at h4
  simp only [List.getD, List.getElem?_eq_getElem (Nat.lt_of_lt_of_le hq (List.takeWhile_sublist _).length_le), Option.getD_some]
  simpa using h4
/-- The search from the left comes to insAt. -/
theorem insAt_eq (l : List Int) (x : Int) (q : Nat) (h1 : ∀ i, i < q → l.getD i 0 < x) (hq : q ≤ l.length) (h2 : q = l.length ∨ ¬ l.getD q 0 < x) : insAt l x = q := by
  rcases Nat.lt_trichotomy (insAt l x) q with h | h | h
  · exfalso
    have h3 : ∀ (l : List Int) (i : Nat), i < l.length → (l.takeWhile fun y => decide (y < x)).length ≤ i → ∃ j, j ≤ i ∧ ¬ l.getD j 0 < x := by
      intro l
      induction l with
      | nil => intro i hi; simp at hi
      | cons a l ih =>
        intro i hi ht
        rw [List.takeWhile_cons] at ht
        by_cases ha : a < x
        · rw [if_pos (by simpa using ha)] at ht
          rw [List.length_cons] at ht
          obtain ⟨j, hj, hj2⟩ := ih (i - 1) (by simp at hi; omega) (by omega)
          exact ⟨j + 1, by omega, by simpa using hj2⟩
        · exact ⟨0, by omega, by simpa using ha⟩
    obtain ⟨j, hj, hj2⟩ := h3 l (insAt l x) (by omega) (Nat.le_refl _)
    exact hj2 (h1 j (by omega))
  · exact h
  · rcases h2 with h2 | h2
    · have := insAt_le l x; omega
    · exact absurd (insAt_lt h) h2
def srtL (l : List Int) : List Int := l.foldl insL []
theorem srtL_snoc (l : List Int) (x : Int) : srtL (l ++ [x]) = insL (srtL l) x := by simp [srtL, List.foldl_append]
theorem insL_len (l : List Int) (x : Int) : (insL l x).length = l.length + 1 := by
  have := insAt_le l x
  simp [insL]; omega
theorem insL_perm (l : List Int) (x : Int) : (insL l x).Perm (x :: l) := by
  unfold insL
  have h : (l.take (insAt l x) ++ [x] ++ l.drop (insAt l x)).Perm ([x] ++ l.take (insAt l x) ++ l.drop (insAt l x)) := List.Perm.append_right _ List.perm_append_comm
  refine h.trans ?_
  rw [List.append_assoc, List.take_append_drop]
  exact List.Perm.refl _
theorem insL_sorted (l : List Int) (x : Int) (h : l.Pairwise fun a b => a ≤ b) : (insL l x).Pairwise fun a b => a ≤ b := by
  unfold insL
  have hle := insAt_le l x
  have hd : ∀ b ∈ l.drop (insAt l x), x ≤ b := by
    intro b hb
    obtain ⟨i, hi, rfl⟩ := List.getElem_of_mem hb
    rw [List.getElem_drop]
    have hi' : insAt l x + i < l.length := by rw [List.length_drop] at hi; omega
    have h0 : ¬ l[insAt l x]'(by omega) < x := by
      intro hlt
      have : insAt l x = insAt l x + 1 := by
        have h5 := insAt_eq l x
        have : ∀ q, (∀ i, i < q → l.getD i 0 < x) → q ≤ insAt l x := by
          intro q hq
          rcases Nat.lt_or_ge (insAt l x) q with h6 | h6
          · exfalso
            have h7 : ∀ (l : List Int) (n : Nat), n ≤ l.length → (∀ i, i < n → l.getD i 0 < x) → n ≤ (l.takeWhile fun y => decide (y < x)).length := by
              intro l
              induction l with
              | nil => intro n hn _; simpa using hn
              | cons a l ih =>
                intro n hn hh
                cases n with
                | zero => omega
                | succ n =>
                  have ha : a < x := by simpa using hh 0 (by omega)
                  rw [List.takeWhile_cons, if_pos (by simpa using ha), List.length_cons]
                  have := ih n (by simpa using hn) (fun i hi => by simpa using hh (i + 1) (by omega))
                  omega
            have := h7 l (insAt l x + 1) (by omega) (fun i hi => hq i (by omega))
            unfold insAt at this h6
            omega
          · exact h6
        have := this (insAt l x + 1) (fun i hi => by
          rcases Nat.lt_or_ge i (insAt l x) with h8 | h8
          · exact insAt_lt h8
          · have e : i = insAt l x := by omega
            rw [e]
            simp only [List.getD, List.getElem?_eq_getElem (show insAt l x < l.length by omega), Option.getD_some]
            exact hlt)
        omega
      omega
    rcases Nat.eq_zero_or_pos i with h1 | h1
    · subst h1; simp only [Nat.add_zero]; omega
    · have := List.pairwise_iff_getElem.1 h (insAt l x) (insAt l x + i) (by omega) hi' (by omega)
      omega
  have ht : ∀ a ∈ l.take (insAt l x), a < x := by
    intro a ha
    obtain ⟨i, hi, rfl⟩ := List.getElem_of_mem ha
    rw [List.length_take] at hi
    rw [List.getElem_take]
    have := insAt_lt (l := l) (x := x) (q := i) (by omega)
    simpa [List.getD, List.getElem?_eq_getElem (show i < l.length by omega)] using this
  rw [List.append_assoc, List.pairwise_append]
  refine ⟨h.sublist (List.take_sublist _ _), ?_, ?_⟩
  · rw [List.singleton_append, List.pairwise_cons]
    exact ⟨hd, h.sublist (List.drop_sublist _ _)⟩
  · intro a ha b hb
    have h1 := ht a ha
    rcases List.mem_append.1 hb with h2 | h2
    · have := List.mem_singleton.1 h2; omega
    · have := hd b h2; omega
theorem srtL_facts (l : List Int) : (srtL l).Perm l ∧ (srtL l).Pairwise fun a b => a ≤ b := by
  suffices h : ∀ (r : List Int), (srtL r.reverse).Perm r.reverse ∧ (srtL r.reverse).Pairwise fun a b => a ≤ b by
    have := h l.reverse; simpa using this
  intro r
  induction r with
  | nil => simp [srtL]
  | cons x r ih =>
    rw [List.reverse_cons, srtL_snoc]
    exact ⟨(insL_perm _ _).trans (((ih.1.cons x)).trans (List.perm_append_comm (l₁ := [x]))), insL_sorted _ _ ih.2⟩
theorem srtL_len (l : List Int) : (srtL l).length = l.length := (srtL_facts l).1.length_eq
theorem srtL_samp (s n k : Nat) : srtL ((permL s n).take k) = sampL s n k :=
  List.Perm.eq_of_pairwise (le := fun a b : Int => a ≤ b) (fun a b _ _ h1 h2 => by omega) (srtL_facts _).2 (sampL_sorted s n k) ((srtL_facts _).1.trans (sampL_perm s n k).symm)
end Go.Proofs.Ythmooplhhkafcaa
