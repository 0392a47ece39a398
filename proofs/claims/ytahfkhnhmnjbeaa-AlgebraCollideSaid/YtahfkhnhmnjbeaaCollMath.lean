/- Plain mathematics of AlgebraCollide: different bit strings have different words; with how many keys two lists of words have the same hash. No program is in sight. -/
import Derived.Test.YtahfkhnhmnjbeaaHashMath
import Derived.Test.YtahfkhnhmnjbeaaPoly
namespace Go.Proofs.Ytahfkhnhmnjbeaa
set_option linter.unusedVariables false
theorem pad_inj : ∀ (i j : Nat) (a b : List Bool), List.replicate i false ++ true :: a = List.replicate j false ++ true :: b → a = b
  | 0, 0, a, b, h => by simpa using h
  | 0, j + 1, a, b, h => by simp [List.replicate_succ] at h
  | i + 1, 0, a, b, h => by simp [List.replicate_succ] at h
  | i + 1, j + 1, a, b, h => pad_inj i j a b (by simpa [List.replicate_succ] using h)
theorem padL_inj {w : Nat} {a b : List Bool} (h : padL w a = padL w b) : a = b := by
  have h1 := congrArg List.reverse h
  simp only [padL, List.reverse_append, List.reverse_cons, List.reverse_nil, List.nil_append, List.reverse_replicate, List.cons_append] at h1
  exact List.reverse_inj.1 (pad_inj _ _ _ _ h1)
theorem wordV_cons (b : Bool) (l : List Bool) : wordV (b :: l) = (if b then 1 else 0) * 2 ^ l.length + wordV l := by
  induction l using snoc_ind with
  | h0 => simp [wordV]
  | h1 l c ih =>
    rw [← List.cons_append, wordV_snoc, ih, wordV_snoc, List.length_append, List.length_singleton, Nat.pow_succ]
    generalize (if b = true then 1 else 0) = x
    generalize (if c = true then 1 else 0) = y
    rw [Nat.mul_add, ← Nat.mul_assoc, Nat.mul_comm 2, ← Nat.mul_assoc, Nat.mul_right_comm]
    omega
theorem wordV_inj : ∀ {a b : List Bool}, a.length = b.length → wordV a = wordV b → a = b
  | [], [], _, _ => rfl
  | [], b :: l, h, _ => by simp at h
  | a :: l, [], h, _ => by simp at h
  | a :: l, b :: m, h, hv => by
    have hl : l.length = m.length := by simpa using h
    rw [wordV_cons, wordV_cons, hl] at hv
    have h1 := wordV_lt l
    have h2 := wordV_lt m
    rw [hl] at h1
    have hab : a = b ∧ wordV l = wordV m := by
      cases a <;> cases b <;> simp at hv ⊢ <;> omega
    rw [hab.1, wordV_inj hl hab.2]
/-- The bits of all chunks. -/
theorem chunks_join (w : Nat) (l : List Bool) : ∀ q, ((List.range q).map fun i => (l.drop (i * w)).take w).flatten = l.take (q * w)
  | 0 => by simp
  | q + 1 => by
    rw [List.range_succ, List.map_append, List.flatten_append, chunks_join w l q, Nat.add_mul, Nat.one_mul, List.take_add]
    simp
theorem wordsL_inj {w : Nat} (hw : 0 < w) {a b : List Bool} (h : wordsL w a = wordsL w b) : a = b := by
  have hl := congrArg List.length h
  rw [wordsL_len, wordsL_len] at hl
  have hq : a.length / w = b.length / w := by omega
  rw [← pad_words hw, ← pad_words hw, hq] at h
  have hc := (List.cons.inj h).2
  have hpa := padL_len hw a
  have hpb := padL_len hw b
  rw [hq] at hpa
  refine padL_inj (w := w) ?_
  have hj : ∀ q, q ≤ b.length / w + 1 → ((padL w a).drop (q * w)).take w = ((padL w b).drop (q * w)).take w ∨ q = b.length / w + 1 := by
    intro q hq1
    rcases Nat.lt_or_ge q (b.length / w + 1) with h1 | h1
    · left
      have h2 : (chunkL w (padL w a) (b.length / w + 1))[q]? = (chunkL w (padL w b) (b.length / w + 1))[q]? := by rw [hc]
      simp only [chunkL, List.getElem?_map, List.getElem?_range h1, Option.map_some, Option.some.injEq] at h2
      refine wordV_inj ?_ h2
      simp only [List.length_take, List.length_drop, hpa, hpb]
    · right; omega
  rw [← List.take_length (l := padL w a), ← List.take_length (l := padL w b), hpa, hpb, ← chunks_join, ← chunks_join]
  congr 1
  apply List.map_congr_left
  intro i hi
  have := List.mem_range.1 hi
  rcases hj i (by omega) with h | h
  · exact h
  · omega
/-- The program's hash is the value of a polynomial. -/
theorem horner_val (key : Nat) (xs : List Nat) : horner 8 key xs = valF (0 :: xs.reverse) key := by
  induction xs using snoc_ind with
  | h0 => simp [horner, valF, zero_gm isW8]
  | h1 xs c ih =>
    rw [horner_snoc, ih, List.reverse_append, List.reverse_singleton, List.singleton_append]
    simp only [valF_cons, Nat.xor_zero]
/-- The keys with which two lists of words have the same hash. -/
def meet (xs ys : List Nat) (n : Nat) : List Nat := (List.range n).filter fun k => horner 8 k xs == horner 8 k ys
theorem meet_snoc (xs ys : List Nat) (n : Nat) : (meet xs ys (n + 1)).length = (meet xs ys n).length + if horner 8 n xs == horner 8 n ys then 1 else 0 := by
  unfold meet
  rw [List.range_succ, List.filter_append, List.length_append]
  congr 1
  by_cases h : horner 8 n xs == horner 8 n ys <;> simp [h]
theorem meet_le (xs ys : List Nat) (n : Nat) : (meet xs ys n).length ≤ n := by
  have := List.length_filter_le (fun k => horner 8 k xs == horner 8 k ys) (List.range n)
  simpa [meet] using this
theorem meet_all (xs : List Nat) : (meet xs xs 256).length = 256 := by
  unfold meet; rw [List.filter_eq_self.2 (fun _ _ => by simp)]; simp
/-- Two different lists of words that begin with 1 have the same hash with at most as many keys as the longer one has words. -/
theorem meet_few {xs ys : List Nat} (hx : Bytes (1 :: xs)) (hy : Bytes (1 :: ys)) (hne : xs ≠ ys) : (meet (1 :: xs) (1 :: ys) 256).length ≤ max (xs.length + 1) (ys.length + 1) := by
  obtain ⟨n, hn⟩ : ∃ n, n = max (xs.length + 1) (ys.length + 1) := ⟨_, rfl⟩
  rw [← hn]
  let P (l : List Nat) : List Nat := (0 :: (1 :: l).reverse) ++ List.replicate (n - (l.length + 1)) 0
  have hPl : ∀ l : List Nat, l.length + 1 ≤ n → (P l).length = n + 1 := fun l h => by simp [P]; omega
  have hPb : ∀ l : List Nat, Bytes (1 :: l) → Bytes (P l) := fun l h => Bytes.append (Bytes.cons (by decide) (fun y hy => h y (List.mem_reverse.1 hy))) (Bytes.zeros _)
  have hlx : xs.length + 1 ≤ n := by omega
  have hly : ys.length + 1 ≤ n := by omega
  have hlead : ∀ l : List Nat, (P l)[l.length + 1]? = some 1 := fun l => by
    have e : P l = (0 :: l.reverse) ++ (1 :: List.replicate (n - (l.length + 1)) 0) := by simp [P]
    rw [e, List.getElem?_append_right (by simp)]
    simp
  have hbeyond : ∀ (l : List Nat) k, l.length + 1 < k → k ≤ n → (P l)[k]? = some 0 := fun l k h1 h2 => by
    simp only [P]
    rw [List.getElem?_append_right (by simp; omega), List.getElem?_replicate, if_pos (by simp; omega)]
  have hPne : P xs ≠ P ys := fun e => by
    have hll : xs.length = ys.length := by
      rcases Nat.lt_trichotomy xs.length ys.length with h | h | h
      · have h1 := hlead ys
        rw [← e, hbeyond xs _ (by omega) hly] at h1
        cases h1
      · exact h
      · have h1 := hlead xs
        rw [e, hbeyond ys _ (by omega) hlx] at h1
        cases h1
    simp only [P, hll] at e
    have h2 := List.append_cancel_right e
    have h3 := List.reverse_inj.1 (List.cons.inj h2).2
    exact hne (List.cons.inj h3).2
  have hz : ¬ Zero (addP (P xs) (P ys)) := fun h => hPne (eq_of_zero_add (by rw [hPl _ hlx, hPl _ hly]) h)
  have hv : ∀ (l : List Nat) k, valF (P l) k = horner 8 k (1 :: l) := fun l k => by rw [horner_val]; exact valF_pad _ _ _
  have := roots_lt (meet (1 :: xs) (1 :: ys) 256) (addP_bytes (hPb _ hx) (hPb _ hy)) (List.nodup_range.filter _) (fun r hr => by
    obtain ⟨h1, h2⟩ := List.mem_filter.1 hr
    refine ⟨List.mem_range.1 h1, ?_⟩
    rw [addP_val (hPb _ hx) (hPb _ hy) (by rw [hPl _ hlx, hPl _ hly]), hv, hv, eq_of_beq h2, Nat.xor_self]) hz
  rw [addP_len _ _ (by rw [hPl _ hlx, hPl _ hly]), hPl _ hlx] at this
  omega
theorem words_meet {a b : List Bool} (h : a ≠ b) : (meet (wordsL 8 a) (wordsL 8 b) 256).length ≤ max a.length b.length / 8 + 2 := by
  have h1 : Bytes (wordsL 8 a) := wordsL_lt (by decide) a
  have h2 : Bytes (wordsL 8 b) := wordsL_lt (by decide) b
  have h3 : wordsL 8 a ≠ wordsL 8 b := fun e => h (wordsL_inj (by decide) e)
  have l1 := wordsL_len 8 a
  have l2 := wordsL_len 8 b
  unfold wordsL at h1 h2 h3 l1 l2 ⊢
  have := meet_few h1 h2 (fun e => h3 (by rw [e]))
  simp only [List.length_cons] at l1 l2
  omega
end Go.Proofs.Ytahfkhnhmnjbeaa
