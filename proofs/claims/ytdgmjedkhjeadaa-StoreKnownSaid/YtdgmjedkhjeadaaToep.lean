/- Contracts of the Toeplitz hash (program and reference). Conditions: as each statement says. -/
import Derived.Test.YtdgmjedkhjeadaaZip
import Derived.Test.YtdgmjedkhjeadaaMath
import Derived.Test.YtdgmjedkhjeadaaField
namespace Go.Proofs.Ytdgmjedkhjeadaa
open Go.RowKit
set_option linter.unusedSimpArgs false
theorem ownsRow_base {w : World} {base base' : Nat} {t : TypeId} {sz n : Nat} {v : Value} {xs : List Value} (h : w.ownsRow base t sz v n xs) (hb : base' ≤ base) : w.ownsRow base' t sz v n xs := by
  refine ⟨h.1, ?_⟩
  rcases h.2 with h1 | ⟨g, cap, cur, hv, hg, rest⟩
  · exact .inl h1
  · exact .inr ⟨g, cap, cur, hv, by omega, rest⟩
def ToepRel (w : World) (seed a : List Bool) (out : Nat) (v i : Value) (wr : World) : Prop :=
  ∃ k : Nat, k ≤ a.length ∧ i = .int .i64 k ∧ ∃ A c, v = .slice A out c ∧ out ≤ c ∧ wr.ownsRow w.heap.size 4 1 (.slice A out c) out ((toepL seed a out k).map Value.bool) ∧ Below w.heap.size w wr
end Go.Proofs.Ytdgmjedkhjeadaa
/- Contracts of the Toeplitz hash: what is refused; the reference's; SeedBits. Conditions: as each statement says. -/
namespace Go.Proofs.Ytdgmjedkhjeadaa
open Go.RowKit
def seedB (n out : Int) : Int := if 1 ≤ n + out then n + out - 1 else 0
/-- The error of a Toeplitz hash. -/
def toepE (n s : Nat) (out : Int) : Int := if 512 < n then 4 else if out < 0 ∨ 512 < out then 3 else if (s : Int) ≠ seedB n out then 22 else 0
end Go.Proofs.Ytdgmjedkhjeadaa
/- Contracts of the functions between bits and numbers (program and reference): number, Word, Number. Conditions: as each statement says. -/
namespace Go.Proofs.Ytdgmjedkhjeadaa
open Go.RowKit
set_option linter.unusedVariables false
set_option linter.unusedSimpArgs false
def wordV (l : List Bool) : Nat := l.foldl (fun n b => 2 * n + if b then 1 else 0) 0
theorem wordV_snoc (l : List Bool) (b : Bool) : wordV (l ++ [b]) = 2 * wordV l + if b then 1 else 0 := by simp [wordV, List.foldl_append]
theorem wordV_lt (l : List Bool) : wordV l < 2 ^ l.length := by
  suffices h : ∀ (r : List Bool), wordV r.reverse < 2 ^ r.length by have := h l.reverse; simpa using this
  intro r
  induction r with
  | nil => simp [wordV]
  | cons b r ih =>
    rw [List.reverse_cons, wordV_snoc, List.length_cons, Nat.pow_succ]
    split <;> omega
theorem wordV_small (l : List Bool) (k n : Nat) (hk : k < n) (hn : n ≤ 64) : wordV (l.take k) < 9223372036854775808 := by
  refine Nat.lt_of_lt_of_le (wordV_lt _) ?_
  refine Nat.le_trans (Nat.pow_le_pow_right (by omega) (List.length_take_le _ _)) ?_
  exact Nat.le_trans (Nat.pow_le_pow_right (by omega) (show k ≤ 63 by omega)) (by decide)
/-- The bits of a number. -/
def numL (a width : Nat) : List Bool := (List.range width).map fun i => (a / 2 ^ (width - 1 - i)) % 2 == 1
theorem numL_len (a width : Nat) : (numL a width).length = width := by simp [numL]
theorem or_one {q : Nat} (hq : q < 9223372036854775808) : bits BinOp.or IntKind.u64 ((q : Int) * 2) 1 = ((2 * q + 1 : Nat) : Int) := by
  rw [show ((q : Int) * 2) = ((q * 2 : Nat) : Int) by omega, show (1 : Int) = ((1 : Nat) : Int) from rfl, u64_or_nat _ _ (by omega) (by omega)]
  congr 1
  rw [Nat.mul_comm]
  exact (Nat.two_pow_add_eq_or_of_lt (i := 1) (b := 1) (by decide) q).symm
/-- A store into the last of the cells that have not been filled, from the end on. -/
theorem row_put {wi : World} {h q : Nat} {t : TypeId} {xs : List Value} {z u : Value} (hh : wi.heap[h]? = some (.cells (List.replicate (q + 1) z ++ xs).toArray t (0, 0))) :
    (wi.setCell ⟨h, q, none⟩ u).heap[h]? = some (.cells (List.replicate q z ++ (u :: xs)).toArray t (0, 0)) := by
  simp only [World.setCell, Array.getElem?_modify, hh, if_true, Option.map_some, Option.isSome_none, Bool.false_eq_true, if_false]
  congr 2
  apply Array.ext'
  rw [List.replicate_succ']
  simp
theorem numL_drop (a width q : Nat) (hq : q < width) : (numL a width).drop q = ((a / 2 ^ (width - 1 - q)) % 2 == 1) :: (numL a width).drop (q + 1) := by
  rw [List.drop_eq_getElem_cons (by rw [numL_len]; exact hq)]
  simp [numL]
theorem numL_take (a width q : Nat) (hq : q < width) : (numL a width).take (q + 1) = (numL a width).take q ++ [((a / 2 ^ (width - 1 - q)) % 2 == 1)] := by
  rw [take_snoc _ _ (by rw [numL_len]; exact hq)]
  simp [numL]
theorem odd_cast (b : Nat) : ((b : Int) % 2 == 1) = (b % 2 == 1) := by
  rw [Bool.eq_iff_iff]
  simp
  omega
theorem mask_one (b : Nat) (hb : b < 18446744073709551616) : (bits BinOp.and IntKind.u64 (b : Int) 1 == 1) = (b % 2 == 1) := by
  rw [show (1 : Int) = ((1 : Nat) : Int) from rfl, u64_and_nat b 1 hb (by omega), nat_mask1, Bool.eq_iff_iff]
  simp
  omega
end Go.Proofs.Ytdgmjedkhjeadaa
/- Plain mathematics of AlgebraUniform: how many seeds have a hash. No program is in sight. -/
namespace Go.Proofs.Ytdgmjedkhjeadaa
def cU (F : Nat → Nat) : Nat → Nat → Nat
  | 0, _ => 0
  | N + 1, j => cU F N j + if F N = j then 1 else 0
/-- The number of the hash of the seed with a number. -/
def hW (a : List Bool) (m s i : Nat) : Nat := wordV (toepL (numL i s) a m a.length)
theorem hW_lt (a : List Bool) (m s i : Nat) : hW a m s i < 2 ^ m := by
  have := wordV_lt (toepL (numL i s) a m a.length)
  rwa [toepL_len] at this
def wantU (a : List Bool) (n s k : Nat) : Nat := if cnt a = 0 then (if k = 0 then 2 ^ s else 0) else 2 ^ (n - 1)
theorem cU_le (F : Nat → Nat) : ∀ N j, cU F N j ≤ N
  | 0, _ => Nat.le_refl _
  | N + 1, j => by have := cU_le F N j; simp only [cU]; split <;> omega
end Go.Proofs.Ytdgmjedkhjeadaa
/- Plain mathematics of AlgebraUniform: each hash has as many seeds as any other. No program is in sight. -/
namespace Go.Proofs.Ytdgmjedkhjeadaa
theorem cU_add (F : Nat → Nat) (N j : Nat) : ∀ K, cU F (N + K) j = cU F N j + cU (fun i => F (N + i)) K j
  | 0 => rfl
  | K + 1 => by
    rw [← Nat.add_assoc]
    simp only [cU]
    rw [cU_add F N j K, Nat.add_assoc]
theorem cU_congr {F G : Nat → Nat} {j k : Nat} : ∀ N, (∀ i, i < N → (F i = j ↔ G i = k)) → cU F N j = cU G N k
  | 0, _ => rfl
  | N + 1, h => by
    simp only [cU]
    rw [cU_congr N fun i hi => h i (by omega)]
    have := h N (by omega)
    by_cases e : F N = j
    · rw [if_pos e, if_pos (this.1 e)]
    · rw [if_neg e, if_neg fun h => e (this.2 h)]
theorem xor_eq_iff (x v j : Nat) : x ^^^ v = j ↔ x = j ^^^ v := by
  constructor
  · rintro rfl; rw [Nat.xor_assoc, Nat.xor_self, Nat.xor_zero]
  · rintro rfl; rw [Nat.xor_assoc, Nat.xor_self, Nat.xor_zero]
theorem cU_double {F : Nat → Nat} {t : Nat} (h : ∀ i, i < 2 ^ t → F (2 ^ t + i) = F i ^^^ F (2 ^ t)) (j : Nat) : cU F (2 ^ (t + 1)) j = cU F (2 ^ t) j + cU F (2 ^ t) (j ^^^ F (2 ^ t)) := by
  rw [show 2 ^ (t + 1) = 2 ^ t + 2 ^ t by rw [Nat.pow_succ]; omega, cU_add]
  congr 1
  exact cU_congr _ fun i hi => by rw [h i hi]; exact xor_eq_iff _ _ _
theorem wordV_bit (l : List Bool) : ∀ u, (wordV l).testBit u = (decide (u < l.length) && l.getD (l.length - 1 - u) false) := by
  suffices h : ∀ (r : List Bool) u, (wordV r.reverse).testBit u = (decide (u < r.length) && r.getD u false) by
    intro u
    have := h l.reverse u
    rw [List.reverse_reverse, List.length_reverse] at this
    rw [this]
    by_cases hu : u < l.length
    · simp only [hu, decide_true, Bool.true_and, List.getD_eq_getElem?_getD]
      rw [List.getElem?_reverse hu]
    · simp [hu]
  intro r
  induction r with
  | nil => intro u; simp [wordV]
  | cons b r ih =>
    intro u
    rw [List.reverse_cons, wordV_snoc]
    cases u with
    | zero => cases b <;> simp [Nat.testBit_zero] <;> omega
    | succ u =>
      rw [Nat.testBit_succ, show (2 * wordV r.reverse + if b = true then 1 else 0) / 2 = wordV r.reverse by split <;> omega, ih u]
      simp
theorem numL_getD (i s p : Nat) (hp : p < s) : (numL i s).getD p false = i.testBit (s - 1 - p) := by
  rw [List.getD_eq_getElem?_getD, Nat.testBit_eq_decide_div_mod_eq]
  simp [numL, hp]
  rw [Bool.eq_iff_iff]; simp
theorem hW_bit (a : List Bool) (m s i u : Nat) : (hW a m s i).testBit u = (decide (u < m) && tb (numL i s) a a.length (m - 1 - u) a.length) := by
  unfold hW
  rw [wordV_bit, toepL_len]
  by_cases hu : u < m
  · simp only [hu, decide_true, Bool.true_and, List.getD_eq_getElem?_getD]
    rw [List.getElem?_eq_getElem (by rw [toepL_len]; omega)]
    simp [toepL]
  · simp [hu]
theorem tb_seed (x y z a : List Bool) (n i : Nat) : ∀ k, k ≤ n → (∀ p, p < i + n → z.getD p false = (x.getD p false != y.getD p false)) → tb z a n i k = (tb x a n i k != tb y a n i k)
  | 0, _, _ => rfl
  | k + 1, hk, h => by
    simp only [tb]
    rw [tb_seed x y z a n i k (by omega) h, h (i + (n - 1 - k)) (by omega)]
    cases tb x a n i k <;> cases tb y a n i k <;> cases a.getD k false <;> cases x.getD (i + (n - 1 - k)) false <;> cases y.getD (i + (n - 1 - k)) false <;> rfl
theorem pow_add_bit (t i q : Nat) (hi : i < 2 ^ t) : (2 ^ t + i).testBit q = (i.testBit q != (2 ^ t).testBit q) := by
  have e := Nat.two_pow_add_eq_or_of_lt hi 1
  rw [Nat.mul_one] at e
  rw [e, Nat.testBit_or, Nat.testBit_two_pow]
  by_cases h : t = q
  · subst h
    rw [Nat.testBit_lt_two_pow hi]; simp
  · simp [h]
theorem hW_add (a : List Bool) (m s t i : Nat) (hm : m ≠ 0) (hs : s = a.length + m - 1) (hi : i < 2 ^ t) : hW a m s (2 ^ t + i) = hW a m s i ^^^ hW a m s (2 ^ t) := by
  apply Nat.eq_of_testBit_eq
  intro u
  rw [Nat.testBit_xor, hW_bit, hW_bit, hW_bit]
  by_cases hu : u < m
  · simp only [hu, decide_true, Bool.true_and]
    exact tb_seed _ _ _ a a.length (m - 1 - u) a.length (Nat.le_refl _) fun p hp => by
      rw [numL_getD _ _ _ (by omega), numL_getD _ _ _ (by omega), numL_getD _ _ _ (by omega)]
      exact pow_add_bit t i _ hi
  · simp [hu]
/-- A seed with one bit: the hash shows one bit of a. -/
theorem tb_one (a seed : List Bool) (n i c : Nat) (h : ∀ p, p < i + n → seed.getD p false = decide (p = c)) : ∀ k, k ≤ n → tb seed a n i k = (decide (i ≤ c ∧ c - i < n ∧ n - 1 - (c - i) < k) && a.getD (n - 1 - (c - i)) false)
  | 0, _ => by simp [tb]
  | k + 1, hk => by
    simp only [tb]
    rw [tb_one a seed n i c h k (by omega), h (i + (n - 1 - k)) (by omega)]
    by_cases e : i + (n - 1 - k) = c
    · have e1 : n - 1 - (c - i) = k := by omega
      have e2 : i ≤ c ∧ c - i < n := by omega
      simp [e, e1, e2]
    · by_cases e3 : i ≤ c ∧ c - i < n ∧ n - 1 - (c - i) < k
      · have e4 : i ≤ c ∧ c - i < n ∧ n - 1 - (c - i) < k + 1 := by omega
        simp [e, e3, e4]
      · have e4 : ¬ (i ≤ c ∧ c - i < n ∧ n - 1 - (c - i) < k + 1) := by omega
        simp [e, e3, e4]
theorem hW_one (a : List Bool) (m s t u : Nat) (hm : m ≠ 0) (hs : s = a.length + m - 1) (ht : t < s) : (hW a m s (2 ^ t)).testBit u = (decide (u < m ∧ u ≤ t) && a.getD (t - u) false) := by
  rw [hW_bit]
  by_cases hu : u < m
  · rw [tb_one a _ a.length (m - 1 - u) (s - 1 - t) (fun p hp => by
      rw [numL_getD _ _ _ (by omega), Nat.testBit_two_pow]
      rw [Bool.eq_iff_iff]; simp; omega) a.length (Nat.le_refl _)]
    simp only [hu, decide_true, Bool.true_and]
    by_cases h1 : u ≤ t ∧ t - u < a.length
    · have e : a.length - 1 - (s - 1 - t - (m - 1 - u)) = t - u := by omega
      rw [e]
      congr 1
      rw [Bool.eq_iff_iff]; simp; omega
    · have e1 : decide (m - 1 - u ≤ s - 1 - t ∧ s - 1 - t - (m - 1 - u) < a.length ∧ a.length - 1 - (s - 1 - t - (m - 1 - u)) < a.length) = false := by
        rw [decide_eq_false_iff_not]; omega
      rw [e1]
      by_cases h2 : u ≤ t
      · have h3 : a.getD (t - u) false = false := by
          rw [List.getD_eq_getElem?_getD, List.getElem?_eq_none (by omega)]; rfl
        rw [h3]; simp
      · simp [h2]
  · simp [hu]
end Go.Proofs.Ytdgmjedkhjeadaa
