/- The walk of AlgebraField: it returns true for every width and three numbers. -/
import Derived.Test.YthmooplhhkafcaaKnown
import Derived.Test.YthmooplhhkafcaaDraw
import Derived.Test.YthmooplhhkafcaaOver
import Derived.Test.YthmooplhhkafcaaOpen
namespace Go.Proofs.Ythmooplhhkafcaa
open Go.RowKit
theorem bcell {W w1 : World} (hb : Below W.heap.size W w1) : (∀ b o, b < W.heap.size → w1.cell? ⟨b, o, none⟩ = W.cell? ⟨b, o, none⟩) ∧ (∀ b o, b < W.heap.size → w1.frozen? ⟨b, o, none⟩ = W.frozen? ⟨b, o, none⟩) :=
  ⟨fun b o h => hb.cell (p := ⟨b, o, none⟩) h, fun b o h => hb.frozen (p := ⟨b, o, none⟩) h⟩
theorem div_zero_iff (x k : Nat) : x / 2 ^ k = 0 ↔ x < 2 ^ k := by
  constructor
  · intro h
    rcases Nat.lt_or_ge x (2 ^ k) with h1 | h1
    · exact h1
    · have := Nat.div_pos h1 (Nat.two_pow_pos _); omega
  · exact fun h => Nat.div_eq_of_lt h
theorem elemE_yes {n : Int} {l : List Nat} (hw : isWB n = true) : elemE n l = if l.all (fun x => fitB x n) then 0 else 3 := by
  have hn : n = 8 ∨ n = 16 ∨ n = 32 := by simpa [isWB, or_assoc] using hw
  unfold elemE
  rw [if_neg (by rw [modN_zero]; omega)]
  have e : ∀ x : Nat, decide (x / 2 ^ n.toNat = 0) = fitB x n := by
    intro x
    unfold fitB
    rw [Bool.eq_iff_iff]
    simp only [decide_eq_true_eq]
    exact div_zero_iff x n.toNat
  simp only [e]
theorem elemE_no {n : Int} {l : List Nat} (hw : isWB n = false) : elemE n l = 2 := by
  have hn : ¬ (n = 8 ∨ n = 16 ∨ n = 32) := by
    intro h
    have : isWB n = true := by simpa [isWB, or_assoc] using h
    rw [hw] at this; cases this
  unfold elemE
  rw [if_pos (by rw [modN_zero]; exact hn)]

theorem mulR_yes {n : Int} {a b : Nat} (hw : isWB n = true) : mulR n a b = if (fitB a n && fitB b n) then (gm n.toNat a b, 0) else (0, 3) := by
  unfold mulR
  rw [elemE_yes hw]
  simp only [List.all_cons, List.all_nil, Bool.and_true]
  cases fitB a n <;> cases fitB b n <;> simp
theorem invR_yes {n : Int} {c : Nat} (hw : isWB n = true) : invR n c = if fitB c n then (if c = 0 then (0, 7) else (inv n.toNat c, 0)) else (0, 3) := by
  unfold invR
  rw [elemE_yes hw]
  simp only [List.all_cons, List.all_nil, Bool.and_true]
  cases fitB c n <;> simp
end Go.Proofs.Ythmooplhhkafcaa
/- The walk of AlgebraLaws: it returns true for every three numbers. -/
namespace Go.Proofs.Ythmooplhhkafcaa
open Go.RowKit
theorem lawmul_any (n a b : Int) (hn : n = 8 ∨ n = 16 ∨ n = 32) (ha0 : 0 ≤ a) (ha : a.toNat < 2 ^ n.toNat) (hb0 : 0 ≤ b) (hb : b.toNat < 2 ^ n.toNat) (w : World) :
    Calls Try.prog 49 #[.int .i64 n, .int .u64 a, .int .u64 b] w fun e w' => e = .returned (.int .u64 (gm n.toNat a.toNat b.toNat)) ∧ Below w.heap.size w w' := by
  obtain ⟨a, rfl⟩ := Int.eq_ofNat_of_zero_le ha0
  obtain ⟨b, rfl⟩ := Int.eq_ofNat_of_zero_le hb0
  simp only [Int.toNat_natCast] at *
  have hw : isWB n = true := by simpa [isWB, or_assoc] using hn
  have HM : Hid (mulR n a b = (gm n.toNat a b, 0)) := Lib.hid (by rw [mulR_yes hw]; simp [fitB, ha, hb])
  clear ha hb hw hn
  go_enter Try.func49, Try.ntmps49
  go_wp2_with (go_at_call 50; refine (Mul_any _ _ _ _).mono ?_; rw [HM.out]; rintro e w1 ⟨rfl, hb1⟩)
  go_ret
  exact ⟨rfl, hb1⟩
structure LawsRel (w : World) (x : Three) (v : Value) (wr : World) : Prop where
  k : ∃ k : Nat, k ≤ 3 ∧ v = .int .i64 k
  below : Below w.heap.size w wr
  size : w.heap.size + 2 ≤ wr.heap.size
  a : wr.cell? ⟨w.heap.size, 0, none⟩ = some (.int .u64 x.a)
  b : wr.cell? ⟨w.heap.size, 1, none⟩ = some (.int .u64 x.b)
  c : wr.cell? ⟨w.heap.size, 2, none⟩ = some (.int .u64 x.c)
  w0 : wr.cell? ⟨w.heap.size + 1, 0, none⟩ = some (.int .i64 8)
  w1 : wr.cell? ⟨w.heap.size + 1, 1, none⟩ = some (.int .i64 16)
  w2 : wr.cell? ⟨w.heap.size + 1, 2, none⟩ = some (.int .i64 32)
theorem LawsRel.next {w wr w1 : World} {x : Three} {v v' : Value} (h : LawsRel w x v wr) (hb : Below wr.heap.size wr w1) (hk : ∃ k : Nat, k ≤ 3 ∧ v' = .int .i64 k) : LawsRel w x v' w1 := by
  have hs := h.size
  have hs1 := hb.size
  exact ⟨hk, h.below.trans (hb.mono (by omega)), by omega,
    (hb.cell (p := ⟨w.heap.size, 0, none⟩) (by show w.heap.size < _; omega)).trans h.a, (hb.cell (p := ⟨w.heap.size, 1, none⟩) (by show w.heap.size < _; omega)).trans h.b, (hb.cell (p := ⟨w.heap.size, 2, none⟩) (by show w.heap.size < _; omega)).trans h.c,
    (hb.cell (p := ⟨w.heap.size + 1, 0, none⟩) (by show w.heap.size + 1 < _; omega)).trans h.w0, (hb.cell (p := ⟨w.heap.size + 1, 1, none⟩) (by show w.heap.size + 1 < _; omega)).trans h.w1, (hb.cell (p := ⟨w.heap.size + 1, 2, none⟩) (by show w.heap.size + 1 < _; omega)).trans h.w2⟩
/-- Go's rest by 2^n. -/
theorem rem_val (a n : Nat) : ((a : Int)).tmod ((2 : Int) ^ n) = ((a % 2 ^ n : Nat) : Int) := by
  rw [pow_cast, Int.tmod_eq_emod_of_nonneg (Int.natCast_nonneg _), Int.natCast_emod]

end Go.Proofs.Ythmooplhhkafcaa
