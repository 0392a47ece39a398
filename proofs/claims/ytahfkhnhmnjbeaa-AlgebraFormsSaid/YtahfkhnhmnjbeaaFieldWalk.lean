/- The walk of AlgebraField: it returns true for every width and three numbers. -/
import Derived.Test.YtahfkhnhmnjbeaaKnown
import Derived.Test.YtahfkhnhmnjbeaaRefw
import Derived.Test.YtahfkhnhmnjbeaaRefField
import Derived.Test.YtahfkhnhmnjbeaaOver
import Derived.Test.YtahfkhnhmnjbeaaOpenThree
namespace Go.Proofs.Ytahfkhnhmnjbeaa
open Go.RowKit
theorem bcell {W w1 : World} (hb : Below W.heap.size W w1) : (∀ b o, b < W.heap.size → w1.cell? ⟨b, o, none⟩ = W.cell? ⟨b, o, none⟩) ∧ (∀ b o, b < W.heap.size → w1.frozen? ⟨b, o, none⟩ = W.frozen? ⟨b, o, none⟩) :=
  ⟨fun b o h => hb.cell (p := ⟨b, o, none⟩) h, fun b o h => hb.frozen (p := ⟨b, o, none⟩) h⟩
theorem div_zero_iff (x k : Nat) : x / 2 ^ k = 0 ↔ x < 2 ^ k := by
  constructor
  · intro h
    rcases Nat.lt_or_ge x (2 ^ k) with h1 | h1
    · exact h1
    · have := Nat.div_pos h1 (Nat.two_pow_pos _); omega
  · exact fun h => Nat.div_eq_of_lt h
theorem elemE_yes {n : Int} {l : List Nat} (hw : isWB n = true) : elemE n l = if l.all (fun x => fitB x n) then 0 else 3 := by
  have hn : n = 8 ∨ n = 16 ∨ n = 32 := by simpa [isWB, or_assoc] using hw
  unfold elemE
  rw [if_neg (by rw [modN_zero]; omega)]
  have e : ∀ x : Nat, decide (x / 2 ^ n.toNat = 0) = fitB x n := by
    intro x
    unfold fitB
    rw [Bool.eq_iff_iff]
    simp only [decide_eq_true_eq]
    exact div_zero_iff x n.toNat
  simp only [e]
theorem elemE_no {n : Int} {l : List Nat} (hw : isWB n = false) : elemE n l = 2 := by
  have hn : ¬ (n = 8 ∨ n = 16 ∨ n = 32) := by
    intro h
    have : isWB n = true := by simpa [isWB, or_assoc] using h
    rw [hw] at this; cases this
  unfold elemE
  rw [if_pos (by rw [modN_zero]; exact hn)]

theorem mulR_yes {n : Int} {a b : Nat} (hw : isWB n = true) : mulR n a b = if (fitB a n && fitB b n) then (gm n.toNat a b, 0) else (0, 3) := by
  unfold mulR
  rw [elemE_yes hw]
  simp only [List.all_cons, List.all_nil, Bool.and_true]
  cases fitB a n <;> cases fitB b n <;> simp
theorem invR_yes {n : Int} {c : Nat} (hw : isWB n = true) : invR n c = if fitB c n then (if c = 0 then (0, 7) else (inv n.toNat c, 0)) else (0, 3) := by
  unfold invR
  rw [elemE_yes hw]
  simp only [List.all_cons, List.all_nil, Bool.and_true]
  cases fitB c n <;> simp
set_option maxHeartbeats 1000000 in
theorem Field_ffn (n : Int) (a b c : Nat) (w : World) (hw : isWB n = true) (h1 : fitB a n = false) (h3 : fitB c n = false) :
    Calls Try.prog 9 #[.int .i64 n, .agg #[.int .u64 a, .int .u64 b, .int .u64 c]] w fun e w' => e = .returned (.bool true) ∧ Below w.heap.size w w' := by
  have HN : Hid (n = 8 ∨ n = 16 ∨ n = 32) := Lib.hid (by simpa [isWB, or_assoc] using hw)
  have HM : Hid (mulR n a b = (0, 3)) := Lib.hid (by rw [mulR_yes hw]; simp [h1])
  have HI : Hid (invR n c = (0, 3)) := Lib.hid (by rw [invR_yes hw]; simp [h3])
  go_enter Try.func9, Try.ntmps9
  go_wp2_with (first
      | (go_at_call 33; refine (Mul_any _ _ _ _).mono ?_; rw [HM.out]; rintro e w1 ⟨rfl, hb1⟩; obtain ⟨hc1, hf1⟩ := bcell hb1; have hz1 : w.heap.size < w1.heap.size := (by have := hb1.size; simp at this; omega))
      | (go_at_call 34; refine (Inverse_any _ _ _).mono ?_; rw [HI.out]; rintro e w2 ⟨rfl, hb2⟩; obtain ⟨hc2, hf2⟩ := bcell hb2; have hz2 : w.heap.size < w2.heap.size := (by have := hb2.size; omega))
      | (go_at_call 21; refine (Width_any _ _).mono ?_; rintro e w' ⟨rfl, rfl⟩)
      | (go_at_call 35; refine (Fits_any _ _ HN.out _).mono ?_; rintro e w' ⟨rfl, rfl⟩)
      | (go_at_call 15; refine (known_any _).mono ?_; rintro e w3 ⟨rfl, hb3⟩))
  go_ret
  exact ⟨rfl, (((Below.refl w.heap.size w).alloc (Nat.le_refl _) _).trans (hb1.mono (by simp))).trans ((hb2.mono (by omega)).trans (hb3.mono (by omega)))⟩
set_option maxHeartbeats 1000000 in
theorem Field_ffz (n : Int) (a b c : Nat) (w : World) (hw : isWB n = true) (h1 : fitB a n = false) (h3 : fitB c n = true) (h4 : c = 0) :
    Calls Try.prog 9 #[.int .i64 n, .agg #[.int .u64 a, .int .u64 b, .int .u64 c]] w fun e w' => e = .returned (.bool true) ∧ Below w.heap.size w w' := by
  have HN : Hid (n = 8 ∨ n = 16 ∨ n = 32) := Lib.hid (by simpa [isWB, or_assoc] using hw)
  have HM : Hid (mulR n a b = (0, 3)) := Lib.hid (by rw [mulR_yes hw]; simp [h1])
  have HI : Hid (invR n c = (0, 7)) := Lib.hid (by rw [invR_yes hw, h3]; simp [h4])
  have HC : Hid (c < 2 ^ n.toNat) := Lib.hid (by simpa [fitB] using h3)
  have ht : ((c : Int) == 0) = true := by rw [beq_iff_eq]; omega
  clear h4
  go_enter Try.func9, Try.ntmps9
  go_wp2_with (first
      | (go_at_call 33; refine (Mul_any _ _ _ _).mono ?_; rw [HM.out]; rintro e w1 ⟨rfl, hb1⟩; obtain ⟨hc1, hf1⟩ := bcell hb1; have hz1 : w.heap.size < w1.heap.size := (by have := hb1.size; simp at this; omega))
      | (go_at_call 34; refine (Inverse_any _ _ _).mono ?_; rw [HI.out]; rintro e w2 ⟨rfl, hb2⟩; obtain ⟨hc2, hf2⟩ := bcell hb2; have hz2 : w.heap.size < w2.heap.size := (by have := hb2.size; omega))
      | (go_at_call 21; refine (Width_any _ _).mono ?_; rintro e w' ⟨rfl, rfl⟩)
      | (go_at_call 35; refine (Fits_any _ _ HN.out _).mono ?_; rintro e w' ⟨rfl, rfl⟩)
      | (go_at_call 15; refine (known_any _).mono ?_; rintro e w3 ⟨rfl, hb3⟩))
  go_ret
  exact ⟨rfl, (((Below.refl w.heap.size w).alloc (Nat.le_refl _) _).trans (hb1.mono (by simp))).trans ((hb2.mono (by omega)).trans (hb3.mono (by omega)))⟩
set_option maxHeartbeats 1000000 in
theorem Field_ffy (n : Int) (a b c : Nat) (w : World) (hw : isWB n = true) (h1 : fitB a n = false) (h3 : fitB c n = true) (h4 : c ≠ 0) :
    Calls Try.prog 9 #[.int .i64 n, .agg #[.int .u64 a, .int .u64 b, .int .u64 c]] w fun e w' => e = .returned (.bool true) ∧ Below w.heap.size w w' := by
  have HN : Hid (n = 8 ∨ n = 16 ∨ n = 32) := Lib.hid (by simpa [isWB, or_assoc] using hw)
  have HM : Hid (mulR n a b = (0, 3)) := Lib.hid (by rw [mulR_yes hw]; simp [h1])
  have HI : Hid (invR n c = (inv n.toNat c, 0)) := Lib.hid (by rw [invR_yes hw, h3]; simp [h4])
  have HC : Hid (c < 2 ^ n.toNat) := Lib.hid (by simpa [fitB] using h3)
  have ht : ((c : Int) == 0) = false := by rw [beq_eq_false_iff_ne]; omega
  clear h4
  go_enter Try.func9, Try.ntmps9
  go_wp2_with (first
      | (go_at_call 33; refine (Mul_any _ _ _ _).mono ?_; rw [HM.out]; rintro e w1 ⟨rfl, hb1⟩; obtain ⟨hc1, hf1⟩ := bcell hb1; have hz1 : w.heap.size < w1.heap.size := (by have := hb1.size; simp at this; omega))
      | (go_at_call 34; refine (Inverse_any _ _ _).mono ?_; rw [HI.out]; rintro e w2 ⟨rfl, hb2⟩; obtain ⟨hc2, hf2⟩ := bcell hb2; have hz2 : w.heap.size < w2.heap.size := (by have := hb2.size; omega))
      | (go_at_call 21; refine (Width_any _ _).mono ?_; rintro e w' ⟨rfl, rfl⟩)
      | (go_at_call 35; refine (Fits_any _ _ HN.out _).mono ?_; rintro e w' ⟨rfl, rfl⟩)
      | (go_at_call 37; refine (refInverse_any _ HN.out _ HC.out _).mono ?_; rintro e w' ⟨rfl, rfl⟩)
      | (go_at_call 15; refine (known_any _).mono ?_; rintro e w3 ⟨rfl, hb3⟩))
  go_ret
  exact ⟨rfl, (((Below.refl w.heap.size w).alloc (Nat.le_refl _) _).trans (hb1.mono (by simp))).trans ((hb2.mono (by omega)).trans (hb3.mono (by omega)))⟩
set_option maxHeartbeats 1000000 in
theorem Field_tfn (n : Int) (a b c : Nat) (w : World) (hw : isWB n = true) (h1 : fitB a n = true) (h2 : fitB b n = false) (h3 : fitB c n = false) :
    Calls Try.prog 9 #[.int .i64 n, .agg #[.int .u64 a, .int .u64 b, .int .u64 c]] w fun e w' => e = .returned (.bool true) ∧ Below w.heap.size w w' := by
  have HN : Hid (n = 8 ∨ n = 16 ∨ n = 32) := Lib.hid (by simpa [isWB, or_assoc] using hw)
  have HM : Hid (mulR n a b = (0, 3)) := Lib.hid (by rw [mulR_yes hw]; simp [h1, h2])
  have HI : Hid (invR n c = (0, 3)) := Lib.hid (by rw [invR_yes hw]; simp [h3])
  go_enter Try.func9, Try.ntmps9
  go_wp2_with (first
      | (go_at_call 33; refine (Mul_any _ _ _ _).mono ?_; rw [HM.out]; rintro e w1 ⟨rfl, hb1⟩; obtain ⟨hc1, hf1⟩ := bcell hb1; have hz1 : w.heap.size < w1.heap.size := (by have := hb1.size; simp at this; omega))
      | (go_at_call 34; refine (Inverse_any _ _ _).mono ?_; rw [HI.out]; rintro e w2 ⟨rfl, hb2⟩; obtain ⟨hc2, hf2⟩ := bcell hb2; have hz2 : w.heap.size < w2.heap.size := (by have := hb2.size; omega))
      | (go_at_call 21; refine (Width_any _ _).mono ?_; rintro e w' ⟨rfl, rfl⟩)
      | (go_at_call 35; refine (Fits_any _ _ HN.out _).mono ?_; rintro e w' ⟨rfl, rfl⟩)
      | (go_at_call 15; refine (known_any _).mono ?_; rintro e w3 ⟨rfl, hb3⟩))
  go_ret
  exact ⟨rfl, (((Below.refl w.heap.size w).alloc (Nat.le_refl _) _).trans (hb1.mono (by simp))).trans ((hb2.mono (by omega)).trans (hb3.mono (by omega)))⟩
set_option maxHeartbeats 1000000 in
theorem Field_tfz (n : Int) (a b c : Nat) (w : World) (hw : isWB n = true) (h1 : fitB a n = true) (h2 : fitB b n = false) (h3 : fitB c n = true) (h4 : c = 0) :
    Calls Try.prog 9 #[.int .i64 n, .agg #[.int .u64 a, .int .u64 b, .int .u64 c]] w fun e w' => e = .returned (.bool true) ∧ Below w.heap.size w w' := by
  have HN : Hid (n = 8 ∨ n = 16 ∨ n = 32) := Lib.hid (by simpa [isWB, or_assoc] using hw)
  have HM : Hid (mulR n a b = (0, 3)) := Lib.hid (by rw [mulR_yes hw]; simp [h1, h2])
  have HI : Hid (invR n c = (0, 7)) := Lib.hid (by rw [invR_yes hw, h3]; simp [h4])
  have HC : Hid (c < 2 ^ n.toNat) := Lib.hid (by simpa [fitB] using h3)
  have ht : ((c : Int) == 0) = true := by rw [beq_iff_eq]; omega
  clear h4
  go_enter Try.func9, Try.ntmps9
  go_wp2_with (first
      | (go_at_call 33; refine (Mul_any _ _ _ _).mono ?_; rw [HM.out]; rintro e w1 ⟨rfl, hb1⟩; obtain ⟨hc1, hf1⟩ := bcell hb1; have hz1 : w.heap.size < w1.heap.size := (by have := hb1.size; simp at this; omega))
      | (go_at_call 34; refine (Inverse_any _ _ _).mono ?_; rw [HI.out]; rintro e w2 ⟨rfl, hb2⟩; obtain ⟨hc2, hf2⟩ := bcell hb2; have hz2 : w.heap.size < w2.heap.size := (by have := hb2.size; omega))
      | (go_at_call 21; refine (Width_any _ _).mono ?_; rintro e w' ⟨rfl, rfl⟩)
      | (go_at_call 35; refine (Fits_any _ _ HN.out _).mono ?_; rintro e w' ⟨rfl, rfl⟩)
      | (go_at_call 15; refine (known_any _).mono ?_; rintro e w3 ⟨rfl, hb3⟩))
  go_ret
  exact ⟨rfl, (((Below.refl w.heap.size w).alloc (Nat.le_refl _) _).trans (hb1.mono (by simp))).trans ((hb2.mono (by omega)).trans (hb3.mono (by omega)))⟩
set_option maxHeartbeats 1000000 in
theorem Field_tfy (n : Int) (a b c : Nat) (w : World) (hw : isWB n = true) (h1 : fitB a n = true) (h2 : fitB b n = false) (h3 : fitB c n = true) (h4 : c ≠ 0) :
    Calls Try.prog 9 #[.int .i64 n, .agg #[.int .u64 a, .int .u64 b, .int .u64 c]] w fun e w' => e = .returned (.bool true) ∧ Below w.heap.size w w' := by
  have HN : Hid (n = 8 ∨ n = 16 ∨ n = 32) := Lib.hid (by simpa [isWB, or_assoc] using hw)
  have HM : Hid (mulR n a b = (0, 3)) := Lib.hid (by rw [mulR_yes hw]; simp [h1, h2])
  have HI : Hid (invR n c = (inv n.toNat c, 0)) := Lib.hid (by rw [invR_yes hw, h3]; simp [h4])
  have HC : Hid (c < 2 ^ n.toNat) := Lib.hid (by simpa [fitB] using h3)
  have ht : ((c : Int) == 0) = false := by rw [beq_eq_false_iff_ne]; omega
  clear h4
  go_enter Try.func9, Try.ntmps9
  go_wp2_with (first
      | (go_at_call 33; refine (Mul_any _ _ _ _).mono ?_; rw [HM.out]; rintro e w1 ⟨rfl, hb1⟩; obtain ⟨hc1, hf1⟩ := bcell hb1; have hz1 : w.heap.size < w1.heap.size := (by have := hb1.size; simp at this; omega))
      | (go_at_call 34; refine (Inverse_any _ _ _).mono ?_; rw [HI.out]; rintro e w2 ⟨rfl, hb2⟩; obtain ⟨hc2, hf2⟩ := bcell hb2; have hz2 : w.heap.size < w2.heap.size := (by have := hb2.size; omega))
      | (go_at_call 21; refine (Width_any _ _).mono ?_; rintro e w' ⟨rfl, rfl⟩)
      | (go_at_call 35; refine (Fits_any _ _ HN.out _).mono ?_; rintro e w' ⟨rfl, rfl⟩)
      | (go_at_call 37; refine (refInverse_any _ HN.out _ HC.out _).mono ?_; rintro e w' ⟨rfl, rfl⟩)
      | (go_at_call 15; refine (known_any _).mono ?_; rintro e w3 ⟨rfl, hb3⟩))
  go_ret
  exact ⟨rfl, (((Below.refl w.heap.size w).alloc (Nat.le_refl _) _).trans (hb1.mono (by simp))).trans ((hb2.mono (by omega)).trans (hb3.mono (by omega)))⟩
set_option maxHeartbeats 1000000 in
theorem Field_ttn (n : Int) (a b c : Nat) (w : World) (hw : isWB n = true) (h1 : fitB a n = true) (h2 : fitB b n = true) (h3 : fitB c n = false) :
    Calls Try.prog 9 #[.int .i64 n, .agg #[.int .u64 a, .int .u64 b, .int .u64 c]] w fun e w' => e = .returned (.bool true) ∧ Below w.heap.size w w' := by
  have HN : Hid (n = 8 ∨ n = 16 ∨ n = 32) := Lib.hid (by simpa [isWB, or_assoc] using hw)
  have HM : Hid (mulR n a b = (gm n.toNat a b, 0)) := Lib.hid (by rw [mulR_yes hw]; simp [h1, h2])
  have HI : Hid (invR n c = (0, 3)) := Lib.hid (by rw [invR_yes hw]; simp [h3])
  have HA : Hid (a < 2 ^ n.toNat) := Lib.hid (by simpa [fitB] using h1)
  have HB : Hid (b < 2 ^ n.toNat) := Lib.hid (by simpa [fitB] using h2)
  go_enter Try.func9, Try.ntmps9
  go_wp2_with (first
      | (go_at_call 33; refine (Mul_any _ _ _ _).mono ?_; rw [HM.out]; rintro e w1 ⟨rfl, hb1⟩; obtain ⟨hc1, hf1⟩ := bcell hb1; have hz1 : w.heap.size < w1.heap.size := (by have := hb1.size; simp at this; omega))
      | (go_at_call 34; refine (Inverse_any _ _ _).mono ?_; rw [HI.out]; rintro e w2 ⟨rfl, hb2⟩; obtain ⟨hc2, hf2⟩ := bcell hb2; have hz2 : w.heap.size < w2.heap.size := (by have := hb2.size; omega))
      | (go_at_call 21; refine (Width_any _ _).mono ?_; rintro e w' ⟨rfl, rfl⟩)
      | (go_at_call 35; refine (Fits_any _ _ HN.out _).mono ?_; rintro e w' ⟨rfl, rfl⟩)
      | (go_at_call 36; refine (refMul_any _ _ _ HN.out (by omega) (by simpa using HA.out) (by omega) (by simpa using HB.out) _).mono ?_; rintro e w' ⟨rfl, rfl⟩)
      | (go_at_call 15; refine (known_any _).mono ?_; rintro e w3 ⟨rfl, hb3⟩))
  go_ret
  exact ⟨rfl, (((Below.refl w.heap.size w).alloc (Nat.le_refl _) _).trans (hb1.mono (by simp))).trans ((hb2.mono (by omega)).trans (hb3.mono (by omega)))⟩
set_option maxHeartbeats 1000000 in
theorem Field_ttz (n : Int) (a b c : Nat) (w : World) (hw : isWB n = true) (h1 : fitB a n = true) (h2 : fitB b n = true) (h3 : fitB c n = true) (h4 : c = 0) :
    Calls Try.prog 9 #[.int .i64 n, .agg #[.int .u64 a, .int .u64 b, .int .u64 c]] w fun e w' => e = .returned (.bool true) ∧ Below w.heap.size w w' := by
  have HN : Hid (n = 8 ∨ n = 16 ∨ n = 32) := Lib.hid (by simpa [isWB, or_assoc] using hw)
  have HM : Hid (mulR n a b = (gm n.toNat a b, 0)) := Lib.hid (by rw [mulR_yes hw]; simp [h1, h2])
  have HI : Hid (invR n c = (0, 7)) := Lib.hid (by rw [invR_yes hw, h3]; simp [h4])
  have HA : Hid (a < 2 ^ n.toNat) := Lib.hid (by simpa [fitB] using h1)
  have HB : Hid (b < 2 ^ n.toNat) := Lib.hid (by simpa [fitB] using h2)
  have HC : Hid (c < 2 ^ n.toNat) := Lib.hid (by simpa [fitB] using h3)
  have ht : ((c : Int) == 0) = true := by rw [beq_iff_eq]; omega
  clear h4
  go_enter Try.func9, Try.ntmps9
  go_wp2_with (first
      | (go_at_call 33; refine (Mul_any _ _ _ _).mono ?_; rw [HM.out]; rintro e w1 ⟨rfl, hb1⟩; obtain ⟨hc1, hf1⟩ := bcell hb1; have hz1 : w.heap.size < w1.heap.size := (by have := hb1.size; simp at this; omega))
      | (go_at_call 34; refine (Inverse_any _ _ _).mono ?_; rw [HI.out]; rintro e w2 ⟨rfl, hb2⟩; obtain ⟨hc2, hf2⟩ := bcell hb2; have hz2 : w.heap.size < w2.heap.size := (by have := hb2.size; omega))
      | (go_at_call 21; refine (Width_any _ _).mono ?_; rintro e w' ⟨rfl, rfl⟩)
      | (go_at_call 35; refine (Fits_any _ _ HN.out _).mono ?_; rintro e w' ⟨rfl, rfl⟩)
      | (go_at_call 36; refine (refMul_any _ _ _ HN.out (by omega) (by simpa using HA.out) (by omega) (by simpa using HB.out) _).mono ?_; rintro e w' ⟨rfl, rfl⟩)
      | (go_at_call 15; refine (known_any _).mono ?_; rintro e w3 ⟨rfl, hb3⟩))
  go_ret
  exact ⟨rfl, (((Below.refl w.heap.size w).alloc (Nat.le_refl _) _).trans (hb1.mono (by simp))).trans ((hb2.mono (by omega)).trans (hb3.mono (by omega)))⟩
set_option maxHeartbeats 1000000 in
theorem Field_tty (n : Int) (a b c : Nat) (w : World) (hw : isWB n = true) (h1 : fitB a n = true) (h2 : fitB b n = true) (h3 : fitB c n = true) (h4 : c ≠ 0) :
    Calls Try.prog 9 #[.int .i64 n, .agg #[.int .u64 a, .int .u64 b, .int .u64 c]] w fun e w' => e = .returned (.bool true) ∧ Below w.heap.size w w' := by
  have HN : Hid (n = 8 ∨ n = 16 ∨ n = 32) := Lib.hid (by simpa [isWB, or_assoc] using hw)
  have HM : Hid (mulR n a b = (gm n.toNat a b, 0)) := Lib.hid (by rw [mulR_yes hw]; simp [h1, h2])
  have HI : Hid (invR n c = (inv n.toNat c, 0)) := Lib.hid (by rw [invR_yes hw, h3]; simp [h4])
  have HA : Hid (a < 2 ^ n.toNat) := Lib.hid (by simpa [fitB] using h1)
  have HB : Hid (b < 2 ^ n.toNat) := Lib.hid (by simpa [fitB] using h2)
  have HC : Hid (c < 2 ^ n.toNat) := Lib.hid (by simpa [fitB] using h3)
  have ht : ((c : Int) == 0) = false := by rw [beq_eq_false_iff_ne]; omega
  clear h4
  go_enter Try.func9, Try.ntmps9
  go_wp2_with (first
      | (go_at_call 33; refine (Mul_any _ _ _ _).mono ?_; rw [HM.out]; rintro e w1 ⟨rfl, hb1⟩; obtain ⟨hc1, hf1⟩ := bcell hb1; have hz1 : w.heap.size < w1.heap.size := (by have := hb1.size; simp at this; omega))
      | (go_at_call 34; refine (Inverse_any _ _ _).mono ?_; rw [HI.out]; rintro e w2 ⟨rfl, hb2⟩; obtain ⟨hc2, hf2⟩ := bcell hb2; have hz2 : w.heap.size < w2.heap.size := (by have := hb2.size; omega))
      | (go_at_call 21; refine (Width_any _ _).mono ?_; rintro e w' ⟨rfl, rfl⟩)
      | (go_at_call 35; refine (Fits_any _ _ HN.out _).mono ?_; rintro e w' ⟨rfl, rfl⟩)
      | (go_at_call 36; refine (refMul_any _ _ _ HN.out (by omega) (by simpa using HA.out) (by omega) (by simpa using HB.out) _).mono ?_; rintro e w' ⟨rfl, rfl⟩)
      | (go_at_call 37; refine (refInverse_any _ HN.out _ HC.out _).mono ?_; rintro e w' ⟨rfl, rfl⟩)
      | (go_at_call 15; refine (known_any _).mono ?_; rintro e w3 ⟨rfl, hb3⟩))
  go_ret
  exact ⟨rfl, (((Below.refl w.heap.size w).alloc (Nat.le_refl _) _).trans (hb1.mono (by simp))).trans ((hb2.mono (by omega)).trans (hb3.mono (by omega)))⟩
set_option maxHeartbeats 1000000 in
theorem Field_no (n : Int) (a b c : Nat) (w : World) (hw : isWB n = false) :
    Calls Try.prog 9 #[.int .i64 n, .agg #[.int .u64 a, .int .u64 b, .int .u64 c]] w fun e w' => e = .returned (.bool true) ∧ Below w.heap.size w w' := by
  have HM : Hid (mulR n a b = (0, 2)) := Lib.hid (by unfold mulR; rw [elemE_no hw]; simp)
  have HI : Hid (invR n c = (0, 2)) := Lib.hid (by unfold invR; rw [elemE_no hw]; simp)
  go_enter Try.func9, Try.ntmps9
  go_wp2_with (first
      | (go_at_call 33; refine (Mul_any _ _ _ _).mono ?_; rw [HM.out]; rintro e w1 ⟨rfl, hb1⟩; obtain ⟨hc1, hf1⟩ := bcell hb1; have hz1 : w.heap.size < w1.heap.size := (by have := hb1.size; simp at this; omega))
      | (go_at_call 34; refine (Inverse_any _ _ _).mono ?_; rw [HI.out]; rintro e w2 ⟨rfl, hb2⟩; obtain ⟨hc2, hf2⟩ := bcell hb2; have hz2 : w.heap.size < w2.heap.size := (by have := hb2.size; omega))
      | (go_at_call 21; refine (Width_any _ _).mono ?_; rintro e w' ⟨rfl, rfl⟩)
      | (go_at_call 15; refine (known_any _).mono ?_; rintro e w3 ⟨rfl, hb3⟩))
  go_ret
  exact ⟨rfl, (((Below.refl w.heap.size w).alloc (Nat.le_refl _) _).trans (hb1.mono (by simp))).trans ((hb2.mono (by omega)).trans (hb3.mono (by omega)))⟩
theorem AlgebraField_walk (n : Int) (v : Value) (i : Three) (w : World) (_ : -9223372036854775808 ≤ n ∧ n ≤ 9223372036854775807) (hx : IsThree w v i) :
    Calls Try.prog 9 #[.int .i64 n, v] w fun e w' => e = .returned (.bool true) ∧ Below w.heap.size w w' := by
  obtain ⟨a, b, c⟩ := i
  obtain ⟨rfl, _, _, _⟩ := hx
  cases hw : isWB n with
  | false => exact Field_no n a b c w hw
  | true =>
    cases h3 : fitB c n with
    | false =>
      cases h1 : fitB a n with
      | false => exact Field_ffn n a b c w hw h1 h3
      | true =>
        cases h2 : fitB b n with
        | false => exact Field_tfn n a b c w hw h1 h2 h3
        | true => exact Field_ttn n a b c w hw h1 h2 h3
    | true =>
      by_cases h4 : c = 0
      · cases h1 : fitB a n with
        | false => exact Field_ffz n a b c w hw h1 h3 h4
        | true =>
          cases h2 : fitB b n with
          | false => exact Field_tfz n a b c w hw h1 h2 h3 h4
          | true => exact Field_ttz n a b c w hw h1 h2 h3 h4
      · cases h1 : fitB a n with
        | false => exact Field_ffy n a b c w hw h1 h3 h4
        | true =>
          cases h2 : fitB b n with
          | false => exact Field_tfy n a b c w hw h1 h2 h3 h4
          | true => exact Field_tty n a b c w hw h1 h2 h3 h4
end Go.Proofs.Ytahfkhnhmnjbeaa
