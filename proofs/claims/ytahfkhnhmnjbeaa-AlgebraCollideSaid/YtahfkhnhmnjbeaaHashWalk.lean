/- The walk of AlgebraHash: it returns true for any width, key and bit string. -/
import Derived.Test.YtahfkhnhmnjbeaaHashW
import Derived.Test.YtahfkhnhmnjbeaaHashRef
import Derived.Test.YtahfkhnhmnjbeaaKnown
import Derived.Test.YtahfkhnhmnjbeaaToepWalk
import Derived.Test.YtahfkhnhmnjbeaaRefw
namespace Go.Proofs.Ytahfkhnhmnjbeaa
open Go.RowKit
set_option linter.unusedVariables false
theorem Hash_err (n : Int) (key k c : Nat) (A : Option Addr) (bits : List Bool) (w : World) (E : Int) (hE : elemE n [key] = E) (h0 : E ≠ 0) (hkey : key < 18446744073709551616) (hk : k ≤ 65536) (hkc : k ≤ c) (hr : Rd w w.heap.size 1 A k (bits.map Value.bool)) :
    Calls Try.prog 39 #[.int .i64 n, .int .u64 key, .slice A k c] w fun e w' => e = .returned (.tuple #[.int .u64 0, .int .i64 E]) ∧ Below w.heap.size w w' := by
  have := Hash_any n key k c A bits w hkey hk hkc hr
  have hR : hashR n key bits = (0, E) := by unfold hashR; rw [if_neg (by rw [hE]; exact h0), hE]
  rwa [hR] at this
theorem Words_err (n m : Int) (w : World) (E : Int) (hE : elemE n [] = E) (h0 : E ≠ 0) :
    Calls Try.prog 20 #[.int .i64 n, .int .i64 m] w fun e w' => e = .returned (.tuple #[.int .i64 0, .int .i64 E]) ∧ w = w' := by
  have := Words_any n m w
  have hR : wordsR n m = (0, E) := by unfold wordsR; rw [if_pos (by rw [hE]; exact h0), hE]
  rwa [hR] at this
theorem Words_ok (wd m : Nat) (w : World) (hw : IsW wd) (hm : m ≤ 65536) :
    Calls Try.prog 20 #[.int .i64 wd, .int .i64 m] w fun e w' => e = .returned (.tuple #[.int .i64 ((m / wd + 2 : Nat) : Int), .int .i64 0]) ∧ w = w' := by
  have := Words_any wd m w
  have h1 : isWB (wd : Int) = true := by rcases hw with rfl | rfl | rfl <;> rfl
  have hR : wordsR wd m = (((m / wd + 2 : Nat) : Int), 0) := by
    unfold wordsR
    rw [if_neg (by rw [elemE_nil, h1]; simp), if_neg (by omega)]
    congr 1
  rwa [hR] at this
theorem Width_is (n : Int) (b : Bool) (w : World) (h : isWB n = b) : Calls Try.prog 21 #[.int .i64 n] w fun e w' => e = .returned (.bool b) ∧ w = w' := by
  have := Width_any n w; rwa [h] at this
theorem Fits_is (a : Nat) (n : Int) (b : Bool) (w : World) (hn : n = 8 ∨ n = 16 ∨ n = 32) (h : fitB a n = b) : Calls Try.prog 35 #[.int .u64 a, .int .i64 n] w fun e w' => e = .returned (.bool b) ∧ w = w' := by
  have := Fits_any a n hn w; rwa [h] at this
theorem Hash_big (n : Int) (key k c : Nat) (A : Option Addr) (w : World) (h : 1000 < k) (hm : k ≤ 9223372036854775807) :
    Calls Try.prog 11 #[.int .i64 n, .int .u64 key, .slice A k c] w fun e w' => e = .returned (.bool true) ∧ Below w.heap.size w w' := by
  have g1 : (1000 : Int) < (k : Int) := by omega
  go_enter Try.func11, Try.ntmps11
  go_wp2_with (go_at_call 15; refine (known_any _).mono ?_; rintro e w9 ⟨rfl, hb9⟩)
  go_ret
  exact ⟨rfl, hb9⟩
set_option maxRecDepth 100000 in
set_option maxHeartbeats 1000000 in
theorem Hash_none (n : Int) (key k c : Nat) (A : Option Addr) (bits : List Bool) (w : World) (hk : k ≤ 1000) (hkc : k ≤ c) (hkey : key < 18446744073709551616) (hr : Rd w w.heap.size 1 A k (bits.map Value.bool)) (hn : isWB n = false) :
    Calls Try.prog 11 #[.int .i64 n, .int .u64 key, .slice A k c] w fun e w' => e = .returned (.bool true) ∧ Below w.heap.size w w' := by
  have g1 : (k : Int) ≤ 1000 := by omega
  have M0 := Lib.hid hr
  clear hr
  have HE1 : Hid (elemE n [key] = 2) := Lib.hid (by unfold elemE; rw [if_pos]; rw [modN_zero]; simp [isWB] at hn; omega)
  have HE2 : Hid (elemE n [] = 2) := Lib.hid (by rw [elemE_nil, hn]; rfl)
  have HB := Lib.hid hn
  clear hn
  go_enter Try.func11, Try.ntmps11
  go_wp2_with fail
  refine (kept_any _ _ _ bits _ (by omega) (M0.out)).mono ?_
  rintro e w1 ⟨A1, c1, rfl, hc1, hown1, hb1⟩
  have s1 := hb1.size
  have B1 : Below w.heap.size w w1 := hb1
  have M1 := Lib.hid ((M0.out.below hb1).mono s1); clear M0
  have X1 := Lib.hid (Rd.own hown1); clear hown1
  try dsimp only [id]
  go_wp2_with fail
  refine (Hash_err _ _ _ _ _ bits _ 2 HE1.out (by decide) hkey (by omega) hc1 (X1.out)).mono ?_
  rintro e w2 ⟨rfl, hb2⟩
  have s2 := hb2.size
  have B2 : Below w.heap.size w w2 := B1.trans (hb2.mono (by omega))
  have M2 := Lib.hid ((M1.out.below hb2).mono s2); clear M1
  have X2 := Lib.hid ((X1.out.below hb2).mono s2); clear X1
  go_wp2_with fail
  refine (Words_err _ _ _ 2 HE2.out (by decide)).mono ?_
  rintro e w' ⟨rfl, rfl⟩
  go_wp2_with fail
  refine (Width_is _ false _ HB.out).mono ?_
  rintro e w' ⟨rfl, rfl⟩
  go_wp2_with fail
  refine (known_any _).mono ?_
  rintro e w3 ⟨rfl, hb3⟩
  have s3 := hb3.size
  have B3 : Below w.heap.size w w3 := B2.trans (hb3.mono (by omega))
  have M3 := Lib.hid ((M2.out.below hb3).mono s3); clear M2
  have X3 := Lib.hid ((X2.out.below hb3).mono s3); clear X2
  go_wp2_with fail; go_ret; exact ⟨rfl, B3⟩
set_option maxRecDepth 100000 in
set_option maxHeartbeats 1000000 in
theorem Hash_over (wd : Nat) (key k c : Nat) (A : Option Addr) (bits : List Bool) (w : World) (hk : k ≤ 1000) (hkc : k ≤ c) (hkey : key < 18446744073709551616) (hr : Rd w w.heap.size 1 A k (bits.map Value.bool)) (hw : IsW wd) (hlt : ¬ key < 2 ^ wd) :
    Calls Try.prog 11 #[.int .i64 wd, .int .u64 key, .slice A k c] w fun e w' => e = .returned (.bool true) ∧ Below w.heap.size w w' := by
  have g1 : (k : Int) ≤ 1000 := by omega
  have M0 := Lib.hid hr
  clear hr
  have HW := Lib.hid hw
  have HWI : Hid ((wd : Int) = 8 ∨ (wd : Int) = 16 ∨ (wd : Int) = 32) := Lib.hid (by have := HW.out; unfold IsW at this; omega)
  have HB : Hid (isWB (wd : Int) = true) := Lib.hid (by rcases HW.out with rfl | rfl | rfl <;> rfl)
  have HWL := Lib.hid (wordsL_lt (w := wd) (by have := hw.pos; omega) bits)
  have hmz : modN ((wd : Int)).toNat ≠ 0 := by rcases HW.out with rfl | rfl | rfl <;> decide
  have HE1 : Hid (elemE wd [key] = 3) := Lib.hid (by
    unfold elemE; rw [if_neg hmz, if_neg]; simp only [List.all_cons, List.all_nil, Bool.and_true, decide_eq_true_eq, Int.toNat_natCast]
    have := Nat.div_pos (Nat.le_of_not_lt hlt) (Nat.two_pow_pos _); omega)
  have HF : Hid (fitB key wd = false) := Lib.hid (by unfold fitB; simpa using hlt)
  clear hw hlt hmz
  go_enter Try.func11, Try.ntmps11
  go_wp2_with fail
  refine (kept_any _ _ _ bits _ (by omega) (M0.out)).mono ?_
  rintro e w1 ⟨A1, c1, rfl, hc1, hown1, hb1⟩
  have s1 := hb1.size
  have B1 : Below w.heap.size w w1 := hb1
  have M1 := Lib.hid ((M0.out.below hb1).mono s1); clear M0
  have X1 := Lib.hid (Rd.own hown1); clear hown1
  try dsimp only [id]
  go_wp2_with fail
  refine (Hash_err _ _ _ _ _ bits _ 3 HE1.out (by decide) hkey (by omega) hc1 (X1.out)).mono ?_
  rintro e w2 ⟨rfl, hb2⟩
  have s2 := hb2.size
  have B2 : Below w.heap.size w w2 := B1.trans (hb2.mono (by omega))
  have M2 := Lib.hid ((M1.out.below hb2).mono s2); clear M1
  have X2 := Lib.hid ((X1.out.below hb2).mono s2); clear X1
  go_wp2_with fail
  refine (Words_ok wd k _ HW.out (by omega)).mono ?_
  rintro e w' ⟨rfl, rfl⟩
  go_wp2_with fail
  refine (Width_is _ true _ HB.out).mono ?_
  rintro e w' ⟨rfl, rfl⟩
  go_wp2_with fail
  refine (refWords_any wd _ _ _ bits _ HW.out (by omega) (M2.out)).mono ?_
  rintro e w3 ⟨A3, c3, rfl, hc3, hown3, hb3⟩
  have s3 := hb3.size
  have B3 : Below w.heap.size w w3 := B2.trans (hb3.mono (by omega))
  have M3 := Lib.hid ((M2.out.below hb3).mono s3); clear M2
  have X3 := Lib.hid ((X2.out.below hb3).mono s3); clear X2
  have V3 := Lib.hid (Rd.own hown3); clear hown3
  try dsimp only [id]
  clear V3
  go_wp2_with fail
  refine (Same_self _ _ _ _ _ _ bits _ (by omega) (by omega) (X3.out) (M3.out)).mono ?_
  rintro e w4 ⟨rfl, hb4⟩
  have s4 := hb4.size
  have B4 : Below w.heap.size w w4 := B3.trans (hb4.mono (by omega))
  have M4 := Lib.hid ((M3.out.below hb4).mono s4); clear M3
  have X4 := Lib.hid ((X3.out.below hb4).mono s4); clear X3
  go_wp2_with fail
  refine (Fits_is _ _ false _ HWI.out HF.out).mono ?_
  rintro e w' ⟨rfl, rfl⟩
  go_wp2_with fail
  refine (known_any _).mono ?_
  rintro e w5 ⟨rfl, hb5⟩
  have s5 := hb5.size
  have B5 : Below w.heap.size w w5 := B4.trans (hb5.mono (by omega))
  have M5 := Lib.hid ((M4.out.below hb5).mono s5); clear M4
  have X5 := Lib.hid ((X4.out.below hb5).mono s5); clear X4
  go_wp2_with fail; go_ret; exact ⟨rfl, B5⟩
set_option maxRecDepth 100000 in
set_option maxHeartbeats 1000000 in
theorem Hash_yes (wd : Nat) (key k c : Nat) (A : Option Addr) (bits : List Bool) (w : World) (hk : k ≤ 1000) (hkc : k ≤ c) (hkey : key < 18446744073709551616) (hr : Rd w w.heap.size 1 A k (bits.map Value.bool)) (hw : IsW wd) (hlt : key < 2 ^ wd) :
    Calls Try.prog 11 #[.int .i64 wd, .int .u64 key, .slice A k c] w fun e w' => e = .returned (.bool true) ∧ Below w.heap.size w w' := by
  have g1 : (k : Int) ≤ 1000 := by omega
  have M0 := Lib.hid hr
  clear hr
  have HW := Lib.hid hw
  have HWI : Hid ((wd : Int) = 8 ∨ (wd : Int) = 16 ∨ (wd : Int) = 32) := Lib.hid (by have := HW.out; unfold IsW at this; omega)
  have HB : Hid (isWB (wd : Int) = true) := Lib.hid (by rcases HW.out with rfl | rfl | rfl <;> rfl)
  have HWL := Lib.hid (wordsL_lt (w := wd) (by have := hw.pos; omega) bits)
  have hmz : modN ((wd : Int)).toNat ≠ 0 := by rcases HW.out with rfl | rfl | rfl <;> decide
  have HF : Hid (fitB key wd = true) := Lib.hid (by unfold fitB; simpa using hlt)
  clear hw hmz
  go_enter Try.func11, Try.ntmps11
  go_wp2_with fail
  refine (kept_any _ _ _ bits _ (by omega) (M0.out)).mono ?_
  rintro e w1 ⟨A1, c1, rfl, hc1, hown1, hb1⟩
  have s1 := hb1.size
  have B1 : Below w.heap.size w w1 := hb1
  have M1 := Lib.hid ((M0.out.below hb1).mono s1); clear M0
  have X1 := Lib.hid (Rd.own hown1); clear hown1
  try dsimp only [id]
  go_wp2_with fail
  refine (Hash_ok wd key _ _ _ bits _ HW.out hlt (by omega) hc1 (X1.out)).mono ?_
  rintro e w2 ⟨rfl, hb2⟩
  have s2 := hb2.size
  have B2 : Below w.heap.size w w2 := B1.trans (hb2.mono (by omega))
  have M2 := Lib.hid ((M1.out.below hb2).mono s2); clear M1
  have X2 := Lib.hid ((X1.out.below hb2).mono s2); clear X1
  go_wp2_with fail
  refine (Words_ok wd k _ HW.out (by omega)).mono ?_
  rintro e w' ⟨rfl, rfl⟩
  go_wp2_with fail
  refine (Width_is _ true _ HB.out).mono ?_
  rintro e w' ⟨rfl, rfl⟩
  go_wp2_with fail
  refine (refWords_any wd _ _ _ bits _ HW.out (by omega) (M2.out)).mono ?_
  rintro e w3 ⟨A3, c3, rfl, hc3, hown3, hb3⟩
  have s3 := hb3.size
  have B3 : Below w.heap.size w w3 := B2.trans (hb3.mono (by omega))
  have M3 := Lib.hid ((M2.out.below hb3).mono s3); clear M2
  have X3 := Lib.hid ((X2.out.below hb3).mono s3); clear X2
  have V3 := Lib.hid (Rd.own hown3); clear hown3
  try dsimp only [id]
  clear V3
  go_wp2_with fail
  refine (Same_self _ _ _ _ _ _ bits _ (by omega) (by omega) (X3.out) (M3.out)).mono ?_
  rintro e w4 ⟨rfl, hb4⟩
  have s4 := hb4.size
  have B4 : Below w.heap.size w w4 := B3.trans (hb4.mono (by omega))
  have M4 := Lib.hid ((M3.out.below hb4).mono s4); clear M3
  have X4 := Lib.hid ((X3.out.below hb4).mono s4); clear X3
  go_wp2_with fail
  refine (Fits_is _ _ true _ HWI.out HF.out).mono ?_
  rintro e w' ⟨rfl, rfl⟩
  go_wp2_with fail
  refine (refHash_any wd key _ _ _ bits _ HW.out hlt (by omega) (M4.out)).mono ?_
  rintro e w5 ⟨⟨y, hy, rfl⟩, hb5⟩
  have s5 := hb5.size
  have B5 : Below w.heap.size w w5 := B4.trans (hb5.mono (by omega))
  have M5 := Lib.hid ((M4.out.below hb5).mono s5); clear M4
  have X5 := Lib.hid ((X4.out.below hb5).mono s5); clear X4
  rw [hash_eq HW.out hlt _ (HWL.out)] at hy
  subst hy
  go_wp2_with fail
  refine (known_any _).mono ?_
  rintro e w6 ⟨rfl, hb6⟩
  have s6 := hb6.size
  have B6 : Below w.heap.size w w6 := B5.trans (hb6.mono (by omega))
  have M6 := Lib.hid ((M5.out.below hb6).mono s6); clear M5
  have X6 := Lib.hid ((X5.out.below hb6).mono s6); clear X5
  go_wp2_with fail; go_ret; exact ⟨rfl, B6⟩
theorem AlgebraHash_walk (n : Int) (key : Nat) (v2 : Value) (i2 : BitsArg) (w : World) (_ : -9223372036854775808 ≤ n ∧ n ≤ 9223372036854775807) (hkey : key < 18446744073709551616) (hx : IsBits w v2 i2) :
    Calls Try.prog 11 #[.int .i64 n, .int .u64 key, v2] w fun e w' => e = .returned (.bool true) ∧ Below w.heap.size w w' := by
  obtain ⟨rfl, a1, a2, a3, a4⟩ := hx
  by_cases h : 1000 < i2.n
  · exact Hash_big _ _ _ _ _ w h (by omega)
  · by_cases hb : isWB n = true
    · have hnn : n = 8 ∨ n = 16 ∨ n = 32 := by simpa [isWB, or_assoc] using hb
      obtain ⟨wd, rfl⟩ : ∃ wd : Nat, n = wd := ⟨n.toNat, by omega⟩
      have hw : IsW wd := by have h1 : (wd : Int) = 8 ∨ (wd : Int) = 16 ∨ (wd : Int) = 32 := by simpa [isWB, or_assoc] using hb
                             unfold IsW; omega
      by_cases hlt : key < 2 ^ wd
      · exact Hash_yes wd key _ _ _ i2.bs w (by omega) a1 hkey a4 hw hlt
      · exact Hash_over wd key _ _ _ i2.bs w (by omega) a1 hkey a4 hw hlt
    · exact Hash_none n key _ _ _ i2.bs w (by omega) a1 hkey a4 (by simpa using hb)
end Go.Proofs.Ytahfkhnhmnjbeaa
