/- The contracts of Value, Poly and Split of the reference, and of the comparison of shares. Conditions: as each statement says. -/
import Derived.Test.YthmooplhhkafcaaPush
import Derived.Test.YthmooplhhkafcaaShare
import Derived.Test.YthmooplhhkafcaaHashMath
import Derived.Test.YthmooplhhkafcaaRefField
import Derived.Test.YthmooplhhkafcaaShareV
import Derived.Deep.RegionHeld3
namespace Go.Proofs.Ythmooplhhkafcaa
open Go.RowKit
set_option linter.unusedVariables false
theorem sumP_val (key : Nat) (hk : key < 256) : ∀ (p : List Nat) (t : Nat), Bytes p → t < 256 → sumP 8 key p t = gm 8 (valF p key) t
  | [], t, _, _ => by simp [sumP, valF, zero_gm isW8]
  | c :: r, t, hp, ht => by
    have hg : gm 8 t key < 256 := gm8_lt ht
    have hv := valF_lt hp.tail key
    rw [sumP, sumP_val key hk r _ hp.tail hg, valF_cons, gm_xor_left isW8 (gm8_lt hv) hp.head, gm_assoc isW8 hv hk ht, gm_comm isW8 ht hk, Nat.xor_comm]
set_option maxHeartbeats 1000000 in
theorem refValue_nat (A : Option Addr) (n c : Nat) (p : List Nat) (x : Nat) (w : World) (B : Nat) (hn : n ≤ 1073741824) (hp : Bytes p) (hx : x < 256) (h : Rd w B 1 A n (u8s p)) :
    Calls Try.prog 66 #[.slice A n c, .int .u8 x] w fun e w' => e = .returned (.int .u8 (valF p x)) ∧ w = w' := by
  have hl : p.length = n := by have := h.1; simpa [u8s] using this
  have H := Lib.hid h; have HL := Lib.hid hl; have HP := Lib.hid hp
  clear h hl hp
  go_enter Try.func66, Try.ntmps66
  go_wp2
  go_loop [5, 6, 7] (fun o pw i => ∃ j a b : Nat, j ≤ n ∧ i = .int .i64 j ∧ o = .int .u64 a ∧ pw = .int .u64 b ∧ a < 256 ∧ b < 256 ∧ a ^^^ sumP 8 x (p.drop j) b = valF p x) (fun _ _ i => n - (intOf i).toNat)
  case atStart => exact ⟨0, 0, 1, Nat.zero_le _, rfl, rfl, rfl, by decide, by decide, by rw [Nat.zero_xor, List.drop_zero, sumP_val x hx p 1 HP.out (by decide), gm_one isW8]⟩
  case round =>
    obtain ⟨j, a, b, hj, rfl, rfl, rfl, ha, hb, he⟩ := hrel
    have HE := Lib.hid he; clear he
    by_cases hlt : j < n
    · have hjl : j < p.length := by rw [HL.out]; exact hlt
      obtain ⟨bb, off, rfl, hbb, hc⟩ := H.out.2 (by omega)
      have hcell : w.cell? ⟨bb, off + j, none⟩ = some (.int .u8 (p[j] : Nat)) := hc j _ (by simp [u8s, hjl])
      have hy := HP.out _ (List.getElem_mem hjl)
      have HS : Hid (sumP 8 x (p.drop j) b = gm 8 p[j] b ^^^ sumP 8 x (p.drop (j + 1)) (gm 8 b x)) := Lib.hid (by rw [List.drop_eq_getElem_cons hjl]; rfl)
      clear hc
      generalize p[j] = y at hcell hy HS
      clear hjl
      have hg1 : gm 8 y b < 256 := gm8_lt hy
      have hg2 : gm 8 b x < 256 := gm8_lt hb
      have M1 := refMul_nat 8 y b isW8 hy hb w
      have M2 := refMul_nat 8 b x isW8 hb hx w
      have HM1 := Lib.hid M1; have HM2 := Lib.hid M2
      clear M1 M2
      go_wp2_with fail
      refine HM1.out.mono ?_
      rintro e w' ⟨rfl, rfl⟩
      go_wp2_with fail
      refine HM2.out.mono ?_
      rintro e w' ⟨rfl, rfl⟩
      go_wp2_with fail
      go_round
      case rel => exact ⟨j + 1, a ^^^ gm 8 y b, gm 8 b x, by omega, by go_num, by rw [u64_xor' (by omega) (by omega)], rfl, xor8_lt ha hg1, hg2, by rw [← HE.out, HS.out, Nat.xor_assoc]⟩
      case measure => simp [intOf]; omega
    · obtain rfl : j = n := by omega
      have hv : a = valF p x := by have := HE.out; rwa [List.drop_of_length_le (by rw [HL.out]; exact Nat.le_refl _), sumP, Nat.xor_zero] at this
      have HV := Lib.hid hv
      clear hv HE
      go_wp2
      go_ret
      exact ⟨by rw [HV.out]; rfl, rfl⟩
theorem refValue_any (A : Option Addr) (n c : Nat) (p : List Nat) (x : Int) (w : World) (B : Nat) (hn : n ≤ 1073741824) (hp : Bytes p) (hx0 : 0 ≤ x) (hx : x ≤ 255) (h : Rd w B 1 A n (u8s p)) :
    Calls Try.prog 66 #[.slice A n c, .int .u8 x] w fun e w' => e = .returned (.int .u8 (valF p x.toNat)) ∧ w = w' := by
  have := refValue_nat A n c p x.toNat w B hn hp (by omega) h
  rw [toNat_cast_eq hx0] at this
  exact this
/-- The polynomial of byte j. -/
def polyL (sec co : List Nat) (q j : Nat) : List Nat := sec.getD j 0 :: (co.drop (j * q)).take q
/-- The shares of a secret, as the definition says. -/
def sharesV (sec co : List Nat) (q n N : Nat) : List (Nat × List Nat) := (List.range N).map fun i => (i + 1, shareY sec co q (i + 1) n)
theorem sharesV_snoc (sec co : List Nat) (q n N : Nat) : sharesV sec co q n (N + 1) = sharesV sec co q n N ++ [(N + 1, shareY sec co q (N + 1) n)] := by simp [sharesV, List.range_succ]
theorem polyL_bytes {sec co : List Nat} {q j : Nat} (hs : Bytes sec) (hc : Bytes co) : Bytes (polyL sec co q j) := by
  refine Bytes.cons ?_ ((hc.drop _).take _)
  rcases Nat.lt_or_ge j sec.length with h | h
  · simp only [List.getD, List.getElem?_eq_getElem h, Option.getD_some]; exact hs _ (List.getElem_mem h)
  · simp [List.getD, List.getElem?_eq_none h]
theorem polyL_val (sec co : List Nat) (q j x : Nat) : valF (polyL sec co q j) x = shareB sec co q x j := rfl
theorem shareY_bytes {sec co : List Nat} {q x n : Nat} (hs : Bytes sec) (hc : Bytes co) : Bytes (shareY sec co q x n) := fun y hy => by
  obtain ⟨j, _, rfl⟩ := List.mem_map.1 hy
  rw [← polyL_val]; exact valF_lt (polyL_bytes hs hc) x
end Go.Proofs.Ythmooplhhkafcaa
