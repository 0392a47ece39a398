/- The contract of put: bytes into a part of a block. Conditions: as the statement says. -/
import Derived.Test.YtdgmjedkhjeadaaGreatKeepL
import Derived.Test.YtdgmjedkhjeadaaGreatSto2
import Derived.Laws.CopyOwn
namespace Go.Proofs.YtdgmjedkhjeadaaGreat
open Go.RowKit
set_option linter.unusedVariables false
theorem beB_cons : ∀ (m n : Nat), beB (m + 1) n = ((n / 256 ^ m) % 256) :: beB m n
  | 0, n => by simp [beB]
  | m + 1, n => by
    rw [beB, beB_cons m (n / 256), beB, List.cons_append, Nat.div_div_eq_div_mul, Nat.pow_succ, Nat.mul_comm 256]
theorem splice_step {α : Type} (L : List α) (o : Nat) (X : List α) (x : α) (h : o + 1 + X.length ≤ L.length) : (splice L (o + 1) X).set o x = splice L o (x :: X) := by
  unfold splice
  have h1 : (L.take (o + 1)).length = o + 1 := by rw [List.length_take]; omega
  rw [List.set_append_left _ _ (by rw [h1]; omega)]
  have h2 : L.take (o + 1) = L.take o ++ [L[o]] := List.take_succ_eq_append_getElem (by omega)
  rw [h2, List.set_append_right _ _ (by rw [List.length_take]; omega), List.length_take, Nat.min_eq_left (by omega), Nat.sub_self, List.set_cons_zero, List.append_assoc, List.singleton_append, List.length_cons, List.cons_append]
  congr 4
  omega
theorem byteC (l : List Nat) (x : Nat) : secC (x :: l) = Value.int .u8 (x : Int) :: secC l := rfl
def PutB (b off k n : Nat) (cs : List Value) (t : TypeId) (w : World) (e : Ending) (w' : World) : Prop :=
  e = .returned (.tuple #[]) ∧ Bk w' b (splice cs off (secC (beB k n))).toArray t ∧ KeepL [b] w w'
set_option maxRecDepth 100000 in
set_option maxHeartbeats 1000000 in
theorem putB_any (b off k c n : Nat) (cs : List Value) (t : TypeId) (w : World) (hb : Bk w b cs.toArray t) (hk : off + k ≤ cs.length) (hk0 : 1 ≤ k) (hk2 : k ≤ 1000) (hn : n < 4611686018427387904) :
    Calls Tryz.prog 105 #[.slice (some ⟨b, off, none⟩) k c, .int .i64 (n : Int)] w (PutB b off k n cs t w) := by
  have HB := Lib.hid hb
  clear hb
  go_enter Tryz.func105, Tryz.ntmps105
  go_wp2_with fail
  go_loopw [1, 4] (fun v1 v4 wr => ∃ m : Nat, m ≤ k ∧ v4 = .int .i64 ((k : Int) - 1 - m) ∧ v1 = .int .i64 ((n / 256 ^ m : Nat) : Int) ∧ Bk wr b (splice cs (off + (k - m)) (secC (beB m n))).toArray t ∧ KeepL [b] w wr) (fun _ v4 _ => (intOf v4 + 1).toNat)
  case atStart => exact ⟨0, Nat.zero_le _, by simp, by simp, by
    have e : splice cs (off + (k - 0)) (secC (beB 0 n)) = cs := by unfold splice; simp [beB, secC]
    rw [e]; exact HB.out, KeepL.refl _ _⟩
  case round =>
    obtain ⟨m, hm, rfl, rfl, hbk, hkp⟩ := hrel
    obtain ⟨wa, rfl⟩ : ∃ z : World, z = wr := ⟨_, rfl⟩
    have HBK := Lib.hid hbk; have HKP := Lib.hid hkp
    by_cases hlt : m < k
    · have hge : decide ((0 : Int) ≤ (k : Int) - 1 - m) = true := decide_eq_true (by omega)
      have hj : 0 ≤ (k : Int) - 1 - m ∧ (k : Int) - 1 - m < (k : Int) := by omega
      obtain ⟨q, hq⟩ : ∃ q : Nat, (k : Int) - 1 - m = (q : Int) ∧ q + m + 1 = k := ⟨k - 1 - m, by omega, by omega⟩
      have hsl : (splice cs (off + (k - m)) (secC (beB m n))).length = cs.length := length_splice _ _ _ (by rw [secC_length, beB_length]; omega)
      obtain ⟨u, hu⟩ : ∃ u, wa.cell? ⟨b, off + q, none⟩ = some u := by
        rw [hbk.cell, List.getElem?_toArray]
        exact ⟨_, List.getElem?_eq_getElem (by rw [hsl]; omega)⟩
      have fu := hbk.froz (off + q)
      have hwr : IntKind.u8.wrap ((n / 256 ^ m : Nat) : Int) = ((n / 256 ^ m % 256 : Nat) : Int) := by simp [IntKind.wrap, IntKind.bits, IntKind.signed]
      have hqi : 0 ≤ (q : Int) ∧ (q : Int) < (k : Int) := by omega
      have hge2 : decide ((0 : Int) ≤ (q : Int)) = true := decide_eq_true (by omega)
      rw [hq.1]
      have HQ := Lib.hid hq
      clear hq hj hge hbk hkp hsl
      obtain ⟨v, hv⟩ : ∃ v, v = n / 256 ^ m := ⟨_, rfl⟩
      have hvn : v < 4611686018427387904 := by rw [hv]; exact Nat.lt_of_le_of_lt (Nat.div_le_self _ _) hn
      rw [← hv] at hwr ⊢
      have HV := Lib.hid hv
      clear hv
      go_wp2_with fail
      obtain ⟨hq1, hq2⟩ := HQ.out
      refine ⟨⟨m + 1, by omega, by congr 1; omega, ?_, ?_, HKP.out.trans (KeepL.set _ _ _ _)⟩, by simp [intOf]⟩
      · rw [Nat.pow_succ, ← Nat.div_div_eq_div_mul, ← HV.out]
        congr 1
      · have h1 := HBK.out.set (off + q) (.int .u8 ((v : Int) % 256))
        have e1 : off + (k - m) = off + q + 1 := by omega
        have e2 : off + (k - (m + 1)) = off + q := by omega
        rw [List.setIfInBounds_toArray, e1, splice_step cs (off + q) _ _ (by rw [secC_length, beB_length]; omega)] at h1
        rw [e2, beB_cons, byteC, ← HV.out, show (((v % 256 : Nat)) : Int) = (v : Int) % 256 by omega]
        exact h1
    · have hge : decide ((0 : Int) ≤ (k : Int) - 1 - m) = false := decide_eq_false (by omega)
      have hmk : m = k := by omega
      have HMK := Lib.hid hmk
      clear hbk hkp hmk
      go_wp2_with fail
      go_end0
      unfold PutB
      have h1 := HBK.out
      rw [HMK.out, Nat.sub_self, Nat.add_zero] at h1
      exact ⟨rfl, h1, HKP.out⟩
end Go.Proofs.YtdgmjedkhjeadaaGreat
