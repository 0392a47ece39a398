/- The walk of AlgebraJoin: it returns true for any shares and any number. -/
import Derived.Test.YthmooplhhkafcaaJoinAll
import Derived.Test.YthmooplhhkafcaaOwnShares
import Derived.Test.YthmooplhhkafcaaOpenShares
import Derived.Test.YthmooplhhkafcaaKnown
namespace Go.Proofs.Ythmooplhhkafcaa
open Go.RowKit
set_option linter.unusedVariables false
theorem secJ_bytes {len : Nat} {l : List ShareV} (g : ShGood len l) (hb : ShBytes l) (k m : Nat) : Bytes (secJ l k m) := fun y hy => by
  obtain ⟨j, _, rfl⟩ := List.mem_map.1 hy
  exact getD_byte (polyJ_bytes g hb k j) 0
theorem joinS_bytes {w : World} {B n : Nat} {A : Option Addr} {l : List ShareV} (h : ShR w B A n l) (k : Int) : Bytes (joinS l k) := by
  unfold joinS
  split
  · rename_i h0
    have hz : chkE (l.headD ⟨0, none, 0, 0, []⟩).n [] l = 0 := by
      unfold joinE at h0
      split at h0
      · omega
      · split at h0
        · omega
        · split at h0
          · rename_i h1; exact h0
          · rename_i h1; simpa using h1
    exact secJ_bytes (chk_good _ l [] hz).1 (fun s hs => ⟨(h.2.2 s hs).1, (h.2.2 s hs).2.1⟩) _ _
  · exact Bytes.nil
theorem Join_big (A : Option Addr) (n c : Nat) (k : Int) (w : World) (h : 20 < n) (hm : n ≤ 9223372036854775807) :
    Calls Try.prog 6 #[.slice A n c, .int .i64 k] w fun e w' => e = .returned (.bool true) ∧ Below w.heap.size w w' := by
  have g1 : (20 : Int) < (n : Int) := by omega
  go_enter Try.func6, Try.ntmps6
  go_wp2_with (go_at_call 12; refine (known_any _).mono ?_; rintro e w9 ⟨rfl, hb9⟩)
  go_ret
  exact ⟨rfl, hb9⟩
set_option maxRecDepth 100000 in
set_option maxHeartbeats 1000000 in
theorem Join_law (A : Option Addr) (n c : Nat) (k : Int) (l : List ShareV) (w : World) (hn : n ≤ 20) (hnc : n ≤ c) (hll : l.length = n) (hrd : Rd w w.heap.size 2 A n (shCells l)) (hraw : ∀ s ∈ l, s.raw w) :
    Calls Try.prog 6 #[.slice A n c, .int .i64 k] w fun e w' => e = .returned (.bool true) ∧ Below w.heap.size w w' := by
  have g1 : (n : Int) ≤ 20 := by omega
  have HL := Lib.hid hll; have HR := Lib.hid hrd; have HW := Lib.hid hraw
  clear hll hrd hraw
  go_enter Try.func6, Try.ntmps6
  go_wp2_with fail
  go_loop [5] (fun v => ∃ i : Nat, i ≤ n ∧ v = .int .i64 i ∧ ∀ s ∈ l.take i, s.n ≤ 300) (fun v => n - (intOf v).toNat)
  case atStart => exact ⟨0, Nat.zero_le _, rfl, fun s hs => by simp at hs⟩
  case round =>
    obtain ⟨i, hi, rfl, hall⟩ := hrel
    have HA := Lib.hid hall
    clear hall
    by_cases hlt : i < n
    · have hlt' : (i : Int) < (n : Int) := by omega
      have hil : i < l.length := by rw [HL.out]; exact hlt
      obtain ⟨b, off, rfl, hb, hc⟩ := HR.out.2 (by omega)
      have c1 : w.cell? ⟨b, off + i * 2 + 1, none⟩ = some (.slice (l[i]).A (l[i]).n (l[i]).c) := hc _ _ (shCells_1 l i hil)
      have hraw := HW.out _ (List.getElem_mem hil)
      have hmx : (l[i]).n ≤ 9223372036854775807 := Nat.le_trans hraw.2.2.1 hraw.2.2.2.1
      have HT : Hid (∀ h300 : (l[i]).n ≤ 300, ∀ s ∈ l.take (i + 1), s.n ≤ 300) := Lib.hid (fun h300 s hs => by
        rw [take_snoc _ _ hil] at hs
        rcases List.mem_append.1 hs with h | h
        · exact HA.out s h
        · rw [List.mem_singleton.1 h]; exact h300)
      generalize l[i] = s at c1 HT hmx hraw
      clear hc hil hraw
      obtain ⟨X, A1, n1, cp1, Y⟩ := s
      dsimp only at c1 HT hmx
      by_cases h3 : 300 < n1
      · have h3' : (300 : Int) < (n1 : Int) := by omega
        clear HT
        go_wp2_with (go_at_call 12; refine (known_any _).mono ?_; rintro e w9 ⟨rfl, hb9⟩)
        go_ret
        exact ⟨rfl, hb9⟩
      · have h3' : (n1 : Int) ≤ 300 := by omega
        have HT2 := Lib.hid (HT.out (by omega))
        clear HT
        go_wp2_with fail
        go_round
        case rel => exact ⟨i + 1, hlt, by go_num, HT2.out⟩
        case measure => simp [intOf]; omega
    · have hlt' : ¬ (i : Int) < (n : Int) := by omega
      obtain rfl : i = n := by omega
      have hall : ∀ s ∈ l, s.n ≤ 300 := by have := HA.out; rwa [List.take_of_length_le (by rw [HL.out]; exact Nat.le_refl _)] at this
      have L0 : Hid (ShR w w.heap.size A i l) := Lib.hid ⟨HL.out, HR.out, fun s hs => (HW.out s hs).ok (by have := hall s hs; omega)⟩
      have LL := Lib.hid L0.out.lens
      have JB := Lib.hid (joinS_bytes L0.out k)
      clear HA hall HR HW
      go_wp2_with fail
      refine (own_any _ _ _ l _ (by omega) (L0.out)).mono ?_
      rintro e w1 ⟨A1, c1, m, rfl, hc1, hso1, hv1, hb1⟩
      have s1 := hb1.size
      have B1 : Below w.heap.size w w1 := hb1
      have L1 := Lib.hid ((L0.out.below hb1).mono s1); clear L0
      have M1 := Lib.hid hso1.rd; have HV := Lib.hid hv1; have HJV := Lib.hid (join_view (M1.out.lens) LL.out HV.out k); clear hso1 hv1
      try dsimp only [id]
      go_wp2_with fail
      refine (Join_any _ _ _ k m _ (by omega) hc1 (M1.out)).mono ?_
      rintro e w2 ⟨A2, m2, c2, rfl, hc2, hS2, hr2, hb2⟩
      have s2 := hb2.size
      have B2 : Below w.heap.size w w2 := B1.trans (hb2.mono (by omega))
      have L2 := Lib.hid ((L1.out.below hb2).mono s2); clear L1
      have M2 := Lib.hid ((M1.out.below hb2).mono s2); clear M1
      rw [HJV.out.2] at hS2 hr2
      rw [HJV.out.1]
      have S2 := Lib.hid hr2; have HS2 := Lib.hid hS2; clear hr2 hS2
      go_wp2_with fail
      refine (refJoin_any _ _ _ k l _ (by omega) hnc (L2.out)).mono ?_
      rintro e w3 ⟨A3, m3, c3, rfl, hc3, hS3, hr3, hb3⟩
      have s3 := hb3.size
      have B3 : Below w.heap.size w w3 := B2.trans (hb3.mono (by omega))
      have L3 := Lib.hid ((L2.out.below hb3).mono s3); clear L2
      have M3 := Lib.hid ((M2.out.below hb3).mono s3); clear M2
      have S3 := Lib.hid ((S2.out.below hb3).mono s3); clear S2
      have R3 := Lib.hid hr3; have HS3 := Lib.hid hS3; clear hr3 hS3
      clear HJV HS2 HS3
      generalize joinE l k = E
      go_wp2_with fail
      refine (same_yes _ _ _ _ _ _ (joinS l k) _ _ JB.out (S3.out) (R3.out)).mono ?_
      rintro e w' ⟨rfl, rfl⟩
      go_wp2_with fail
      refine (sameShares_yes _ _ _ _ _ m l _ _ (by omega) (M3.out) (L3.out) HV.out).mono ?_
      rintro e w4 ⟨rfl, hq4⟩
      have hb4 := hq4.below w3.heap.size
      have s4 := hb4.size
      have B4 : Below w.heap.size w w4 := B3.trans (hb4.mono (by omega))
      have L4 := Lib.hid ((L3.out.below hb4).mono s4); clear L3
      have M4 := Lib.hid ((M3.out.below hb4).mono s4); clear M3
      have S4 := Lib.hid ((S3.out.below hb4).mono s4); clear S3
      have R4 := Lib.hid ((R3.out.below hb4).mono s4); clear R3
      go_wp2_with fail
      refine (known_any _).mono ?_
      rintro e w5 ⟨rfl, hb5⟩
      have s5 := hb5.size
      have B5 : Below w.heap.size w w5 := B4.trans (hb5.mono (by omega))
      have L5 := Lib.hid ((L4.out.below hb5).mono s5); clear L4
      have M5 := Lib.hid ((M4.out.below hb5).mono s5); clear M4
      have S5 := Lib.hid ((S4.out.below hb5).mono s5); clear S4
      have R5 := Lib.hid ((R4.out.below hb5).mono s5); clear R4
      go_wp2_with fail; go_ret; exact ⟨rfl, B5⟩
theorem AlgebraJoin_walk (v0 : Value) (i0 : SharesArg) (k : Int) (w : World) (hx : IsShares w v0 i0) (_ : -9223372036854775808 ≤ k ∧ k ≤ 9223372036854775807) :
    Calls Try.prog 6 #[v0, .int .i64 k] w fun e w' => e = .returned (.bool true) ∧ Below w.heap.size w w' := by
  obtain ⟨rfl, a1, a2, a3, a4, a5⟩ := hx
  by_cases h : 20 < i0.n
  · exact Join_big _ _ _ _ w h (by omega)
  · exact Join_law _ _ _ k i0.l w (by omega) a1 a3 a4 a5
end Go.Proofs.Ythmooplhhkafcaa
