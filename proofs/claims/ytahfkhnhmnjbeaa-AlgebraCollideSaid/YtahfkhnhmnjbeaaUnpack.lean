/- Contracts of Unpack (reference; the program's to come). Conditions: as each statement says. -/
import Derived.Test.YtahfkhnhmnjbeaaPack
namespace Go.Proofs.Ytahfkhnhmnjbeaa
open Go.RowKit
set_option linter.unusedVariables false
set_option linter.unusedSimpArgs false
/-- Bit i of bytes. -/
def bitU (p : List Nat) (i : Nat) : Bool := (p.getD (i / 8) 0 / 2 ^ (7 - i % 8)) % 2 == 1
def unL (p : List Nat) (k : Nat) : List Bool := (List.range k).map (bitU p)
def okU (p : List Nat) (n k : Nat) : Bool := (List.range k).all fun i => decide (i < n) || !bitU p i
theorem unL_len (p : List Nat) (k : Nat) : (unL p k).length = k := by simp [unL]
theorem unL_snoc (p : List Nat) (k : Nat) : unL p (k + 1) = unL p k ++ [bitU p k] := by simp [unL, List.range_succ]
theorem okU_snoc (p : List Nat) (n k : Nat) : okU p n (k + 1) = (okU p n k && (decide (k < n) || !bitU p k)) := by simp [okU, List.range_succ]
set_option maxRecDepth 100000 in
set_option maxHeartbeats 1000000 in
theorem refUnpack_any (A : Option Addr) (m c n : Nat) (p : List Nat) (w : World) (hm : m ≤ 1000000) (hn : n ≤ 8 * m) (hp : ∀ x ∈ p, x < 256) (h : Rd w w.heap.size 1 A m (p.map fun x : Nat => Value.int .u8 x)) :
    Calls Try.prog 61 #[.slice A m c, .int .i64 n] w (RetOwn w 4 1 n ((unL p n).map Value.bool) (fun v => .tuple #[v, .bool (okU p n (8 * m))])) := by
  have hl : p.length = m := by have := h.1; simpa using this
  have H := Lib.hid h; clear h
  have HL := Lib.hid hl; clear hl
  obtain ⟨i0, hi0, hz0, hz1, hz2⟩ := info_parts info_bool
  have HI0 := Lib.hid hi0; have HZ0 := Lib.hid hz0; have HZ1 := Lib.hid hz1; have HZ2 := Lib.hid hz2
  have HP := Lib.hid hp
  clear hi0 hz0 hz1 hz2 hp
  go_enter Try.func61, Try.ntmps61
  go_wp2
  go_loopw [6, 7, 8] (fun v o i wr => ∃ k : Nat, k ≤ 8 * m ∧ i = .int .i64 k ∧ o = .bool (okU p n k) ∧ wr.ownsRow w.heap.size 4 1 v (min k n) ((unL p (min k n)).map Value.bool) ∧ Below w.heap.size w wr) (fun _ _ i _ => 8 * m - (intOf i).toNat)
  case atStart => exact ⟨0, Nat.zero_le _, rfl, rfl, by rw [Nat.zero_min]; exact World.ownsRow_nil _ _ _ _, Below.refl _ _⟩
  case round =>
    obtain ⟨k, hk, rfl, rfl, hown, hbw⟩ := hrel
    have hsz := hbw.size
    by_cases hlt : k < 8 * m
    · obtain ⟨b, off, rfl, hb, hc⟩ := H.out.2 (by omega)
      have hkb : k / 8 < p.length := by rw [HL.out]; omega
      have h1 : wr.cell? ⟨b, off + k / 8, none⟩ = some (.int .u8 (p.getD (k / 8) 0 : Nat)) := (hbw.cell (p := ⟨b, off + k / 8, none⟩) hb).trans (hc (k / 8) _ (by simp [hkb]))
      have hx : p.getD (k / 8) 0 < 256 := by
        rw [List.getD_eq_getElem?_getD, List.getElem?_eq_getElem hkb]; exact HP.out _ (List.getElem_mem hkb)
      have f1 : (k : Int) / 8 = ((k / 8 : Nat) : Int) := by omega
      have f2 : (k : Int) % 8 = ((k % 8 : Nat) : Int) := by omega
      have hJm : k / 8 < m := by omega
      have hr8 : k % 8 < 8 := Nat.mod_lt _ (by decide)
      have HB : Hid (bitU p k = ((p.getD (k / 8) 0 / 2 ^ (7 - k % 8)) % 2 == 1)) := Lib.hid rfl
      have HO := Lib.hid (okU_snoc p n k)
      have HU := Lib.hid (unL_snoc p k)
      clear hc hkb
      generalize p.getD (k / 8) 0 = x at h1 hx HB
      generalize k / 8 = J at h1 f1 hJm HB
      generalize k % 8 = R at f2 hr8 HB
      obtain ⟨Q, hQ⟩ : ∃ Q, Q = 7 - R := ⟨_, rfl⟩
      have hq7 : (7 : Int) - (R : Int) = (Q : Int) := by omega
      have hQ7 : Q ≤ 7 := by omega
      rw [← hQ] at HB
      clear hQ
      obtain ⟨Y, hY⟩ : ∃ Y, Y = x / 2 ^ Q := ⟨_, rfl⟩
      have fY : (x : Int) / 2 ^ Q = (Y : Int) := by rw [hY, show ((2 : Int) ^ Q) = ((2 ^ Q : Nat) : Int) by simp, ← Int.natCast_ediv]
      have hY2 : Y < 256 := by rw [hY]; exact Nat.lt_of_le_of_lt (Nat.div_le_self _ _) hx
      rw [← hY] at HB
      clear hY
      have HV : Hid (((Y : Int) % 2 == 1) = bitU p k) := Lib.hid (by
        rw [HB.out, Bool.eq_iff_iff]; simp; omega)
      clear HB
      by_cases hkn : k < n
      · have e1 : min k n = k := by omega
        rw [e1] at hown
        have HO2 : Hid (okU p n (k + 1) = okU p n k) := Lib.hid (by rw [HO.out]; simp [hkn])
        clear HO e1
        go_wp2_with (at_builtin; refine wpList_append_own _ rfl (.tmp 31) (.tmp 33) _ rfl w.heap.size 4 i0 _ 1 1 Try.underlying45 HI0.out HZ0.out HZ1.out HZ2.out rfl (by decide) _ k _ rfl (hown.alloc _) ⟨wr.heap.size, 0, none⟩ 1 1 [.bool _] rfl rfl (cell_one_new _ _ _) (by simp [Value.oneCell']) (by unfold maxLen; omega) (by omega) (by simp; omega) ?_; intro v1 w1 hown1 hg1 _)
        go_roundw
        case rel => exact ⟨k + 1, by omega, by go_num, by rw [HO2.out], by rw [show min (k + 1) n = k + 1 by omega, HU.out, ← HV.out]; simpa using hown1, ((hbw.alloc hsz _).grown hg1 (by simp; omega) (fun g hg => (hown.lt g hg).1))⟩
        case measure => simp [intOf]; omega
      · have e1 : min k n = n := by omega
        have e2 : min (k + 1) n = n := by omega
        rw [e1] at hown
        have HE2 := Lib.hid e2
        clear e1 e2
        have HO2 : Hid (okU p n (k + 1) = (okU p n k && !bitU p k)) := Lib.hid (by rw [HO.out]; simp [hkn])
        clear HO
        cases hbit : bitU p k with
        | true =>
          have hv : ((Y : Int) % 2 == 1) = true := by rw [HV.out, hbit]
          rw [hbit] at HO2
          clear hbit
          go_wp2
          go_roundw
          case rel => exact ⟨k + 1, by omega, by go_num, by rw [HO2.out]; simp, by rw [HE2.out]; exact hown, hbw⟩
          case measure => simp [intOf]; omega
        | false =>
          have hv : ((Y : Int) % 2 == 1) = false := by rw [HV.out, hbit]
          rw [hbit] at HO2
          clear hbit
          go_wp2
          go_roundw
          case rel => exact ⟨k + 1, by omega, by go_num, by rw [HO2.out]; simp, by rw [HE2.out]; exact hown, hbw⟩
          case measure => simp [intOf]; omega
    · go_wp2
      go_ret2
      obtain rfl : k = 8 * m := by omega
      rw [show min (8 * m) n = n by omega] at hown
      exact RetOwn.of (mk := fun v => .tuple #[v, .bool (okU p n (8 * m))]) hown hbw
end Go.Proofs.Ytahfkhnhmnjbeaa
