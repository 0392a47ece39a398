/- The contract of the iterator over the words of a bit string (the closure that words returns). Conditions: as the statement says. -/
import Derived.Test.YthmooplhhkafcaaRangeM
import Derived.Test.YthmooplhhkafcaaZip
import Derived.Test.YthmooplhhkafcaaPack
import Derived.Test.YthmooplhhkafcaaToepWalk
import Derived.Stop.RegionWithIn
namespace Go.Proofs.Ythmooplhhkafcaa
open Go.RowKit
set_option linter.unusedVariables false
attribute [local go_sem] Oper.semAt_some
/-- What a round keeps: every block below n0 but hb. -/
def KpH (hb n0 : Nat) (A B : World) : Prop := A.heap.size ≤ B.heap.size ∧ ∀ k, k < n0 → k ≠ hb → B.heap[k]? = A.heap[k]?
theorem KpH.cell {hb n0 : Nat} {A B : World} (h : KpH hb n0 A B) {p : Addr} (h1 : p.block < n0) (h2 : p.block ≠ hb) : B.cell? p = A.cell? p := World.cell?_of_block (w := A) (h.2 _ h1 h2)
theorem KpH.frozen {hb n0 : Nat} {A B : World} (h : KpH hb n0 A B) {p : Addr} (h1 : p.block < n0) (h2 : p.block ≠ hb) : B.frozen? p = A.frozen? p := World.frozen?_of_block (w := A) (h.2 _ h1 h2)
theorem KpH.trans {hb n0 : Nat} {A B C : World} (h : KpH hb n0 A B) (k : KpH hb n0 B C) : KpH hb n0 A C := ⟨Nat.le_trans h.1 k.1, fun j h1 h2 => (k.2 j h1 h2).trans (h.2 j h1 h2)⟩
theorem Rd.kp {hb n0 B sz n : Nat} {A : Option Addr} {xs : List Value} {W W' : World} (h : Rd W B sz A n xs) (hk : KpH hb n0 W W') (h1 : B ≤ n0) (h2 : B ≤ hb) : Rd W' B sz A n xs :=
  h.keep fun b o hb' => hk.cell (p := ⟨b, o, none⟩) (by show b < n0; omega) (by show b ≠ hb; omega)
def lenAt (W : World) (mb : Nat) : Nat := match W.cell? ⟨mb, 0, none⟩ with | some (.slice _ n _) => n | _ => 0
set_option maxRecDepth 100000 in
set_option maxHeartbeats 4000000 in
theorem words1_all (n hb n0 mb wb wd B k c : Nat) (A : Option Addr) (bits : List Bool) (w : World) (hw : IsW wd) (hk : k ≤ 65536) (hkc : k ≤ c) (hn0 : n0 ≤ w.heap.size) (hmn : mb < n0) (hwn : wb < n0) (hmh : mb ≠ hb) (hwh : wb ≠ hb) (hmw : mb ≠ wb) (hBh : B ≤ hb) (hBm : B ≤ mb)
    (cm : w.cell? ⟨mb, 0, none⟩ = some (.slice A k c)) (fm : w.frozen? ⟨mb, 0, none⟩ = false) (cw : w.cell? ⟨wb, 0, none⟩ = some (.int .i64 wd)) (hr : Rd w B 1 A k (bits.map Value.bool)) :
    SeqAll Fence.wide n Try.prog 97 #[.pointer (some ⟨mb, 0, none⟩), .pointer (some ⟨wb, 0, none⟩)] (fun x : Nat => #[.int .u64 x]) mb (KpH hb n0) (wordsL wd bits) w := by
  intro l J W hbW hJ hJs hY h0
  have cm1 : W.cell? ⟨mb, 0, none⟩ = some (.slice A k c) := (hbW.cell (p := ⟨mb, 0, none⟩) (by simp only; omega)).trans cm
  have fm1 : W.frozen? ⟨mb, 0, none⟩ = false := (hbW.frozen (p := ⟨mb, 0, none⟩) (by simp only; omega)).trans fm
  have cw1 : W.cell? ⟨wb, 0, none⟩ = some (.int .i64 wd) := (hbW.cell (p := ⟨wb, 0, none⟩) (by simp only; omega)).trans cw
  have hr1 : Rd W B 1 A k (bits.map Value.bool) := hr.keep fun b o h => hbW.cell (p := ⟨b, o, none⟩) (by simp only; omega)
  have R1 := Lib.hid hr1
  have HLK : Hid (bits.length = k) := Lib.hid (by have := hr.1; simpa using this)
  clear cm fm cw hr hr1
  refine callsIn_of_wp Try.func97 rfl trivial ?_ rfl
  simp only [Try.ntmps97, List.size_toArray, List.length_cons, List.length_nil, Nat.reduceAdd, Nat.reduceSub, Array.replicate_succ, Array.replicate_zero, List.push_toArray, List.append_toArray, List.nil_append, List.cons_append]
  obtain ⟨fn, tmps, assign, body, hy, hR⟩ := hY [] 1 W ⟨chunkL wd bits (bits.length / wd) ++ [tailW wd (bits.drop (bits.length / wd * wd))], rfl⟩ h0
  simp only [Int.natCast_one] at hy
  gi_wp2
  refine ⟨fun h => (by cases h), hR.mono ?_⟩
  rintro e W1 ⟨rfl, hJ1, hk1⟩
  have cm2 : W1.cell? ⟨mb, 0, none⟩ = some (.slice A k c) := (hk1.cell hmn hmh).trans cm1
  have fm2 : W1.frozen? ⟨mb, 0, none⟩ = false := (hk1.frozen hmn hmh).trans fm1
  have cw2 : W1.cell? ⟨wb, 0, none⟩ = some (.int .i64 wd) := (hk1.cell hwn hwh).trans cw1
  have R2 := Lib.hid (R1.out.kp hk1 (by omega) hBh)
  have J1 := Lib.hid hJ1
  clear cm1 fm1 cw1 R1 hy hR hJ1 hk1 h0
  gi_wp2
  gi_loopw [] (fun wr => ∃ q A' c', q ≤ k / wd ∧ wr.cell? ⟨mb, 0, none⟩ = some (.slice A' (k - q * wd) c') ∧ k - q * wd ≤ c' ∧ wr.frozen? ⟨mb, 0, none⟩ = false ∧ wr.cell? ⟨wb, 0, none⟩ = some (.int .i64 wd) ∧ Rd wr B 1 A' (k - q * wd) ((bits.drop (q * wd)).map Value.bool) ∧ J (1 :: chunkL wd bits q) wr) (fun wr => lenAt wr mb)
  case atStart => exact ⟨0, A, c, Nat.zero_le _, by simpa using cm2, by omega, fm2, cw2, by simpa using R2.out, by simpa [chunkL] using J1.out⟩
  case round =>
    obtain ⟨q, A', c', hq, cm3, hkc', fm3, cw3, r3, j3⟩ := hrel
    obtain ⟨m, hm⟩ : ∃ m, m = k - q * wd := ⟨_, rfl⟩
    rw [← hm] at cm3 hkc' r3
    have hw0 := hw.pos
    have hw32 := hw.le
    have hlen : ((bits.drop (q * wd)).map Value.bool).length = m := by have := r3.1; simpa using this
    by_cases hlt : q < k / wd
    · have hge : wd ≤ m := by
        have h1 : (q + 1) * wd ≤ k / wd * wd := Nat.mul_le_mul_right _ hlt
        have h2 := Nat.div_mul_le_self k wd
        rw [Nat.add_mul] at h1; omega
      have hgi : (wd : Int) ≤ (m : Int) := by omega
      have hmk : m ≤ 65536 := by omega
      obtain ⟨A2, hs2, hr2⟩ := slice_head (P := Try.prog) (t := 22) (sz := 1) Try.underlying22 Try.sizeOf4 r3 (wd : Int) wd c' rfl hge hkc'
      rw [Nat.mul_one, ← List.map_take] at hr2
      obtain ⟨A3, hs3, hr3⟩ := slice_tail (P := Try.prog) (t := 22) (sz := 1) Try.underlying22 Try.sizeOf4 r3 wd c' hge hkc'
      have e3 : (((bits.drop (q * wd)).map Value.bool).drop (wd * 1)).take ((m - wd) * 1) = (bits.drop ((q + 1) * wd)).map Value.bool := by
        rw [Nat.mul_one, Nat.mul_one, List.take_of_length_le (by rw [List.length_drop, hlen]; exact Nat.le_refl _), ← List.map_drop, List.drop_drop, Nat.add_mul, Nat.one_mul]
      rw [e3] at hr3
      obtain ⟨x, hx⟩ : ∃ x, x = wordV ((bits.drop (q * wd)).take wd) := ⟨_, rfl⟩
      obtain ⟨fn, tmps, assign, body, hy, hR⟩ := hY (1 :: chunkL wd bits q) x wr (by rw [hx]; exact words_pre wd bits (by rw [HLK.out]; exact hlt)) j3
      have hnum := number_any A2 wd c' ((bits.drop (q * wd)).take wd) wr B (by omega) hr2
      rw [← hx] at hnum
      have HX := Lib.hid hx; have HR2 := Lib.hid hr2; have HR3 := Lib.hid hr3; have HM := Lib.hid hm; have HN := Lib.hid hnum
      have hmd : m - wd ≤ c' - wd := by omega
      clear hx hr2 hr3 e3 hm hnum hlen
      gi_wp2_with fail
      refine ⟨trivial, fun h => (by cases h), (callsIn_wide.2 HN.out).mono ?_⟩
      rintro e w' ⟨rfl, rfl⟩
      gi_wp2_with fail
      refine ⟨fun h => (by cases h), hR.mono ?_⟩
      rintro e W2 ⟨rfl, hJ2, hk2⟩
      have cm4 : W2.cell? ⟨mb, 0, none⟩ = some (.slice A' m c') := (hk2.cell hmn hmh).trans cm3
      have fm4 : W2.frozen? ⟨mb, 0, none⟩ = false := (hk2.frozen hmn hmh).trans fm3
      have cw4 : W2.cell? ⟨wb, 0, none⟩ = some (.int .i64 wd) := (hk2.cell hwn hwh).trans cw3
      have R4 := Lib.hid (HR3.out.kp hk2 (by omega) hBh)
      have J4 := Lib.hid hJ2
      have L4 : Hid (lenAt wr mb = m) := Lib.hid (by unfold lenAt; rw [cm3])
      clear hy hR hJ2 hk2 cm3 fm3 cw3 r3 j3
      gi_wp2_with fail
      go_roundw
      case rel =>
        have e1 : k - (q + 1) * wd = m - wd := by rw [HM.out, Nat.add_mul, Nat.one_mul]; omega
        refine ⟨q + 1, A3, c' - wd, by omega, ?_, ?_, ?_, ?_, ?_, ?_⟩
        · rw [e1]; exact cell_set cm4
        · rw [e1]; exact hmd
        · exact (World.frozen?_setCell _ _ _ _).trans fm4
        · exact (World.cell?_setCell_other _ _ _ _ (by intro e; injection e; omega)).trans cw4
        · rw [e1]; exact R4.out.setCell (by simp only; omega) _
        · rw [chunkL_snoc, ← HX.out]; exact hJs _ _ _ J4.out
      case measure =>
        rw [L4.out]
        unfold lenAt
        rw [cell_set cm4]
        simp only; omega
    · obtain rfl : q = k / wd := by omega
      have hlw : m < wd := by
        have h2 := Nat.div_add_mod k wd
        have h3 := Nat.mod_lt k (show 0 < wd by omega)
        rw [Nat.mul_comm] at h2; omega
      have hgi : ¬ ((wd : Int) ≤ (m : Int)) := by omega
      have hmk : m ≤ 31 := by omega
      obtain ⟨t, ht⟩ : ∃ t, t = bits.drop (k / wd * wd) := ⟨_, rfl⟩
      rw [← ht] at r3 hlen
      have htl : t.length = m := by simpa using hlen
      obtain ⟨x, hx⟩ : ∃ x, x = wordV t := ⟨_, rfl⟩
      have hxl : x < 2 ^ m := by rw [hx, ← htl]; exact wordV_lt t
      obtain ⟨y, hy0⟩ : ∃ y, y = tailW wd t := ⟨_, rfl⟩
      have j3' : J (1 :: chunkL wd bits (k / wd)) wr.drew := hJ _ wr wr.drew none j3 ⟨rfl, rfl, rfl, Nat.le_refl _, fun _ _ _ => rfl⟩ (fun r h => by cases h)
      obtain ⟨fn, tmps, assign, body, hy, hR⟩ := hY (1 :: chunkL wd bits (k / wd)) y wr.drew ⟨[], by rw [List.append_nil, hy0, ht]; unfold wordsL; rw [HLK.out]; rfl⟩ j3'
      have hnum := fun (w' : World) (h : Rd w' B 1 A' m (t.map Value.bool)) => number_any A' m c' t w' B (by omega) h
      rw [← hx] at hnum
      have HR3 := Lib.hid r3; have HN := Lib.hid hnum; have HYY := Lib.hid hy; have HRR := Lib.hid hR; have HT := Lib.hid ht; have HTL := Lib.hid htl; have HX := Lib.hid hx; have HY0 := Lib.hid hy0; have HM := Lib.hid hm
      clear r3 hnum hy hR ht htl hx hy0 hm hlen
      have hxs : x < 2147483648 := Nat.lt_of_lt_of_le hxl (Nat.le_trans (Nat.pow_le_pow_right (by decide) hmk) (by decide))
      obtain ⟨z, hz⟩ : ∃ z, z = 2 * x + 1 := ⟨_, rfl⟩
      obtain ⟨s, hs⟩ : ∃ s, s = wd - 1 - m := ⟨_, rfl⟩
      have a1 : IntKind.u64.wrap ((x : Int) * 2) = (x : Int) * 2 := by rw [IntKind.wrap_u64]; omega
      have a2 : Go.bits .or .u64 ((x : Int) * 2) 1 = (z : Int) := by rw [hz]; exact or_one (by omega)
      have a3 : IntKind.i64.wrap ((wd : Int) - 1) = (wd : Int) - 1 := IntWalk.i64_in _ ⟨by omega, by omega⟩
      have a4 : IntKind.i64.wrap ((wd : Int) - 1 - (m : Int)) = (s : Int) := by rw [IntWalk.i64_in _ ⟨by omega, by omega⟩]; omega
      have hyv : y = z * 2 ^ s := by rw [HY0.out, tailW, HTL.out, hz, hs, ← HX.out]
      have hyl : y < 4294967296 := by rw [HY0.out]; exact Nat.lt_of_lt_of_le (tailW_lt (by rw [HTL.out]; exact hlw)) hw.pow
      have a5 : IntKind.u64.wrap ((z : Int) * 2 ^ min s 64) = (y : Int) := by
        rw [show min s 64 = s by omega, show ((z : Int) * 2 ^ s) = ((z * 2 ^ s : Nat) : Int) by simp, ← hyv, IntKind.wrap_u64]; omega
      have a6 : (0 : Int) ≤ (s : Int) := by omega
      have hy := HYY.out
      have END : Hid ((1 :: chunkL wd bits (k / wd)) ++ [y] = wordsL wd bits) := Lib.hid (by unfold wordsL; rw [HLK.out, HY0.out, HT.out]; rfl)
      have HYV := Lib.hid hyv; have HSS := Lib.hid hs; have HZZ := Lib.hid hz
      clear hyv hs hz hxl
      gi_wp2_with fail
      gi_region_with (first | (refine ⟨trivial, fun h => (by cases h), (callsIn_wide.2 (HN.out _ HR3.out.drew)).mono ?_⟩; rintro e w' ⟨rfl, rfl⟩) | (refine ⟨trivial, ?_⟩; gi_at_call 57; refine (callsIn_wide.2 (HN.out _ HR3.out.drew)).mono ?_; rintro e w' ⟨rfl, rfl⟩) | (refine ⟨fun h => (by cases h), HRR.out.mono ?_⟩; rintro e W2 ⟨rfl, hJ2, hk2⟩))
      all_goals gi_wp2_with fail
      all_goals go_end0
      all_goals exact ⟨⟨_, rfl⟩, by rw [← END.out]; exact hJ2⟩
end Go.Proofs.Ythmooplhhkafcaa
