/- Facts on this program's types: what a new slice holds. Conditions: the sizes that each statement names. -/
import Derived.Test.YtdgmjedkhjeadaaGreatProg
import Derived.Test.YtdgmjedkhjeadaaGreatBase
namespace Go.Proofs.YtdgmjedkhjeadaaGreat
open Go.RowKit
theorem info_bool : (Tryz.prog.info? 4).map (fun i => (i.zero, i.size, i.bytes)) = some (some (.bool false), 1, 1) := by kernel_rfl
theorem info_u8 : (Tryz.prog.info? 5).map (fun i => (i.zero, i.size, i.bytes)) = some (some (.int .u8 0), 1, 1) := by kernel_rfl
theorem make_bool (w : World) (c : Nat) (hc : c ≤ 281474976710656) : (Instr.makeSlice 48 (.int .i64 c) (.int .i64 c)).run Tryz.prog w = .ok (.slice (some ⟨w.heap.size, 0, none⟩) c c) (w.alloc (.cells (Array.replicate c (.bool false)) 4)) := by
  obtain ⟨i, hi, hz, hs, hb⟩ := info_parts info_bool
  have h := run_make (P := Tryz.prog) w _ _ i _ Tryz.underlying48 hi hz .i64 .i64 c c (by omega) (by omega) (by rw [hb]; omega) (by omega)
  rw [hs] at h
  simpa [madeCells_one, Value.cells] using h
theorem make_bool0 (w : World) (c : Nat) (hc : c ≤ 281474976710656) : (Instr.makeSlice 48 (.int .i64 0) (.int .i64 c)).run Tryz.prog w = .ok (.slice (some ⟨w.heap.size, 0, none⟩) 0 c) (w.alloc (.cells (Array.replicate c (.bool false)) 4)) := by
  obtain ⟨i, hi, hz, hs, hb⟩ := info_parts info_bool
  have h := run_make (P := Tryz.prog) w _ _ i _ Tryz.underlying48 hi hz .i64 .i64 0 c (by omega) (by omega) (by rw [hb]; omega) (by omega)
  rw [hs] at h
  simpa [madeCells_one, Value.cells] using h
theorem make_u8 (w : World) (c : Nat) (hc : c ≤ 281474976710656) : (Instr.makeSlice 31 (.int .i64 c) (.int .i64 c)).run Tryz.prog w = .ok (.slice (some ⟨w.heap.size, 0, none⟩) c c) (w.alloc (.cells (Array.replicate c (.int .u8 0)) 5)) := by
  obtain ⟨i, hi, hz, hs, hb⟩ := info_parts info_u8
  have h := run_make (P := Tryz.prog) w _ _ i _ Tryz.underlying31 hi hz .i64 .i64 c c (by omega) (by omega) (by rw [hb]; omega) (by omega)
  rw [hs] at h
  simpa [madeCells_one, Value.cells] using h

def cnt (l : List Bool) : Nat := (l.filter id).length
theorem cnt_le (l : List Bool) : cnt l ≤ l.length := List.length_filter_le _ _
theorem cnt_snoc (l : List Bool) (b : Bool) : cnt (l ++ [b]) = cnt l + if b then 1 else 0 := by
  unfold cnt; cases b <;> simp [List.filter_append]

set_option maxHeartbeats 400000 in
theorem Count_any (A : Option Addr) (n c : Nat) (bs : List Bool) (w : World) (B : Nat) (hn : n ≤ 9223372036854775807) (h : Rd w B 1 A n (bs.map Value.bool)) :
    Calls Tryz.prog 138 #[.slice A n c] w fun e w' => e = .returned (.int .i64 (cnt bs)) ∧ w = w' := by
  have hl : bs.length = n := by have := h.1; simpa using this
  have H := Lib.hid h; clear h
  have HL := Lib.hid hl; clear hl
  go_enter Tryz.func138, Tryz.ntmps138
  go_wp2
  go_loop [2, 7] (fun t i => ∃ k : Nat, k ≤ n ∧ i = .int .i64 k ∧ t = .int .i64 (cnt (bs.take k))) (fun _ i => n - (intOf i).toNat)
  case atStart => exact ⟨0, Nat.zero_le _, rfl, rfl⟩
  case round =>
    obtain ⟨k, hk, rfl, rfl⟩ := hrel
    have hle := cnt_le (bs.take k)
    have hl : (bs.take k).length ≤ k := List.length_take_le _ _
    by_cases hlt : k < n
    · obtain ⟨b, off, rfl, hb, hc⟩ := H.out.2 (by omega)
      have hcell := hc k (.bool (bs[k]'(by rw [HL.out]; exact hlt))) (by simp [HL.out, hlt])
      have HS := Lib.hid (cnt_snoc (bs.take k) (bs[k]'(by rw [HL.out]; exact hlt)))
      rw [← take_snoc] at HS
      clear hc
      generalize bs[k]'(by rw [HL.out]; exact hlt) = x at hcell HS
      cases x
      all_goals
        go_wp2
        go_round
        case rel => exact ⟨k + 1, by omega, by go_num, by rw [HS.out]; simp⟩
        case measure => simp [intOf]; omega
    · go_wp2
      go_ret
      exact ⟨ret_int (by rw [List.take_of_length_le (by rw [HL.out]; omega)]), rfl⟩

end Go.Proofs.YtdgmjedkhjeadaaGreat
