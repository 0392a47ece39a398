/- Contracts of Perm: the program's and the reference's. Conditions: as each statement says. -/
import Derived.Test.YthmooplhhkafcaaPerm2
namespace Go.Proofs.Ythmooplhhkafcaa
open Go.RowKit
set_option linter.unusedVariables false
theorem own_head {w : World} {base : Nat} {t : TypeId} {sz n : Nat} {v : Value} {xs : List Value} (h : w.ownsRow base t sz v n xs) (hn : 0 < n) : ∃ g cap, v = .slice (some ⟨g, 0, none⟩) n cap := by
  rcases h.2 with ⟨_, h0⟩ | ⟨g, cap, cur, hv, _⟩
  · omega
  · exact ⟨g, cap, hv⟩
theorem idL_fill (k n : Nat) (hk : k < n) : ((idL k).map (Value.int .i64) ++ List.replicate (n - k) (Value.int .i64 0)).set k (.int .i64 (k : Int)) = (idL (k + 1)).map (Value.int .i64) ++ List.replicate (n - (k + 1)) (Value.int .i64 0) := by
  rw [fill_set _ _ _ _ _ (by simp [idL]) hk, idL_snoc]; simp
set_option maxHeartbeats 1000000 in
theorem Perm_any (b s n : Nat) (w : World) (hd : DrawAt w b s) (hn : n ≤ 65536) :
    Calls Try.prog 33 #[.pointer (some ⟨b, 0, none⟩), .int .i64 n] w fun e w' => e = .returned (.tuple #[.slice (some ⟨w.heap.size, 0, none⟩) n n, .int .i64 0]) ∧ w'.ownsRow w.heap.size 3 1 (.slice (some ⟨w.heap.size, 0, none⟩) n n) n ((permL s n).map (Value.int .i64)) ∧ Upd w.heap.size b (permS s n) w w' := by
  have hmk := fun w => make_int w n (by omega)
  have hlt := hd.lt
  have HD := Lib.hid hd; clear hd
  go_enter Try.func33, Try.ntmps33
  go_wp2_with fail
  refine (size_in b s n _ HD.out (by omega) (by omega)).mono ?_
  rintro e w' ⟨rfl, rfl⟩
  go_wp2_with fail
  go_loopw [19] (fun i wr => ∃ k : Nat, k ≤ n ∧ i = .int .i64 k ∧ Below w.heap.size w wr ∧ wr.ownsRow w.heap.size 3 1 (.slice (some ⟨w.heap.size, 0, none⟩) n n) n ((idL k).map (Value.int .i64) ++ List.replicate (n - k) (Value.int .i64 0))) (fun i _ => n - (intOf i).toNat)
  case atStart =>
    refine ⟨0, Nat.zero_le _, rfl, (Below.refl _ _).alloc (Nat.le_refl _) _, ?_⟩
    refine own_of_row (g := w.heap.size) ?_ (by simp [idL]) (Nat.le_refl _) (by unfold maxLen; omega)
    rw [heap_alloc_new]
    simp [idL]
  case round =>
    obtain ⟨k, hk, rfl, hbw, hown⟩ := hrel
    by_cases hlt2 : k < n
    · have hki : (k : Int) < (n : Int) := by omega
      have hcl : wr.cell? ⟨w.heap.size, k, none⟩ = some (.int .i64 0) := by
        rw [hown.cellAt k (by omega), fill_get _ _ _ _ (by simp [idL]) hlt2]
      have hfr := hown.frozenAt k
      have HW := Lib.hid hown; clear hown
      go_wp2
      have h3 := (HW.out.stored k (.int .i64 (k : Int))).1
      rw [idL_fill k n hlt2] at h3
      go_roundw
      case rel => exact ⟨k + 1, by omega, by go_num, hbw.setCell (p := ⟨w.heap.size, k, none⟩) (Nat.le_refl _) _, h3⟩
      case measure => simp [intOf]; omega
    · obtain rfl : k = n := by omega
      have hs := hbw.size
      have hlt3 : w.heap.size < wr.heap.size := (hown.lt w.heap.size rfl).2
      have HB := Lib.hid hbw; have HW := Lib.hid hown; clear hbw hown
      go_wp2_with fail
      refine (shuffle_any b w.heap.size k k w.heap.size s (idL k) _ (idL_len k) hn hlt (by omega) (by have := HW.out; simpa using this) (HD.out.below HB.out hlt)).mono ?_
      intro e w2 hp
      obtain ⟨⟨u, rfl⟩, hu, hown2⟩ := hp
      have HU := Lib.hid (Upd.bel0 HB.out hu); have HW2 := Lib.hid hown2; clear hu hown2
      go_wp2
      go_ret2
      exact ⟨rfl, HW2.out, HU.out⟩
end Go.Proofs.Ythmooplhhkafcaa
