/- Contracts of the functions that combine bit strings (program and reference). Conditions: xs each statement says. -/
import Derived.Test.YthmooplhhkafcaaProg
import Derived.Test.YthmooplhhkafcaaTypes
import Derived.Test.YthmooplhhkafcaaBits
import Derived.Deep.RegionHeld3
import Derived.Deep.AppendLies
namespace Go.Proofs.Ythmooplhhkafcaa
open Go.RowKit
def xorL (a b : List Bool) : List Bool := List.zipWith (fun x y => x != y) a b
theorem xorL_snoc {a b : List Bool} (k : Nat) (ha : k < a.length) (hb : k < b.length) : (xorL a b).take (k + 1) = (xorL a b).take k ++ [a[k] != b[k]] := by
  have : k < (xorL a b).length := by simp [xorL]; omega
  rw [take_snoc _ _ this]
  simp [xorL]
theorem xorL_len {a b : List Bool} (h : a.length = b.length) : (xorL a b).length = a.length := by simp [xorL, h]

set_option maxRecDepth 100000 in
set_option maxHeartbeats 1000000 in
theorem refXor_any (A A' : Option Addr) (n c c' : Nat) (xs ys : List Bool) (w : World) (hn : n ≤ 1073741824) (h : Rd w w.heap.size 1 A n (xs.map Value.bool)) (h' : Rd w w.heap.size 1 A' n (ys.map Value.bool)) :
    Calls Try.prog 56 #[.slice A n c, .slice A' n c'] w (RetOwn w 4 1 n ((xorL xs ys).map Value.bool) id) := by
  have hl : xs.length = n := by have := h.1; simpa using this
  have hl' : ys.length = n := by have := h'.1; simpa using this
  have H := Lib.hid h; clear h
  have H' := Lib.hid h'; clear h'
  have HL := Lib.hid hl; clear hl
  have HL' := Lib.hid hl'; clear hl'
  obtain ⟨i0, hi0, hz0, hz1, hz2⟩ := info_parts info_bool
  have HI0 := Lib.hid hi0; have HZ0 := Lib.hid hz0; have HZ1 := Lib.hid hz1; have HZ2 := Lib.hid hz2
  clear hi0 hz0 hz1 hz2
  go_enter Try.func56, Try.ntmps56
  go_wp2
  go_loopw [5, 6] (fun v i wr => ∃ k : Nat, k ≤ n ∧ i = .int .i64 k ∧ wr.ownsRow w.heap.size 4 1 v k (((xorL xs ys).take k).map Value.bool) ∧ Below w.heap.size w wr) (fun _ i _ => n - (intOf i).toNat)
  case atStart => exact ⟨0, Nat.zero_le _, rfl, World.ownsRow_nil _ _ _ _, Below.refl _ _⟩
  case round =>
    obtain ⟨k, hk, rfl, hown, hbw⟩ := hrel
    have hsz := hbw.size
    by_cases hlt : k < n
    · obtain ⟨b, off, rfl, hb, hc⟩ := H.out.2 (by omega)
      obtain ⟨b', off', rfl, hb', hc'⟩ := H'.out.2 (by omega)
      have hka : k < xs.length := by rw [HL.out]; exact hlt
      have hkb : k < ys.length := by rw [HL'.out]; exact hlt
      have h1 : wr.cell? ⟨b, off + k, none⟩ = some (.bool xs[k]) := (hbw.cell (p := ⟨b, off + k, none⟩) hb).trans (hc k _ (by simp [hka]))
      have h2 : wr.cell? ⟨b', off' + k, none⟩ = some (.bool ys[k]) := (hbw.cell (p := ⟨b', off' + k, none⟩) hb').trans (hc' k _ (by simp [hkb]))
      have HS := Lib.hid (xorL_snoc k hka hkb)
      clear hc hc'
      generalize xs[k] = x at h1 HS
      generalize ys[k] = y at h2 HS
      have hki : (k : Int) < (n : Int) := by omega
      clear hka hkb
      go_wp2
      go_region_held3 (fun w' => w'.cell? ⟨b, off + k, none⟩ = some (.bool x) ∧ w'.cell? ⟨b', off' + k, none⟩ = some (.bool y))
        (first
          | go_keep
          | (go_split_ands
             refine ⟨?_, ?_⟩
             · (rw [hgrow.cell_far _ (by simp; omega) (by intro e; exact absurd hb (Nat.not_lt.2 (hown.lt _ e.symm).1))]; assumption)
             · (rw [hgrow.cell_far _ (by simp; omega) (by intro e; exact absurd hb' (Nat.not_lt.2 (hown.lt _ e.symm).1))]; assumption)))
        ((refine step_append_lies _ (by rfl) _ _ _ (by rfl) w.heap.size 4 i0 _ 1 1 Try.underlying22 HI0.out HZ0.out HZ1.out HZ2.out rfl (by omega) _ k _ (by rfl) ((hown.alloc _).drew)
            ⟨wr.heap.size, 0, none⟩ 1 1 [.bool (x != y)] (by rfl) (by rfl) (World.news_of_block (cs := #[.bool (x != y)]) (t := 4) (fr := (0, 0)) (heap_alloc_new wr _)) (by simp [Value.oneCell'])
            (by omega) (by unfold maxLen; omega) (by omega) (by simp; omega) (wr.heap.size + 1) (by simp) ?_; intro gg cap w1 hown1 hgrow hat hlt1))
      go_wp2
      go_roundw
      case rel => exact ⟨k + 1, by omega, by go_num, by rw [HS.out]; simpa using hown1, ((hbw.alloc hsz _).drew).grown hgrow (by simp; omega) (fun g hg => (hown.lt g hg).1)⟩
      case measure => simp [intOf]; omega
    · go_wp2
      go_ret
      obtain rfl : k = n := by omega
      rw [List.take_of_length_le (by rw [xorL_len (by rw [HL.out, HL'.out]), HL.out]; exact Nat.le_refl _)] at hown
      exact RetOwn.of (mk := id) hown hbw
end Go.Proofs.Ythmooplhhkafcaa
