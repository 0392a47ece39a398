/- Contracts of kept, zip and Xor. Conditions: as each statement says. -/
import Derived.Test.YthmooplhhkafcaaBits3
import Derived.Test.YthmooplhhkafcaaApp
namespace Go.Proofs.Ythmooplhhkafcaa
open Go.RowKit
set_option maxHeartbeats 400000 in
theorem zip_differ (A A' : Option Addr) (n c c' : Nat) (xs ys : List Bool) (w : World) (hn : n ≤ 1073741824) (h : Rd w w.heap.size 1 A n (xs.map Value.bool)) (h' : Rd w w.heap.size 1 A' n (ys.map Value.bool)) :
    Calls Try.prog 82 #[.slice A n c, .slice A' n c', .func (.func 83) #[] #[]] w (RetOwn w 4 1 n ((xorL xs ys).map Value.bool) id) := by
  have hl : xs.length = n := by have := h.1; simpa using this
  have hl' : ys.length = n := by have := h'.1; simpa using this
  have H := Lib.hid h; clear h
  have H' := Lib.hid h'; clear h'
  have HL := Lib.hid hl; clear hl
  have HL' := Lib.hid hl'; clear hl'
  have hmk := fun w => make_bool w n (by omega)
  go_enter Try.func82, Try.ntmps82
  go_wp2
  clear hmk
  go_loopw [15] (fun i wr => ∃ k : Nat, k ≤ n ∧ i = .int .i64 k ∧ wr.heap[w.heap.size]? = some (.cells (((xorL xs ys).take k).map Value.bool ++ List.replicate (n - k) (Value.bool false)).toArray 4 (0, 0)) ∧ Below w.heap.size w wr) (fun i _ => n - (intOf i).toNat)
  case atStart => exact ⟨0, Nat.zero_le _, rfl, by simpa using heap_alloc_new w _, (Below.refl _ _).alloc (Nat.le_refl _) _⟩
  case round =>
    obtain ⟨k, hk, rfl, hB, hbw⟩ := hrel
    have HB := Lib.hid hB; clear hB
    by_cases hlt : k < n
    · obtain ⟨b, off, rfl, hb, hc⟩ := H.out.2 (by omega)
      obtain ⟨b', off', rfl, hb', hc'⟩ := H'.out.2 (by omega)
      have hka : k < xs.length := by rw [HL.out]; exact hlt
      have hkb : k < ys.length := by rw [HL'.out]; exact hlt
      have h1 : wr.cell? ⟨b, off + k, none⟩ = some (.bool xs[k]) := (hbw.cell (p := ⟨b, off + k, none⟩) hb).trans (hc k _ (by simp [hka]))
      have h2 : wr.cell? ⟨b', off' + k, none⟩ = some (.bool ys[k]) := (hbw.cell (p := ⟨b', off' + k, none⟩) hb').trans (hc' k _ (by simp [hkb]))
      have hx : (((xorL xs ys).take k).map Value.bool).length = k := by simp [xorL]; omega
      have h3 : ∃ u, wr.cell? ⟨w.heap.size, k, none⟩ = some u := ⟨_, (cell_of_row _ _ _ _ _ _ HB.out).trans (Array.getElem?_eq_getElem (by simp [xorL]; omega))⟩
      obtain ⟨u, h3⟩ := h3
      have h4 : wr.frozen? ⟨w.heap.size, k, none⟩ = false := by simp [World.frozen?, HB.out]
      have HS := Lib.hid (xorL_snoc k hka hkb)
      have HX := Lib.hid hx
      clear hc hc' hx
      generalize xs[k] = x at h1 HS
      generalize ys[k] = y at h2 HS
      clear hka hkb
      go_wp2
      refine ⟨⟨k + 1, by omega, by go_num, ?_, hbw.setCell (p := ⟨w.heap.size, k, none⟩) (Nat.le_refl _) _⟩, by simp [intOf]; omega⟩
      obtain ⟨d, hd⟩ : ∃ d, n - k = d + 1 := ⟨n - k - 1, by omega⟩
      have h5 := HB.out
      rw [hd] at h5
      rw [HS.out, show n - (k + 1) = d by omega, row_fill (j := k) h5 HX.out]
      simp [bne]
    · go_wp2
      go_ret
      obtain rfl : k = n := by omega
      have h5 := HB.out
      rw [Nat.sub_self, List.replicate_zero, List.append_nil, List.take_of_length_le (by rw [xorL_len (by rw [HL.out, HL'.out]), HL.out]; exact Nat.le_refl _)] at h5
      exact RetOwn.of (mk := id) (own_of_row h5 (by simp [xorL, HL.out, HL'.out]) (Nat.le_refl _) (by simp [maxLen]; omega)) hbw
/-- Xor of the program. -/
theorem Xor_any (A A' : Option Addr) (n c c' : Nat) (xs ys : List Bool) (w : World) (hn : n ≤ 1073741824) (h : Rd w w.heap.size 1 A n (xs.map Value.bool)) (h' : Rd w w.heap.size 1 A' n (ys.map Value.bool)) :
    Calls Try.prog 76 #[.slice A n c, .slice A' n c'] w (RetOwn w 4 1 n ((xorL xs ys).map Value.bool) (fun v => .tuple #[v, .int .i64 0])) := by
  have H := Lib.hid h; clear h
  have H' := Lib.hid h'; clear h'
  go_enter Try.func76, Try.ntmps76
  go_wp2_with fail
  refine (zip_differ _ _ _ _ _ xs ys _ hn H.out H'.out).mono ?_
  rintro e w1 ⟨A2, c2, rfl, hc2, hown, hb⟩
  dsimp only [id]
  go_wp2_with fail
  go_ret2
  exact ⟨A2, c2, rfl, hc2, hown, hb⟩
theorem Xor_bad (A A' : Option Addr) (n m c c' : Nat) (hne : n ≠ m) (w : World) :
    Calls Try.prog 76 #[.slice A n c, .slice A' m c'] w fun e w' => e = .returned (.tuple #[.slice none 0 0, .int .i64 22]) ∧ w = w' := by
  have h : ((n : Int) != (m : Int)) = true := by rw [bne_iff_ne]; omega
  clear hne
  go_enter Try.func76, Try.ntmps76
  go_wp2
  go_ret2
  exact ⟨rfl, rfl⟩
end Go.Proofs.Ythmooplhhkafcaa
