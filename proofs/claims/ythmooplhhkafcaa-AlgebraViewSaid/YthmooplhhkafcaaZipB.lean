/- zip of bytes: the sum of two polynomials, a multiple. Conditions: as each statement says. -/
import Derived.Test.YthmooplhhkafcaaShareV
import Derived.Test.YthmooplhhkafcaaInterp
namespace Go.Proofs.Ythmooplhhkafcaa
open Go.RowKit
set_option linter.unusedVariables false
set_option maxHeartbeats 400000 in
theorem zip_sum (A A' : Option Addr) (n c c' : Nat) (xs ys : List Nat)  (w : World) (hn : n ≤ 1073741824) (hbx : Bytes xs) (hby : Bytes ys)  (h : Rd w w.heap.size 1 A n (u8s xs)) (h' : Rd w w.heap.size 1 A' n (u8s ys)) :
    Calls Try.prog 85 #[.slice A n c, .slice A' n c', .func (.func 87) #[] #[]] w (RetOwn w 5 1 n (u8s (addP xs ys)) id) := by
  have hl : xs.length = n := by have := h.1; simpa [u8s] using this
  have hl' : ys.length = n := by have := h'.1; simpa [u8s] using this
  have hrl : (addP xs ys).length = n := by rw [addP_len _ _ (by rw [hl, hl'])]; exact hl
  have H := Lib.hid h; clear h
  have H' := Lib.hid h'; clear h'
  have HL := Lib.hid hl; clear hl
  have HL' := Lib.hid hl'; clear hl'
  have HRL := Lib.hid hrl; clear hrl
  have HBX := Lib.hid hbx; have HBY := Lib.hid hby
  clear hbx hby
  have hmk := fun w => make_u8 w n (by omega)
  go_enter Try.func85, Try.ntmps85
  go_wp2
  clear hmk
  go_loopw [15] (fun i wr => ∃ k : Nat, k ≤ n ∧ i = .int .i64 k ∧ wr.heap[w.heap.size]? = some (.cells (u8s ((addP xs ys).take k) ++ List.replicate (n - k) (Value.int .u8 0)).toArray 5 (0, 0)) ∧ Below w.heap.size w wr) (fun i _ => n - (intOf i).toNat)
  case atStart => exact ⟨0, Nat.zero_le _, rfl, by simpa [u8s] using heap_alloc_new w _, (Below.refl _ _).alloc (Nat.le_refl _) _⟩
  case round =>
    obtain ⟨k, hk, rfl, hB, hbw⟩ := hrel
    have HB := Lib.hid hB; clear hB
    by_cases hlt : k < n
    · obtain ⟨b, off, rfl, hb, hc⟩ := H.out.2 (by omega)
      obtain ⟨b', off', rfl, hb', hc'⟩ := H'.out.2 (by omega)
      have hka : k < xs.length := by rw [HL.out]; exact hlt
      have hkb : k < ys.length := by rw [HL'.out]; exact hlt
      have hkr : k < (addP xs ys).length := by rw [HRL.out]; exact hlt
      have h1 : wr.cell? ⟨b, off + k, none⟩ = some (.int .u8 (xs[k] : Nat)) := (hbw.cell (p := ⟨b, off + k, none⟩) hb).trans (hc k _ (by simp [u8s, hka]))
      have h2 : wr.cell? ⟨b', off' + k, none⟩ = some (.int .u8 (ys[k] : Nat)) := (hbw.cell (p := ⟨b', off' + k, none⟩) hb').trans (hc' k _ (by simp [u8s, hkb]))
      have hx : (u8s ((addP xs ys).take k)).length = k := by simp [u8s]; omega
      have h3 : ∃ u, wr.cell? ⟨w.heap.size, k, none⟩ = some u := ⟨_, (cell_of_row _ _ _ _ _ _ HB.out).trans (Array.getElem?_eq_getElem (by simp [u8s]; omega))⟩
      obtain ⟨u, h3⟩ := h3
      have h4 : wr.frozen? ⟨w.heap.size, k, none⟩ = false := by simp [World.frozen?, HB.out]
      have HS : Hid (u8s ((addP xs ys).take (k + 1)) = u8s ((addP xs ys).take k) ++ [.int .u8 ((xs[k] ^^^ ys[k] : Nat) : Int)]) := Lib.hid (by rw [take_snoc _ _ hkr, u8s, List.map_append]; simp [u8s, addP])
      have hxb := HBX.out _ (List.getElem_mem hka)
      have hyb := HBY.out _ (List.getElem_mem hkb)
      have HX := Lib.hid hx
      clear hc hc' hx
      generalize xs[k] = x at h1 HS hxb
      generalize ys[k] = y at h2 HS hyb
      clear hka hkb hkr
      go_wp2
      refine ⟨⟨k + 1, by omega, by go_num, ?_, hbw.setCell (p := ⟨w.heap.size, k, none⟩) (Nat.le_refl _) _⟩, by simp [intOf]; omega⟩
      obtain ⟨d, hd⟩ : ∃ d, n - k = d + 1 := ⟨n - k - 1, by omega⟩
      have h5 := HB.out
      rw [hd] at h5
      rw [HS.out, show n - (k + 1) = d by omega]
      rw [u8_xor_nat _ _ (by omega) (by omega)]
      exact row_fill (j := k) h5 HX.out
    · go_wp2
      go_ret
      obtain rfl : k = n := by omega
      have h5 := HB.out
      rw [Nat.sub_self, List.replicate_zero, List.append_nil, List.take_of_length_le (by rw [HRL.out]; exact Nat.le_refl _)] at h5
      exact RetOwn.of (mk := id) (own_of_row h5 (by simp [u8s, HRL.out]) (Nat.le_refl _) (by simp [maxLen]; omega)) hbw
set_option maxHeartbeats 400000 in
theorem zip_scaled (A A' : Option Addr) (n c c' : Nat) (xs ys : List Nat) (by' bx : Nat) (w : World) (hn : n ≤ 1073741824) (hbx : Bytes xs) (hby : Bytes ys) (hby2 : by' < 256) (hxb : bx < w.heap.size) (hcb : w.cell? ⟨bx, 0, none⟩ = some (.int .u8 by')) (h : Rd w w.heap.size 1 A n (u8s xs)) (h' : Rd w w.heap.size 1 A' n (u8s ys)) :
    Calls Try.prog 85 #[.slice A n c, .slice A' n c', .func (.func 99) #[] #[.pointer (some ⟨bx, 0, none⟩)]] w (RetOwn w 5 1 n (u8s (mulP xs by')) id) := by
  have hl : xs.length = n := by have := h.1; simpa [u8s] using this
  have hl' : ys.length = n := by have := h'.1; simpa [u8s] using this
  have hrl : (mulP xs by').length = n := by rw [mulP_len]; exact hl
  have H := Lib.hid h; clear h
  have H' := Lib.hid h'; clear h'
  have HL := Lib.hid hl; clear hl
  have HL' := Lib.hid hl'; clear hl'
  have HRL := Lib.hid hrl; clear hrl
  have HBX := Lib.hid hbx; have HBY := Lib.hid hby
  clear hbx hby
  have HCB := Lib.hid hcb; clear hcb
  have hmk := fun w => make_u8 w n (by omega)
  go_enter Try.func85, Try.ntmps85
  go_wp2
  clear hmk
  go_loopw [15] (fun i wr => ∃ k : Nat, k ≤ n ∧ i = .int .i64 k ∧ wr.heap[w.heap.size]? = some (.cells (u8s ((mulP xs by').take k) ++ List.replicate (n - k) (Value.int .u8 0)).toArray 5 (0, 0)) ∧ Below w.heap.size w wr) (fun i _ => n - (intOf i).toNat)
  case atStart => exact ⟨0, Nat.zero_le _, rfl, by simpa [u8s] using heap_alloc_new w _, (Below.refl _ _).alloc (Nat.le_refl _) _⟩
  case round =>
    obtain ⟨k, hk, rfl, hB, hbw⟩ := hrel
    have HB := Lib.hid hB; clear hB
    by_cases hlt : k < n
    · obtain ⟨b, off, rfl, hb, hc⟩ := H.out.2 (by omega)
      obtain ⟨b', off', rfl, hb', hc'⟩ := H'.out.2 (by omega)
      have hka : k < xs.length := by rw [HL.out]; exact hlt
      have hkb : k < ys.length := by rw [HL'.out]; exact hlt
      have hkr : k < (mulP xs by').length := by rw [HRL.out]; exact hlt
      have h1 : wr.cell? ⟨b, off + k, none⟩ = some (.int .u8 (xs[k] : Nat)) := (hbw.cell (p := ⟨b, off + k, none⟩) hb).trans (hc k _ (by simp [u8s, hka]))
      have h2 : wr.cell? ⟨b', off' + k, none⟩ = some (.int .u8 (ys[k] : Nat)) := (hbw.cell (p := ⟨b', off' + k, none⟩) hb').trans (hc' k _ (by simp [u8s, hkb]))
      have hx : (u8s ((mulP xs by').take k)).length = k := by simp [u8s]; omega
      have h3 : ∃ u, wr.cell? ⟨w.heap.size, k, none⟩ = some u := ⟨_, (cell_of_row _ _ _ _ _ _ HB.out).trans (Array.getElem?_eq_getElem (by simp [u8s]; omega))⟩
      obtain ⟨u, h3⟩ := h3
      have h4 : wr.frozen? ⟨w.heap.size, k, none⟩ = false := by simp [World.frozen?, HB.out]
      have HS : Hid (u8s ((mulP xs by').take (k + 1)) = u8s ((mulP xs by').take k) ++ [.int .u8 ((gm 8 xs[k] by' : Nat) : Int)]) := Lib.hid (by rw [take_snoc _ _ hkr, u8s, List.map_append]; simp [u8s, mulP])
      have hxb1 := HBX.out _ (List.getElem_mem hka)
      have hyb := HBY.out _ (List.getElem_mem hkb)
      have hcb2 : wr.cell? ⟨bx, 0, none⟩ = some (.int .u8 by') := (hbw.cell (p := ⟨bx, 0, none⟩) hxb).trans HCB.out
      have hgx : gm 8 xs[k] by' < 256 := gm8_lt (HBX.out _ (List.getElem_mem hka))
      have HX := Lib.hid hx
      clear hc hc' hx
      generalize xs[k] = x at h1 HS hxb1 hgx
      generalize ys[k] = y at h2 HS hyb
      clear hka hkb hkr
      go_wp2_with (first | (go_at_call 64; refine (product_any _ _ (by omega) (by omega) (by omega) (by omega) _).mono ?_; rintro e w' ⟨rfl, rfl⟩) | go_in)
      refine ⟨⟨k + 1, by omega, by go_num, ?_, hbw.setCell (p := ⟨w.heap.size, k, none⟩) (Nat.le_refl _) _⟩, by simp [intOf]; omega⟩
      obtain ⟨d, hd⟩ : ∃ d, n - k = d + 1 := ⟨n - k - 1, by omega⟩
      have h5 := HB.out
      rw [hd] at h5
      rw [HS.out, show n - (k + 1) = d by omega]
      exact row_fill (j := k) h5 HX.out
    · go_wp2
      go_ret
      obtain rfl : k = n := by omega
      have h5 := HB.out
      rw [Nat.sub_self, List.replicate_zero, List.append_nil, List.take_of_length_le (by rw [HRL.out]; exact Nat.le_refl _)] at h5
      exact RetOwn.of (mk := id) (own_of_row h5 (by simp [u8s, HRL.out]) (Nat.le_refl _) (by simp [maxLen]; omega)) hbw
theorem scaled_any (A : Option Addr) (n c : Nat) (xs : List Nat) (by' : Nat) (w : World) (hn : n ≤ 1073741824) (hbx : Bytes xs) (hb : by' < 256) (h : Rd w w.heap.size 1 A n (u8s xs)) :
    Calls Try.prog 86 #[.slice A n c, .int .u8 by'] w (RetOwn w 5 1 n (u8s (mulP xs by')) id) := by
  have H := Lib.hid h; have HB := Lib.hid hbx
  clear h hbx
  obtain ⟨wa, hwa⟩ : ∃ wa, wa = w.alloc (.cells #[.int .u8 by'] 5) := ⟨_, rfl⟩
  have Ba : Below w.heap.size w wa := by rw [hwa]; exact (Below.refl _ _).alloc (Nat.le_refl _) _
  have sa : wa.heap.size = w.heap.size + 1 := by rw [hwa]; simp
  have hcb : wa.cell? ⟨w.heap.size, 0, none⟩ = some (.int .u8 by') := by rw [hwa]; exact cell_of_one (heap_alloc_new w _)
  have Z := Lib.hid (zip_scaled A A n c c xs xs by' w.heap.size wa hn HB.out HB.out hb (by omega) hcb ((H.out.below Ba).mono (by omega)) ((H.out.below Ba).mono (by omega)))
  rw [hwa] at Z
  clear hcb
  go_enter Try.func86, Try.ntmps86
  go_wp2_with fail
  refine Z.out.mono ?_
  rintro e w1 ⟨A1, c1, rfl, hc1, hown1, hb1⟩
  rw [← hwa] at hown1 hb1
  try dsimp only [id]
  have ho := Lib.hid (ownsRow_mono hown1 (show w.heap.size ≤ wa.heap.size by omega))
  have hB := Ba.trans (hb1.mono (by omega))
  clear Z hwa hown1 hb1
  go_wp2_with fail
  go_ret
  exact ⟨A1, c1, rfl, hc1, ho.out, hB⟩
end Go.Proofs.Ythmooplhhkafcaa
