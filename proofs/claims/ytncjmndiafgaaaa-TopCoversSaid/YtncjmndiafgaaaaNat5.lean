/- The contract of minus. Conditions: as each statement says. -/
import Derived.Test.YtncjmndiafgaaaaNat4
namespace Go.Proofs.Ytncjmndiafgaaaa
open Go.RowKit
set_option linter.unusedVariables false
theorem minus_step {o a b : List Nat} {k br nb lo : Nat} (hk : o.length = k) (h : valL (a.take k) + 4294967296 ^ k * br = valL o + valL (b.take k)) (hs : a.getD k 0 + 4294967296 * nb = lo + b.getD k 0 + br) :
    valL (a.take (k + 1)) + 4294967296 ^ (k + 1) * nb = valL (o ++ [lo]) + valL (b.take (k + 1)) := by
  rw [valL_snoc, hk, val_take, val_take, Nat.pow_succ]
  have e : 4294967296 ^ k * (a.getD k 0 + 4294967296 * nb) = 4294967296 ^ k * (lo + b.getD k 0 + br) := by rw [hs]
  rw [Nat.mul_add, Nat.mul_add, Nat.mul_add, ← Nat.mul_assoc] at e
  omega
set_option maxRecDepth 100000 in
set_option maxHeartbeats 8000000 in
theorem minus_any (A A' : Option Addr) (n c n' c' : Nat) (a b : List Nat) (w : World) (hn : n ≤ 90000) (hn' : n' ≤ n) (ha : Limbs a) (hb : Limbs b) (hab : valL b ≤ valL a) (h : Rd w w.heap.size 1 A n (limC a)) (h' : Rd w w.heap.size 1 A' n' (limC b)) :
    Calls Try.prog 63 #[.slice A n c, .slice A' n' c'] w (RetVal w (valL a - valL b)) := by
  have hl : a.length = n := by have := h.1; simpa using this
  have hl' : b.length = n' := by have := h'.1; simpa using this
  have hmk := fun w => make_nat w n (by omega)
  have H := Lib.hid h; have H' := Lib.hid h'; have HL := Lib.hid hl; have HL' := Lib.hid hl'; have HA := Lib.hid ha; have HB := Lib.hid hb; have HAB := Lib.hid hab
  clear h h' hl hl' ha hb hab
  go_enter Try.func63, Try.ntmps63
  go_wp2_with fail
  clear hmk
  have hown := own_new w (Array.replicate n (.int .u32 0)) 47 n (by simp) (by omega)
  have HO0 : Hid ((w.alloc (.cells (Array.replicate n (.int .u32 0)) 47)).ownsRow w.heap.size 47 1 (.slice (some ⟨w.heap.size, 0, none⟩) n n) n (limC (padN [] n))) := Lib.hid (by simpa [padN] using hown)
  have HAL : Hid (Below w.heap.size w (w.alloc (.cells (Array.replicate n (.int .u32 0)) 47))) := Lib.hid ((Below.refl _ _).alloc (Nat.le_refl _) _)
  clear hown
  generalize w.alloc (.cells (Array.replicate n (.int .u32 0)) 47) = w1 at HO0 HAL ⊢
  go_loopw [6, 14] (fun cv i wr => ∃ (k cr : Nat) (o : List Nat) (cI : Int), k ≤ n ∧ i = .int .i64 k ∧ cv = .int .u64 cI ∧ cI = cr ∧ cr ≤ 1 ∧ o.length = k ∧ Limbs o ∧ valL (a.take k) + 4294967296 ^ k * cr = valL o + valL (b.take k) ∧ wr.ownsRow w.heap.size 47 1 (.slice (some ⟨w.heap.size, 0, none⟩) n n) n (limC (padN o n)) ∧ Below w.heap.size w wr) (fun _ i _ => n - (intOf i).toNat)
  case atStart => exact ⟨0, 0, [], 0, Nat.zero_le _, rfl, rfl, rfl, by omega, rfl, fun x hx => by simp at hx, by simp [valL], HO0.out, HAL.out⟩
  case round =>
    obtain ⟨k, cr, o, cI, hk, rfl, rfl, hcI, hcr, hol, hlo, hval, hown, hbw⟩ := hrel
    obtain ⟨wa, rfl⟩ : ∃ z : World, z = wr := ⟨_, rfl⟩
    have HO := Lib.hid hown; have HBW := Lib.hid hbw; have HLO := Lib.hid hlo; have HV := Lib.hid hval; have HOL := Lib.hid hol
    clear hown hbw hlo hval HO0 HAL
    by_cases hlt : k < n
    · have hki : (k : Int) < (n : Int) := by omega
      have la := HA.out.getD k; have lb := HB.out.getD k
      obtain ⟨b1, o1, hA1, _, r1⟩ := lim_cell (H.out.below HBW.out) hlt
      obtain ⟨av, hav⟩ : ∃ av : Int, av = ((a.getD k 0 : Nat) : Int) := ⟨_, rfl⟩
      obtain ⟨bv, hbv⟩ : ∃ bv : Int, bv = ((b.getD k 0 : Nat) : Int) := ⟨_, rfl⟩
      rw [← hav] at r1
      have ha0 : 0 ≤ av := by omega
      have ha1 : av ≤ 4294967295 := by omega
      have hb0 : 0 ≤ bv := by omega
      have hb1 : bv ≤ 4294967295 := by omega
      have hc0 : 0 ≤ cI := by omega
      have hc1 : cI ≤ 1 := by omega
      obtain ⟨x1, hx1⟩ : ∃ x1 : Int, x1 = IntKind.u64.wrap (av - cI) := ⟨_, rfl⟩
      obtain ⟨x2, hx2⟩ : ∃ x2 : Int, x2 = IntKind.u64.wrap (x1 - bv) := ⟨_, rfl⟩
      have hx1' : x1 = (av - cI) % 18446744073709551616 := by rw [hx1, IntKind.wrap_u64]
      have hx2' : x2 = (x1 - bv) % 18446744073709551616 := by rw [hx2, IntKind.wrap_u64]
      have hx10 : 0 ≤ x1 := by omega
      have hx11 : x1 ≤ 18446744073709551615 := by omega
      have hx20 : 0 ≤ x2 := by omega
      have hx21 : x2 ≤ 18446744073709551615 := by omega
      obtain ⟨lo, hlo⟩ : ∃ lo : Nat, (lo : Int) = x2 % 4294967296 := ⟨(x2 % 4294967296).toNat, by omega⟩
      obtain ⟨nb, hnb⟩ : ∃ nb : Nat, (nb : Int) = x2 / 9223372036854775808 := ⟨(x2 / 9223372036854775808).toNat, by omega⟩
      have hsum : a.getD k 0 + 4294967296 * nb = lo + b.getD k 0 + cr := by omega
      have HNB : Hid (nb ≤ 1) := Lib.hid (by omega)
      have hlo2 : lo < 4294967296 := by omega
      have HST := Lib.hid (minus_step (a := a) (b := b) HOL.out HV.out hsum)
      obtain ⟨loI, hloI⟩ : ∃ loI : Int, loI = (lo : Int) := ⟨_, rfl⟩
      have hwr : IntKind.u32.wrap x2 = loI := by rw [IntKind.wrap_u32, hloI, hlo]
      have hop : o.length < n := by rw [hol]; exact hlt
      have e0 : wa.cell? ⟨w.heap.size, k, none⟩ = some (.int .u32 0) := by
        rw [HO.out.cellAt k (by omega), List.getElem?_map, padN, List.getElem?_append_right (by omega), List.getElem?_replicate, if_pos (by omega)]; rfl
      have f0 := HO.out.frozenAt k
      have hst := (HO.out.stored k (.int .u32 loI)).1
      have e1 : (limC (padN o n)).set k (.int .u32 loI) = limC (padN (o ++ [lo]) n) := by
        rw [← padN_set o n _ hop, hol, hloI]
        unfold limC
        rw [List.map_set]
      rw [e1] at hst
      have HSR := Lib.hid hst; have HBS := Lib.hid (HBW.out.setCell (p := ⟨w.heap.size, k, none⟩) (Nat.le_refl _) (.int .u32 loI))
      have HL2 : Hid ((o ++ [lo]).length = k + 1) := Lib.hid (by simp [hol])
      have HLB : Hid (Limbs (o ++ [lo])) := Lib.hid (HLO.out.snoc hlo2)
      have HDV : Hid (x2 / 9223372036854775808 = ((nb : Nat) : Int)) := Lib.hid hnb.symm
      have HBV := Lib.hid hbv
      have hw1 := hx1.symm
      have hw2 := hx2.symm
      have HX1 := Lib.hid hx1'; have HX2 := Lib.hid hx2'
      have hcase2 : ((k : Int) < (n' : Int) ∧ (∃ b1 o1, A' = some ⟨b1, o1, none⟩ ∧ wa.cell? ⟨b1, o1 + k, none⟩ = some (.int .u32 bv))) ∨ (¬ (k : Int) < (n' : Int) ∧ x2 = x1) := by
        by_cases hkn : k < n'
        · obtain ⟨b1, o1, hA, _, r1⟩ := lim_cell (H'.out.below HBW.out) hkn
          exact .inl ⟨by omega, b1, o1, hA, by rw [r1, HBV.out]⟩
        · refine .inr ⟨by omega, ?_⟩
          have : bv = 0 := by rw [HBV.out, List.getD_eq_getElem?_getD, List.getElem?_eq_none (by rw [HL'.out]; omega)]; rfl
          omega
      subst hA1
      clear hst e1 hop hol hcr hcI hlo hav hbv hnb hsum hlo2 hloI la lb hx1 hx2 hx1' hx2'
      rcases hcase2 with ⟨k2, b2, o2, rfl, r2⟩ | ⟨k2, hxx⟩
      · go_wp2_with fail
        go_roundw
        case rel => exact ⟨k + 1, nb, _, _, hlt, by go_num, rfl, HDV.out, HNB.out, HL2.out, HLB.out, HST.out, HSR.out, HBS.out⟩
        case measure => simp [intOf]; omega
      · have HXX := Lib.hid hxx
        rw [hxx] at hwr HDV
        clear hxx hw2
        go_wp2_with fail
        go_roundw
        case rel => exact ⟨k + 1, nb, _, _, hlt, by go_num, rfl, HDV.out, HNB.out, HL2.out, HLB.out, HST.out, HSR.out, HBS.out⟩
        case measure => simp [intOf]; omega
    · have hki : ¬ (k : Int) < (n : Int) := by omega
      obtain rfl : k = n := by omega
      have HVV : Hid (valL o = valL a - valL b) := Lib.hid (by
        have h1 := HV.out
        rw [List.take_of_length_le (by have := HL.out; omega), List.take_of_length_le (by have := HL'.out; omega)] at h1
        have h2 := valL_lt HLO.out
        rw [HOL.out] at h2
        have h3 := HAB.out
        rcases Nat.eq_zero_or_pos cr with h | h
        · subst h; omega
        · obtain rfl : cr = 1 := by omega
          omega)
      have HOF : Hid (wa.ownsRow w.heap.size 47 1 (.slice (some ⟨w.heap.size, 0, none⟩) k k) k (limC o)) := Lib.hid (by
        have := HO.out
        rwa [padN_full _ _ (by rw [HOL.out]; exact Nat.le_refl _)] at this)
      clear hcI hcr hol
      go_wp2_with fail
      refine (trim_any (some ⟨w.heap.size, 0, none⟩) k k wa.heap.size o _ (by omega) (Nat.le_refl _) (Rd.own HOF.out)).mono ?_
      rintro e w2 ⟨rfl, rfl⟩
      go_wp2_with fail
      go_ret
      have ht : trimL o = o.take (trimN o k) := by unfold trimL; rw [HOL.out]
      refine ⟨trimL o, trimL_limbs HLO.out, trimL_nrm o, by rw [trimL_val, HVV.out], _, trimN o k, k, rfl, by rw [trimL_len, HOL.out], trimN_le _ _, ?_, HBW.out⟩
      have := own_pre HOF.out (trimN_le o k)
      rw [ht, show limC (o.take (trimN o k)) = (limC o).take (trimN o k) from List.map_take]
      exact this
#print axioms minus_any
end Go.Proofs.Ytncjmndiafgaaaa
