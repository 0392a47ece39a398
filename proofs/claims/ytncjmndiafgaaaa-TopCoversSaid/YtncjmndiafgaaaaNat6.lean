/- The contract of times. Conditions: as each statement says. -/
import Derived.Test.YtncjmndiafgaaaaNat5
namespace Go.Proofs.Ytncjmndiafgaaaa
open Go.RowKit
set_option linter.unusedVariables false
theorem val_set : ∀ (l : List Nat) (j x : Nat), j < l.length → valL (l.set j x) + 4294967296 ^ j * l.getD j 0 = valL l + 4294967296 ^ j * x
  | [], j, x, h => by simp at h
  | y :: l, 0, x, _ => by simp [valL]; omega
  | y :: l, j + 1, x, h => by
    have ih := val_set l j x (by simpa using h)
    rw [List.set_cons_succ, valL, valL, List.getD_cons_succ, Nat.pow_succ, Nat.mul_comm (4294967296 ^ j) 4294967296, Nat.mul_assoc, Nat.mul_assoc]
    omega
theorem times_step {o b : List Nat} {P x i k cr t : Nat} (hj : i + k < o.length) (h : valL o + 4294967296 ^ (i + k) * cr = P + x * 4294967296 ^ i * valL (b.take k)) (ht : t = cr + (x * b.getD k 0 + o.getD (i + k) 0)) :
    valL (o.set (i + k) (t % 4294967296)) + 4294967296 ^ (i + (k + 1)) * (t / 4294967296) = P + x * 4294967296 ^ i * valL (b.take (k + 1)) := by
  have h1 := val_set o (i + k) (t % 4294967296) hj
  have e1 : 4294967296 ^ (i + (k + 1)) * (t / 4294967296) + 4294967296 ^ (i + k) * (t % 4294967296) = 4294967296 ^ (i + k) * t := by
    rw [show i + (k + 1) = (i + k) + 1 by omega, Nat.pow_succ, Nat.mul_assoc, ← Nat.mul_add]
    congr 1; omega
  have e2 : 4294967296 ^ (i + k) * t = 4294967296 ^ (i + k) * cr + 4294967296 ^ (i + k) * (x * b.getD k 0) + 4294967296 ^ (i + k) * o.getD (i + k) 0 := by
    rw [ht, Nat.mul_add, Nat.mul_add]; omega
  have e3 : x * 4294967296 ^ i * valL (b.take (k + 1)) = x * 4294967296 ^ i * valL (b.take k) + 4294967296 ^ (i + k) * (x * b.getD k 0) := by
    rw [val_take, Nat.mul_add, Nat.pow_add]
    congr 1
    generalize 4294967296 ^ i = u
    generalize 4294967296 ^ k = v
    generalize b.getD k 0 = z
    have q1 : x * u * (v * z) = u * v * (x * z) := by
      rw [Nat.mul_comm x u, Nat.mul_assoc, Nat.mul_assoc, Nat.mul_left_comm x v z]
    rw [q1]
  omega
set_option maxRecDepth 100000 in
set_option maxHeartbeats 8000000 in
theorem times_any (A A' : Option Addr) (n c n' c' : Nat) (a b : List Nat) (w : World) (hn : n ≤ 40000) (hn' : n' ≤ 40000) (ha : Limbs a) (hb : Limbs b) (h : Rd w w.heap.size 1 A n (limC a)) (h' : Rd w w.heap.size 1 A' n' (limC b)) :
    Calls Try.prog 28 #[.slice A n c, .slice A' n' c'] w (RetVal w (valL a * valL b)) := by
  have hl : a.length = n := by have := h.1; simpa using this
  have hl' : b.length = n' := by have := h'.1; simpa using this
  obtain ⟨N, hN⟩ : ∃ N, N = n + n' := ⟨_, rfl⟩
  have hmk : ∀ w, (Instr.makeSlice 25 (.int .i64 ((n : Int) + (n' : Int))) (.int .i64 ((n : Int) + (n' : Int)))).run Try.prog w = .ok (.slice (some ⟨w.heap.size, 0, none⟩) N N) (w.alloc (.cells (Array.replicate N (.int .u32 0)) 47)) := fun w => by
    rw [show (n : Int) + (n' : Int) = (N : Int) by omega]; exact make_nat w N (by omega)
  have H := Lib.hid h; have H' := Lib.hid h'; have HL := Lib.hid hl; have HL' := Lib.hid hl'; have HA := Lib.hid ha; have HB := Lib.hid hb; have HN := Lib.hid hN
  have hN8 : N ≤ 80000 := by omega
  clear h h' hl hl' ha hb hN
  go_enter Try.func28, Try.ntmps28
  go_wp2_with fail
  clear hmk
  have hown := own_new w (Array.replicate N (.int .u32 0)) 47 N (by simp) (by omega)
  have HO0 : Hid ((w.alloc (.cells (Array.replicate N (.int .u32 0)) 47)).ownsRow w.heap.size 47 1 (.slice (some ⟨w.heap.size, 0, none⟩) N N) N (limC (List.replicate N 0))) := Lib.hid (by simpa using hown)
  have HAL : Hid (Below w.heap.size w (w.alloc (.cells (Array.replicate N (.int .u32 0)) 47))) := Lib.hid ((Below.refl _ _).alloc (Nat.le_refl _) _)
  clear hown
  generalize w.alloc (.cells (Array.replicate N (.int .u32 0)) 47) = w1 at HO0 HAL ⊢
  go_loopw [17] (fun i wr => ∃ (k : Nat) (o : List Nat), k ≤ n ∧ i = .int .i64 k ∧ o.length = N ∧ Limbs o ∧ (∀ j, k + n' ≤ j → o.getD j 0 = 0) ∧ valL o = valL (a.take k) * valL b ∧ wr.ownsRow w.heap.size 47 1 (.slice (some ⟨w.heap.size, 0, none⟩) N N) N (limC o) ∧ Below w.heap.size w wr) (fun i _ => n - (intOf i).toNat)
  case atStart => exact ⟨0, List.replicate N 0, Nat.zero_le _, rfl, by simp, Limbs.zeros N, fun j _ => by
      rw [List.getD_eq_getElem?_getD, List.getElem?_replicate]; split <;> rfl, by rw [valL_zeros]; simp [valL], HO0.out, HAL.out⟩
  case round =>
    obtain ⟨i, o, hi, rfl, hol, hlo, hz, hval, hown, hbw⟩ := hrel
    obtain ⟨wa, rfl⟩ : ∃ z : World, z = wr := ⟨_, rfl⟩
    have HO := Lib.hid hown; have HBW := Lib.hid hbw; have HLO := Lib.hid hlo; have HV := Lib.hid hval; have HOL := Lib.hid hol; have HZ := Lib.hid hz
    clear hown hbw hlo hval HO0 HAL hol hz
    by_cases hlt : i < n
    · have hii : (i : Int) < (n : Int) := by omega
      have la := HA.out.getD i
      have HVT := Lib.hid (val_take a i)
      obtain ⟨x, hx⟩ : ∃ x, x = a.getD i 0 := ⟨_, rfl⟩
      rw [← hx] at la HVT
      have HX := Lib.hid hx
      clear hx
      go_wp2_with fail
      go_loopw [7, 22] (fun cv i2 wr => ∃ (k cr : Nat) (o2 : List Nat) (cI : Int), k ≤ n' ∧ i2 = .int .i64 k ∧ cv = .int .u64 cI ∧ cI = cr ∧ cr ≤ 4294967295 ∧ o2.length = N ∧ Limbs o2 ∧ (∀ j, i + n' ≤ j → o2.getD j 0 = 0) ∧ valL o2 + 4294967296 ^ (i + k) * cr = valL (a.take i) * valL b + x * 4294967296 ^ i * valL (b.take k) ∧ wr.ownsRow w.heap.size 47 1 (.slice (some ⟨w.heap.size, 0, none⟩) N N) N (limC o2) ∧ Below w.heap.size w wr) (fun _ i2 _ => n' - (intOf i2).toNat)
      case atStart => exact ⟨0, 0, o, 0, Nat.zero_le _, rfl, rfl, rfl, by omega, HOL.out, HLO.out, HZ.out, by rw [HV.out]; simp [valL], HO.out, HBW.out⟩
      case round =>
        obtain ⟨k, cr, o2, cI, hk, rfl, rfl, hcI, hcr, hol, hlo, hz, hval, hown, hbw⟩ := hrel
        obtain ⟨wb, rfl⟩ : ∃ z : World, z = wr := ⟨_, rfl⟩
        have HO2 := Lib.hid hown; have HBW2 := Lib.hid hbw; have HLO2 := Lib.hid hlo; have HV2 := Lib.hid hval; have HOL2 := Lib.hid hol; have HZ2 := Lib.hid hz
        clear hown hbw hlo hval hol hz
        have hNN := HN.out
        by_cases hlk : k < n'
        · have hki : (k : Int) < (n' : Int) := by omega
          have lb := HB.out.getD k
          have lo3 := HLO2.out.getD (i + k)
          obtain ⟨b1, o1, hA1, _, r1⟩ := lim_cell (H.out.below HBW2.out) hlt
          obtain ⟨b2, o2', hA2, _, r2⟩ := lim_cell (H'.out.below HBW2.out) hlk
          rw [← HX.out] at r1
          have hj : i + k < o2.length := by rw [HOL2.out]; omega
          have hjN : ((i + k : Nat) : Int) < (N : Int) := by omega
          have r3 : wb.cell? ⟨w.heap.size, i + k, none⟩ = some (.int .u32 (o2.getD (i + k) 0 : Nat)) := by
            rw [HO2.out.cellAt (i + k) (by omega), List.getElem?_map, List.getElem?_eq_getElem hj, List.getD_eq_getElem?_getD, List.getElem?_eq_getElem hj]; rfl
          have f3 := HO2.out.frozenAt (i + k)
          obtain ⟨t, ht⟩ : ∃ t, t = cr + (x * b.getD k 0 + o2.getD (i + k) 0) := ⟨_, rfl⟩
          have HST := Lib.hid (times_step (b := b) hj HV2.out ht)
          obtain ⟨av, hav⟩ : ∃ av : Int, av = (x : Int) := ⟨_, rfl⟩
          obtain ⟨bv, hbv⟩ : ∃ bv : Int, bv = ((b.getD k 0 : Nat) : Int) := ⟨_, rfl⟩
          obtain ⟨ov, hov⟩ : ∃ ov : Int, ov = ((o2.getD (i + k) 0 : Nat) : Int) := ⟨_, rfl⟩
          rw [← hav] at r1; rw [← hbv] at r2; rw [← hov] at r3
          have hpm : x * b.getD k 0 ≤ 4294967295 * 4294967295 := Nat.mul_le_mul (by omega) (by omega)
          obtain ⟨pn, hpn⟩ : ∃ pn, pn = x * b.getD k 0 := ⟨_, rfl⟩
          obtain ⟨pv, hpv⟩ : ∃ pv : Int, pv = (pn : Int) := ⟨_, rfl⟩
          rw [← hpn] at hpm ht
          have hp : IntKind.u64.wrap (av * bv) = pv := by
            rw [hav, hbv, ← Int.natCast_mul, ← hpn, IntKind.wrap_u64, hpv]; omega
          have h1 : IntKind.u64.wrap av = av := by rw [IntKind.wrap_u64]; omega
          have h2 : IntKind.u64.wrap bv = bv := by rw [IntKind.wrap_u64]; omega
          have h3 : IntKind.u64.wrap ov = ov := by rw [IntKind.wrap_u64]; omega
          obtain ⟨tv, htv⟩ : ∃ tv : Int, tv = (t : Int) := ⟨_, rfl⟩
          have h4 : IntKind.u64.wrap (pv + ov) = pv + ov := by rw [IntKind.wrap_u64]; omega
          have h5 : IntKind.u64.wrap (cI + (pv + ov)) = tv := by rw [IntKind.wrap_u64]; omega
          have ht0 : 0 ≤ tv := by omega
          have ht1 : tv ≤ 18446744073709551615 := by omega
          have hij : IntKind.i64.wrap ((i : Int) + (k : Int)) = ((i + k : Nat) : Int) := by rw [← Int.natCast_add]; exact i64_small _ (by omega)
          obtain ⟨lo, hlo⟩ : ∃ lo : Int, lo = ((t % 4294967296 : Nat) : Int) := ⟨_, rfl⟩
          have hwr : IntKind.u32.wrap tv = lo := by rw [IntKind.wrap_u32, hlo, htv]; omega
          have HDV : Hid (tv / 4294967296 = ((t / 4294967296 : Nat) : Int)) := Lib.hid (by rw [htv]; omega)
          have HCR : Hid (t / 4294967296 ≤ 4294967295) := Lib.hid (by omega)
          have hst := (HO2.out.drew.stored (i + k) (.int .u32 lo)).1
          have e1 : (limC o2).set (i + k) (.int .u32 lo) = limC (o2.set (i + k) (t % 4294967296)) := by
            rw [hlo]; unfold limC; rw [List.map_set]
          rw [e1] at hst
          have HSR := Lib.hid hst; have HBS := Lib.hid (HBW2.out.drew.setCell (p := ⟨w.heap.size, i + k, none⟩) (Nat.le_refl _) (.int .u32 lo))
          have HL3 : Hid ((o2.set (i + k) (t % 4294967296)).length = N) := Lib.hid (by rw [List.length_set]; exact HOL2.out)
          have HLB : Hid (Limbs (o2.set (i + k) (t % 4294967296))) := Lib.hid (HLO2.out.set (Nat.mod_lt _ (by decide)))
          have HZ3 : Hid (∀ j, i + n' ≤ j → (o2.set (i + k) (t % 4294967296)).getD j 0 = 0) := Lib.hid (fun j hj => by
            rw [List.getD_eq_getElem?_getD, List.getElem?_set, if_neg (by omega), ← List.getD_eq_getElem?_getD]; exact HZ2.out j hj)
          subst hA1; subst hA2
          have hij1 : (i : Int) + (k : Int) < (N : Int) := by omega
          have hij2 : ((i : Int) + (k : Int)).toNat = i + k := by omega
          clear hst e1 hj hlo htv hpv hpn hpm hav hbv hov ht hcr hcI lb lo3
          go_wp2_with fail
          go_region
          clear hp h1 h2 h3 h4 h5 hij
          go_wp2_with fail
          go_roundw
          case rel => exact ⟨k + 1, _, _, _, hlk, by go_num, rfl, HDV.out, HCR.out, HL3.out, HLB.out, HZ3.out, HST.out, HSR.out, HBS.out⟩
          case measure => simp [intOf]; omega
        · have hki : ¬ (k : Int) < (n' : Int) := by omega
          obtain rfl : k = n' := by omega
          have hj : i + k < o2.length := by rw [HOL2.out]; omega
          have hz0 := HZ2.out (i + k) (Nat.le_refl _)
          have r3 : wb.cell? ⟨w.heap.size, i + k, none⟩ = some (.int .u32 0) := by
            rw [HO2.out.cellAt (i + k) (by omega), List.getElem?_map, List.getElem?_eq_getElem hj]
            rw [List.getD_eq_getElem?_getD, List.getElem?_eq_getElem hj] at hz0
            simp only [Option.getD_some] at hz0
            rw [hz0]; rfl
          have f3 := HO2.out.frozenAt (i + k)
          have hwr : IntKind.u32.wrap cI = cI := by rw [IntKind.wrap_u32]; omega
          have hc0 : 0 ≤ cI := by omega
          have hc1 : cI ≤ 4294967295 := by omega
          have hst := (HO2.out.stored (i + k) (.int .u32 cI)).1
          have e1 : (limC o2).set (i + k) (.int .u32 cI) = limC (o2.set (i + k) cr) := by
            rw [hcI]; unfold limC; rw [List.map_set]
          rw [e1] at hst
          have hvs := val_set o2 (i + k) cr hj
          have HVS : Hid (valL (o2.set (i + k) cr) = valL (a.take (i + 1)) * valL b) := Lib.hid (by
            have h1 := HV2.out
            rw [show b.take k = b from List.take_of_length_le (by have := HL'.out; omega)] at h1
            rw [hz0, Nat.mul_zero, Nat.add_zero] at hvs
            rw [hvs, h1, HVT.out, Nat.add_mul, Nat.mul_comm x])
          have HSR := Lib.hid hst; have HBS := Lib.hid (HBW2.out.setCell (p := ⟨w.heap.size, i + k, none⟩) (Nat.le_refl _) (.int .u32 cI))
          have HL3 : Hid ((o2.set (i + k) cr).length = N) := Lib.hid (by rw [List.length_set]; exact HOL2.out)
          have HLB : Hid (Limbs (o2.set (i + k) cr)) := Lib.hid (HLO2.out.set (by omega))
          have HZ3 : Hid (∀ j, i + 1 + k ≤ j → (o2.set (i + k) cr).getD j 0 = 0) := Lib.hid (fun j hj => by
            rw [List.getD_eq_getElem?_getD, List.getElem?_set, if_neg (by omega), ← List.getD_eq_getElem?_getD]; exact HZ2.out j (by omega))
          have hij1 : (i : Int) + (k : Int) < (N : Int) := by omega
          have hij2 : ((i : Int) + (k : Int)).toNat = i + k := by omega
          clear hst e1 hj hz0 hvs hcI hcr
          go_wp2_with fail
          go_roundw
          case rel => exact ⟨i + 1, _, hlt, by go_num, HL3.out, HLB.out, HZ3.out, HVS.out, HSR.out, HBS.out⟩
          case measure => simp [intOf]; omega
    · have hii : ¬ (i : Int) < (n : Int) := by omega
      obtain rfl : i = n := by omega
      have HVV : Hid (valL o = valL a * valL b) := Lib.hid (by
        have h1 := HV.out
        rwa [List.take_of_length_le (by have := HL.out; omega)] at h1)
      go_wp2_with fail
      refine (trim_any (some ⟨w.heap.size, 0, none⟩) N N wa.heap.size o _ (by omega) (Nat.le_refl _) (Rd.own HO.out)).mono ?_
      rintro e w2 ⟨rfl, rfl⟩
      go_wp2_with fail
      go_ret
      have ht : trimL o = o.take (trimN o N) := by unfold trimL; rw [HOL.out]
      refine ⟨trimL o, trimL_limbs HLO.out, trimL_nrm o, by rw [trimL_val, HVV.out], _, trimN o N, N, rfl, by rw [trimL_len, HOL.out], trimN_le _ _, ?_, HBW.out⟩
      have := own_pre HO.out (trimN_le o N)
      rw [ht, show limC (o.take (trimN o N)) = (limC o).take (trimN o N) from List.map_take]
      exact this
#print axioms times_any
end Go.Proofs.Ytncjmndiafgaaaa
