/- The contracts of order, plus, minus. Conditions: as each statement says. -/
import Derived.Test.YtncjmndiafgaaaaNat2
namespace Go.Proofs.Ytncjmndiafgaaaa
open Go.RowKit
set_option linter.unusedVariables false
set_option maxHeartbeats 4000000 in
/-- order, of any numbers. -/
theorem order_any (A A' : Option Addr) (n c n' c' : Nat) (a b : List Nat) (w : World) (hn : n ≤ 100000) (hn' : n' ≤ 100000) (hc : n ≤ c) (hc' : n' ≤ c') (ha : Limbs a) (hb : Limbs b) (h : Rd w w.heap.size 1 A n (limC a)) (h' : Rd w w.heap.size 1 A' n' (limC b)) :
    Calls Try.prog 18 #[.slice A n c, .slice A' n' c'] w fun e w' => e = .returned (.int .i64 (ordI (valL a) (valL b))) ∧ Qw w w' := by
  have hl : a.length = n := by have := h.1; simpa using this
  have hl' : b.length = n' := by have := h'.1; simpa using this
  obtain ⟨k, hk⟩ : ∃ k, k = trimN a n := ⟨_, rfl⟩
  obtain ⟨k', hk'⟩ : ∃ k, k = trimN b n' := ⟨_, rfl⟩
  have hkn : k ≤ n := by rw [hk]; exact trimN_le _ _
  have hkn' : k' ≤ n' := by rw [hk']; exact trimN_le _ _
  have ta : a.take k = trimL a := by unfold trimL; rw [hl, hk]
  have tb : b.take k' = trimL b := by unfold trimL; rw [hl', hk']
  have hp := h.pre hkn
  have hp' := h'.pre hkn'
  have lx := trimL_len a; have ly := trimL_len b
  rw [hl, ← hk] at lx; rw [hl', ← hk'] at ly
  rw [ta] at hp; rw [tb] at hp'
  have HVA := Lib.hid (trimL_val a); have HVB := Lib.hid (trimL_val b)
  have HXL := Lib.hid (trimL_limbs ha); have HYL := Lib.hid (trimL_limbs hb); have HXN := Lib.hid (trimL_nrm a); have HYN := Lib.hid (trimL_nrm b)
  generalize trimL a = x at *
  generalize trimL b = y at *
  have H := Lib.hid h; have H' := Lib.hid h'; have HP := Lib.hid hp; have HP' := Lib.hid hp'; have HK := Lib.hid hk; have HK' := Lib.hid hk'; have HLX := Lib.hid lx; have HLY := Lib.hid ly
  obtain ⟨O, hO⟩ : ∃ O, O = ordI (valL a) (valL b) := ⟨_, rfl⟩
  rw [← HVA.out, ← HVB.out] at hO
  rw [show ordI (valL a) (valL b) = O by rw [hO, HVA.out, HVB.out]]
  have HO := Lib.hid hO
  clear h h' hp hp' hk hk' lx ly ta tb ha hb hl hl' hO HVA HVB
  go_enter Try.func18, Try.ntmps18
  go_wp2_with fail
  refine (trim_any A n c w.heap.size a _ (by omega) hc H.out).mono ?_
  rintro e w' ⟨rfl, rfl⟩
  rw [← HK.out]
  go_wp2_with fail
  refine (trim_any A' n' c' w.heap.size b _ (by omega) hc' H'.out).mono ?_
  rintro e w' ⟨rfl, rfl⟩
  rw [← HK'.out]
  rcases Nat.lt_trichotomy k k' with g | g | g
  · have gi : (k : Int) < (k' : Int) := by omega
    have HE : Hid (O = -1) := Lib.hid (by
      rw [HO.out]; unfold ordI; rw [if_pos (len_lt HXL.out HYN.out (by rw [HLX.out, HLY.out]; exact g))])
    clear g
    go_wp2_with fail
    go_ret
    exact ⟨by rw [HE.out]; rfl, Qw.refl _⟩
  · subst g
    have gi : ¬ ((k : Int) < (k : Int)) := by omega
    go_wp2_with fail
    go_loopw [5] (fun i wr => ∃ (j : Nat) (I : Int), j ≤ k ∧ i = .int .i64 I ∧ I = (j : Int) - 1 ∧ x.drop j = y.drop j ∧ Qw w wr) (fun i _ => (intOf i + 1).toNat)
    case atStart => exact ⟨k, (k : Int) - 1, Nat.le_refl _, rfl, rfl, by rw [List.drop_of_length_le (by rw [HLX.out]; exact Nat.le_refl _), List.drop_of_length_le (by rw [HLY.out]; exact Nat.le_refl _)], Qw.refl _⟩
    case round =>
      obtain ⟨j, I, hj, rfl, hI, hd, hq⟩ := hrel
      obtain ⟨wa, rfl⟩ : ∃ z : World, z = wr := ⟨_, rfl⟩
      have HD := Lib.hid hd; have HQ := Lib.hid hq
      clear hd
      rcases Nat.eq_zero_or_pos j with h0 | h0
      · subst h0
        have hI1 : I = -1 := by omega
        subst hI1
        have HE : Hid (O = 0) := Lib.hid (by
          have e := HD.out
          rw [List.drop_zero, List.drop_zero] at e
          rw [HO.out, e]; unfold ordI; rw [if_neg (Nat.lt_irrefl _), if_neg (Nat.lt_irrefl _)])
        clear hI hq
        go_wp2_with fail
        go_ret
        exact ⟨by rw [HE.out]; rfl, HQ.out⟩
      · obtain ⟨p, rfl⟩ : ∃ p, j = p + 1 := ⟨j - 1, by omega⟩
        obtain rfl : I = (p : Int) := by omega
        have hpk : p < k := by omega
        obtain ⟨b1, o1, rfl, _, r1⟩ := lim_cell (HP.out.q hq) hpk
        obtain ⟨b2, o2, rfl, _, r2⟩ := lim_cell (HP'.out.q hq) hpk
        have hpi : (p : Int) < (k : Int) := by omega
        have hp0 : (0 : Int) ≤ (p : Int) := by omega
        have HTL : Hid (x.getD p 0 < y.getD p 0 → valL x < valL y) := Lib.hid (top_lt HXL.out (by rw [HLX.out]; exact hpk) (by rw [HLY.out]; exact hpk) HD.out)
        have HTG : Hid (y.getD p 0 < x.getD p 0 → valL y < valL x) := Lib.hid (top_lt HYL.out (by rw [HLY.out]; exact hpk) (by rw [HLX.out]; exact hpk) HD.out.symm)
        have HTE : Hid (x.getD p 0 = y.getD p 0 → x.drop p = y.drop p) := Lib.hid (fun e => by
          have h1 : p < x.length := by rw [HLX.out]; exact hpk
          have h2 : p < y.length := by rw [HLY.out]; exact hpk
          rw [List.drop_eq_getElem_cons h1, List.drop_eq_getElem_cons h2, HD.out]
          rw [List.getD_eq_getElem?_getD, List.getElem?_eq_getElem h1, List.getD_eq_getElem?_getD, List.getElem?_eq_getElem h2] at e
          simp only [Option.getD_some] at e
          rw [e])
        generalize x.getD p 0 = xa at r1 HTL HTG HTE
        generalize y.getD p 0 = ya at r2 HTL HTG HTE
        obtain ⟨u, hu⟩ : ∃ u : Int, u = (xa : Int) := ⟨_, rfl⟩
        obtain ⟨v, hv⟩ : ∃ v : Int, v = (ya : Int) := ⟨_, rfl⟩
        rw [← hu] at r1; rw [← hv] at r2
        rcases Nat.lt_trichotomy xa ya with g | g | g
        · have c1 : (u != v) = true := by rw [hu, hv]; simpa using (by omega : ¬ (xa : Int) = ya)
          have c2 : u < v := by omega
          have HE : Hid (O = -1) := Lib.hid (by rw [HO.out]; unfold ordI; rw [if_pos (HTL.out g)])
          clear hI hq hu hv g
          go_wp2_with fail
          go_region
          go_wp2_with fail
          go_region
          go_wp2_with fail
          go_ret
          exact ⟨by rw [HE.out]; rfl, HQ.out.drew.drew⟩
        · have c1 : (u != v) = false := by rw [hu, hv, g]; simp
          have HE := Lib.hid (HTE.out g)
          clear hI hq hu hv g
          go_wp2_with fail
          go_region
          go_wp2_with fail
          go_roundw
          case rel => exact ⟨p, (p : Int) - 1, by omega, rfl, rfl, HE.out, HQ.out.drew⟩
          case measure => simp [intOf]
        · have c1 : (u != v) = true := by rw [hu, hv]; simpa using (by omega : ¬ (xa : Int) = ya)
          have c2 : ¬ u < v := by omega
          have HE : Hid (O = 1) := Lib.hid (by
            have h1 := HTG.out g
            rw [HO.out]; unfold ordI; rw [if_neg (by omega), if_pos h1])
          clear hI hq hu hv g
          go_wp2_with fail
          go_region
          go_wp2_with fail
          go_region
          go_wp2_with fail
          go_ret
          exact ⟨by rw [HE.out]; rfl, HQ.out.drew.drew⟩
  · have gi : ¬ (k : Int) < (k' : Int) := by omega
    have gi2 : (k' : Int) < (k : Int) := by omega
    have HE : Hid (O = 1) := Lib.hid (by
      have h1 := len_lt HYL.out HXN.out (by rw [HLX.out, HLY.out]; exact g)
      rw [HO.out]; unfold ordI; rw [if_neg (by omega), if_pos h1])
    clear g
    go_wp2_with fail
    go_ret
    exact ⟨by rw [HE.out]; rfl, Qw.refl _⟩
#print axioms order_any
end Go.Proofs.Ytncjmndiafgaaaa
