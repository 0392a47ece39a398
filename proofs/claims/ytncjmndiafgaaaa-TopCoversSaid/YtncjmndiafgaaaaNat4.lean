/- The contracts of plus and minus. Conditions: as each statement says. -/
import Derived.Test.YtncjmndiafgaaaaNat3
namespace Go.Proofs.Ytncjmndiafgaaaa
open Go.RowKit
set_option linter.unusedVariables false
/-- A call that returns a new number by its value. -/
def RetVal (w : World) (v : Nat) (e : Ending) (w' : World) : Prop := ∃ l, Limbs l ∧ Nrm l ∧ valL l = v ∧ RetLim w l e w'
theorem own_pre {w : World} {base g N m c : Nat} {t : TypeId} {xs : List Value} (h : w.ownsRow base t 1 (.slice (some ⟨g, 0, none⟩) N c) N xs) (hm : m ≤ N) : w.ownsRow base t 1 (.slice (some ⟨g, 0, none⟩) m c) m (xs.take m) := by
  have hl : xs.length = N := by have := h.1; omega
  refine ⟨by rw [List.length_take, hl, Nat.mul_one]; omega, ?_⟩
  rcases h.2 with ⟨h1, _⟩ | ⟨g', cap, cur, hv, hb, hg, h1, h2, h3, h4⟩
  · cases h1
  · injection hv with e1 _ e3
    injection e1 with e1
    injection e1 with e1 _ _
    subst e1; subst e3
    refine .inr ⟨g, c, cur, rfl, hb, hg, by omega, h2, h3, ?_⟩
    rw [← h4, List.take_take]
    congr 1
    omega
/-- Limbs, filled up to a place. -/
def padN (l : List Nat) (n : Nat) : List Nat := l ++ List.replicate (n - l.length) 0
theorem padN_set (l : List Nat) (n u : Nat) (h : l.length < n) : (padN l n).set l.length u = padN (l ++ [u]) n := by
  unfold padN
  rw [List.set_append_right _ _ (Nat.le_refl _), Nat.sub_self, show n - l.length = (n - (l.length + 1)) + 1 by omega, List.replicate_succ, List.set_cons_zero, List.length_append, List.append_assoc]; rfl
theorem padN_full (l : List Nat) (n : Nat) (h : n ≤ l.length) : padN l n = l := by
  unfold padN; rw [show n - l.length = 0 by omega]; simp
theorem val_take (a : List Nat) (k : Nat) : valL (a.take (k + 1)) = valL (a.take k) + 4294967296 ^ k * a.getD k 0 := by
  by_cases h : k < a.length
  · rw [take_snoc _ _ h, valL_snoc, List.length_take, Nat.min_eq_left (by omega), List.getD_eq_getElem?_getD, List.getElem?_eq_getElem h]; rfl
  · rw [List.take_of_length_le (by omega), List.take_of_length_le (by omega), List.getD_eq_getElem?_getD, List.getElem?_eq_none (by omega)]; simp
theorem plus_step {o a b : List Nat} {k cr s : Nat} (hk : o.length = k) (h : valL o + 4294967296 ^ k * cr = valL (a.take k) + valL (b.take k)) (hs : s = cr + a.getD k 0 + b.getD k 0) :
    valL (o ++ [s % 4294967296]) + 4294967296 ^ (k + 1) * (s / 4294967296) = valL (a.take (k + 1)) + valL (b.take (k + 1)) := by
  rw [valL_snoc, hk, val_take, val_take, Nat.pow_succ]
  have e : 4294967296 ^ k * s = 4294967296 ^ k * (s % 4294967296) + 4294967296 ^ k * 4294967296 * (s / 4294967296) := by
    rw [Nat.mul_assoc, ← Nat.mul_add]
    congr 1
    omega
  have e2 : 4294967296 ^ k * s = 4294967296 ^ k * cr + 4294967296 ^ k * a.getD k 0 + 4294967296 ^ k * b.getD k 0 := by
    rw [hs, Nat.mul_add, Nat.mul_add]
  omega
set_option maxRecDepth 100000 in
set_option maxHeartbeats 8000000 in
theorem plus_any (A A' : Option Addr) (n c n' c' : Nat) (a b : List Nat) (w : World) (hn : n ≤ 90000) (hn' : n' ≤ 90000) (ha : Limbs a) (hb : Limbs b) (h : Rd w w.heap.size 1 A n (limC a)) (h' : Rd w w.heap.size 1 A' n' (limC b)) :
    Calls Try.prog 44 #[.slice A n c, .slice A' n' c'] w (RetVal w (valL a + valL b)) := by
  have hl : a.length = n := by have := h.1; simpa using this
  have hl' : b.length = n' := by have := h'.1; simpa using this
  obtain ⟨N, hN⟩ : ∃ N, N = max n n' + 1 := ⟨_, rfl⟩
  have hN2 : N ≤ 100000 := by omega
  have hmk := fun w => make_nat w N (by omega)
  have H := Lib.hid h; have H' := Lib.hid h'; have HL := Lib.hid hl; have HL' := Lib.hid hl'; have HA := Lib.hid ha; have HB := Lib.hid hb; have HN := Lib.hid hN
  have hmk3 : ∀ w, (Instr.makeSlice 25 (.int .i64 (max (n : Int) (n' : Int) + 1)) (.int .i64 (max (n : Int) (n' : Int) + 1))).run Try.prog w = .ok (.slice (some ⟨w.heap.size, 0, none⟩) N N) (w.alloc (.cells (Array.replicate N (.int .u32 0)) 47)) := by
    rw [show max (n : Int) (n' : Int) + 1 = (N : Int) by omega]; exact hmk
  clear hmk
  have hcs : (¬ (n : Int) < (n' : Int) ∧ ¬ (n' : Int) < (n : Int) ∧ max (n : Int) (n' : Int) = (n : Int)) ∨ ((n : Int) < (n' : Int) ∧ max (n : Int) (n' : Int) = (n' : Int)) ∨ ((n' : Int) < (n : Int) ∧ max (n : Int) (n' : Int) = (n : Int)) := by omega
  clear h h' hl hl' ha hb hN
  rcases hcs with ⟨g1, g2, g3⟩ | ⟨g1, g3⟩ | ⟨g1, g3⟩
  all_goals
    rw [g3] at hmk3
    clear g3
    go_enter Try.func44, Try.ntmps44
    go_wp2_with fail
    clear hmk3
    have hown := own_new w (Array.replicate N (.int .u32 0)) 47 N (by simp) (by omega)
    have HO0 : Hid ((w.alloc (.cells (Array.replicate N (.int .u32 0)) 47)).ownsRow w.heap.size 47 1 (.slice (some ⟨w.heap.size, 0, none⟩) N N) N (limC (padN [] N))) := Lib.hid (by simpa [padN] using hown)
    have HAL : Hid (Below w.heap.size w (w.alloc (.cells (Array.replicate N (.int .u32 0)) 47))) := Lib.hid ((Below.refl _ _).alloc (Nat.le_refl _) _)
    clear hown
    generalize w.alloc (.cells (Array.replicate N (.int .u32 0)) 47) = w1 at HO0 HAL ⊢
    go_loopw [6, 17] (fun cv i wr => ∃ (k cr : Nat) (o : List Nat) (cI : Int), k ≤ N ∧ i = .int .i64 k ∧ cv = .int .u64 cI ∧ cI = cr ∧ cr ≤ 1 ∧ o.length = k ∧ Limbs o ∧ valL o + 4294967296 ^ k * cr = valL (a.take k) + valL (b.take k) ∧ wr.ownsRow w.heap.size 47 1 (.slice (some ⟨w.heap.size, 0, none⟩) N N) N (limC (padN o N)) ∧ Below w.heap.size w wr) (fun _ i _ => N - (intOf i).toNat)
    case atStart => exact ⟨0, 0, [], 0, Nat.zero_le _, rfl, rfl, rfl, by omega, rfl, fun x hx => by simp at hx, by simp [valL], HO0.out, HAL.out⟩
    case round =>
      obtain ⟨k, cr, o, cI, hk, rfl, rfl, hcI, hcr, hol, hlo, hval, hown, hbw⟩ := hrel
      obtain ⟨wa, rfl⟩ : ∃ z : World, z = wr := ⟨_, rfl⟩
      have HO := Lib.hid hown; have HBW := Lib.hid hbw; have HLO := Lib.hid hlo; have HV := Lib.hid hval; have HOL := Lib.hid hol
      clear hown hbw hlo hval HO0 HAL
      by_cases hlt : k < N
      · have hki : (k : Int) < (N : Int) := by omega
        have la := HA.out.getD k; have lb := HB.out.getD k
        obtain ⟨av, hav⟩ : ∃ av : Int, av = ((a.getD k 0 : Nat) : Int) := ⟨_, rfl⟩
        obtain ⟨bv, hbv⟩ : ∃ bv : Int, bv = ((b.getD k 0 : Nat) : Int) := ⟨_, rfl⟩
        have ha0 : 0 ≤ av := by omega
        have ha1 : av ≤ 4294967295 := by omega
        have hb0 : 0 ≤ bv := by omega
        have hb1 : bv ≤ 4294967295 := by omega
        have hc0 : 0 ≤ cI := by omega
        have hc1 : cI ≤ 1 := by omega
        obtain ⟨s, hs⟩ : ∃ s, s = cr + a.getD k 0 + b.getD k 0 := ⟨_, rfl⟩
        have hsI : cI + av + bv = (s : Int) := by omega
        have hs2 : s ≤ 8589934591 := by omega
        have HST := Lib.hid (plus_step (a := a) (b := b) HOL.out HV.out hs)
        have HCR : Hid (s / 4294967296 ≤ 1) := Lib.hid (by omega)
        obtain ⟨lo, hlo⟩ : ∃ lo : Int, lo = ((s % 4294967296 : Nat) : Int) := ⟨_, rfl⟩
        have hwr : IntKind.u32.wrap (cI + av + bv) = lo := by rw [hsI, IntKind.wrap_u32, hlo]; omega
        have hop : o.length < N := by rw [hol]; exact hlt
        have e0 : wa.cell? ⟨w.heap.size, k, none⟩ = some (.int .u32 0) := by
          rw [HO.out.cellAt k (by omega), List.getElem?_map, padN, List.getElem?_append_right (by omega), List.getElem?_replicate, if_pos (by omega)]; rfl
        have f0 := HO.out.frozenAt k
        have hst := (HO.out.stored k (.int .u32 lo)).1
        have e1 : (limC (padN o N)).set k (.int .u32 lo) = limC (padN (o ++ [s % 4294967296]) N) := by
          rw [← padN_set o N _ hop, hol, hlo]
          unfold limC
          rw [List.map_set]
        rw [e1] at hst
        have HSR := Lib.hid hst; have HBS := Lib.hid (HBW.out.setCell (p := ⟨w.heap.size, k, none⟩) (Nat.le_refl _) (.int .u32 lo))
        have HL2 : Hid ((o ++ [s % 4294967296]).length = k + 1) := Lib.hid (by simp [hol])
        have HLB : Hid (Limbs (o ++ [s % 4294967296])) := Lib.hid (HLO.out.snoc (Nat.mod_lt _ (by decide)))
        have HDV : Hid ((cI + av + bv) / 4294967296 = ((s / 4294967296 : Nat) : Int)) := Lib.hid (by rw [hsI]; omega)
        have HAV := Lib.hid hav; have HBV := Lib.hid hbv
        clear hst e1 hop hol hcr hcI hs hlo hsI hav hbv
        have hcase : ((k : Int) < (n : Int) ∧ (∃ b1 o1, A = some ⟨b1, o1, none⟩ ∧ wa.cell? ⟨b1, o1 + k, none⟩ = some (.int .u32 av))) ∨ (¬ (k : Int) < (n : Int) ∧ av = 0) := by
          by_cases hkn : k < n
          · obtain ⟨b1, o1, hA, _, r1⟩ := lim_cell (H.out.below HBW.out) hkn
            exact .inl ⟨by omega, b1, o1, hA, by rw [r1, HAV.out]⟩
          · refine .inr ⟨by omega, ?_⟩
            rw [HAV.out, List.getD_eq_getElem?_getD, List.getElem?_eq_none (by rw [HL.out]; omega)]; rfl
        have hcase2 : ((k : Int) < (n' : Int) ∧ (∃ b1 o1, A' = some ⟨b1, o1, none⟩ ∧ wa.cell? ⟨b1, o1 + k, none⟩ = some (.int .u32 bv))) ∨ (¬ (k : Int) < (n' : Int) ∧ bv = 0) := by
          by_cases hkn : k < n'
          · obtain ⟨b1, o1, hA, _, r1⟩ := lim_cell (H'.out.below HBW.out) hkn
            exact .inl ⟨by omega, b1, o1, hA, by rw [r1, HBV.out]⟩
          · refine .inr ⟨by omega, ?_⟩
            rw [HBV.out, List.getD_eq_getElem?_getD, List.getElem?_eq_none (by rw [HL'.out]; omega)]; rfl
        clear la lb
        rcases hcase with ⟨k1, b1, o1, rfl, r1⟩ | ⟨k1, rfl⟩ <;> rcases hcase2 with ⟨k2, b2, o2, rfl, r2⟩ | ⟨k2, rfl⟩
        all_goals first | (exfalso; omega) | skip
        all_goals
          (try simp only [Int.add_zero] at hwr HDV)
          go_wp2_with fail
          go_roundw
          case rel => exact ⟨k + 1, _, _, _, hlt, by go_num, rfl, HDV.out, HCR.out, HL2.out, HLB.out, HST.out, HSR.out, HBS.out⟩
          case measure => simp [intOf]; omega
      · have hki : ¬ (k : Int) < (N : Int) := by omega
        obtain rfl : k = N := by omega
        have hcz : cr = 0 := by
          have h1 := HV.out
          rw [List.take_of_length_le (by have := HN.out; have := HL.out; omega), List.take_of_length_le (by have := HN.out; have := HL'.out; omega)] at h1
          have h2 := valL_lt HA.out
          have h3 := valL_lt HB.out
          have h4 : 4294967296 ^ a.length ≤ 4294967296 ^ (k - 1) := Nat.pow_le_pow_right (by decide) (by have := HN.out; have := HL.out; omega)
          have h5 : 4294967296 ^ b.length ≤ 4294967296 ^ (k - 1) := Nat.pow_le_pow_right (by decide) (by have := HN.out; have := HL'.out; omega)
          have h6 : 4294967296 ^ k = 4294967296 ^ (k - 1) * 4294967296 := by rw [← Nat.pow_succ]; congr 1; have := HN.out; omega
          have h7 : 0 < 4294967296 ^ (k - 1) := Nat.pow_pos (by decide)
          rcases Nat.eq_zero_or_pos cr with h | h
          · exact h
          · obtain rfl : cr = 1 := by omega
            generalize 4294967296 ^ (k - 1) = z at *
            omega
        have HVV : Hid (valL o = valL a + valL b) := Lib.hid (by
          have h1 := HV.out
          rw [List.take_of_length_le (by have := HN.out; have := HL.out; omega), List.take_of_length_le (by have := HN.out; have := HL'.out; omega), hcz] at h1
          omega)
        have HOF : Hid (wa.ownsRow w.heap.size 47 1 (.slice (some ⟨w.heap.size, 0, none⟩) k k) k (limC o)) := Lib.hid (by
          have := HO.out
          rwa [padN_full _ _ (by rw [HOL.out]; exact Nat.le_refl _)] at this)
        clear hcI hcr hol
        go_wp2_with fail
        refine (trim_any (some ⟨w.heap.size, 0, none⟩) k k wa.heap.size o _ (by omega) (Nat.le_refl _) (Rd.own HOF.out)).mono ?_
        rintro e w2 ⟨rfl, rfl⟩
        go_wp2_with fail
        go_ret
        have ht : trimL o = o.take (trimN o k) := by unfold trimL; rw [HOL.out]
        refine ⟨trimL o, trimL_limbs HLO.out, trimL_nrm o, by rw [trimL_val, HVV.out], _, trimN o k, k, rfl, by rw [trimL_len, HOL.out], trimN_le _ _, ?_, HBW.out⟩
        have := own_pre HOF.out (trimN_le o k)
        rw [ht, show limC (o.take (trimN o k)) = (limC o).take (trimN o k) from List.map_take]
        exact this
#print axioms plus_any
end Go.Proofs.Ytncjmndiafgaaaa
