/- The contract of split. Conditions: as each statement says. -/
import Derived.Test.YtncjmndiafgaaaaNat10
namespace Go.Proofs.Ytncjmndiafgaaaa
open Go.RowKit
set_option linter.unusedVariables false
/-- A new number among a call's results. -/
structure NatOwn (w w' : World) (A : Option Addr) (n c : Nat) (v : Nat) : Prop where
  ex : ∃ l, Limbs l ∧ Nrm l ∧ valL l = v ∧ n = l.length ∧ w'.ownsRow w.heap.size 47 1 (.slice A n c) n (limC l)
  nc : n ≤ c
def SplitP (V B : Nat) (w : World) (e : Ending) (w' : World) : Prop := ∃ A1 n1 c1 A2 n2 c2, e = .returned (.tuple #[.slice A1 n1 c1, .slice A2 n2 c2]) ∧ NatOwn w w' A1 n1 c1 (V / B) ∧ NatOwn w w' A2 n2 c2 (V % B) ∧ Below w.heap.size w w'
theorem bnextN {w0 w w' : World} (h : Below w0.heap.size w0 w) (hb : Below w.heap.size w w') : Below w0.heap.size w0 w' := h.trans (hb.mono h.size)
theorem Rd.pastN {w w' : World} {B sz n : Nat} {A : Option Addr} {xs : List Value} (h : Rd w B sz A n xs) (hb : Below B w w') (hs : B ≤ w'.heap.size) : Rd w' w'.heap.size sz A n xs := (h.below hb).mono hs
theorem own_base {w : World} {base t sz n g : Nat} {A : Option Addr} {m c : Nat} {xs : List Value} (h : w.ownsRow base t sz (.slice A m c) n xs) (hg : (Value.slice A m c).ownBlock = some g) : base ≤ g := by
  rcases h.2 with ⟨h1, _⟩ | ⟨g', cap, cur, hv, hb, _⟩
  · rw [h1] at hg; cases hg
  · rw [hv] at hg; simp only [Value.ownBlock, Option.some.injEq] at hg; omega
theorem own_in {w : World} {base g n c m : Nat} {t : TypeId} {sz : Nat} {xs : List Value} (h : w.ownsRow base t sz (.slice (some ⟨g, 0, none⟩) m c) n xs) : g < w.heap.size := by
  rcases h.2 with ⟨h1, _⟩ | ⟨g', cap, cur, hv, hb, hg, _⟩
  · cases h1
  · injection hv with e1 _ _; injection e1 with e1; injection e1 with e1; subst e1; exact (Array.getElem?_eq_some_iff.1 hg).1
theorem own_heap {w : World} {base g n : Nat} {t : TypeId} {xs : List Value} (h : w.ownsRow base t 1 (.slice (some ⟨g, 0, none⟩) n n) n xs) : w.heap[g]? = some (.cells xs.toArray t (0, 0)) := by
  rcases h.2 with ⟨h1, _⟩ | ⟨g', cap, cur, hv, hb, hg, h1, h2, h3, h4⟩
  · cases h1
  · injection hv with e1 _ e3; injection e1 with e1; injection e1 with e1; subst e1; subst e3
    have : cur.toList = xs := by rw [← h4, List.take_of_length_le (by simp; omega)]
    rw [hg, ← this]
/-- A clear bit, set. -/
theorem set_bit {l : List Nat} {i m : Nat} (hl : Limbs l) (hi : i / 32 < l.length) (hv : valL l = m * 2 ^ (i + 1)) :
    l.getD (i / 32) 0 ||| 2 ^ (i % 32) < 4294967296 ∧ valL (l.set (i / 32) (l.getD (i / 32) 0 ||| 2 ^ (i % 32))) = valL l + 2 ^ i := by
  have h0 := bit_at hl hi
  have hz : bitV (valL l) i = 0 := by
    unfold bitV
    rw [hv, Nat.pow_succ, Nat.mul_comm (2 ^ i) 2, ← Nat.mul_assoc, Nat.mul_div_cancel _ (Nat.pow_pos (by decide))]; omega
  rw [hz] at h0
  have hx := hl.getD (i / 32)
  have hp : 2 ^ (i % 32) < 2 ^ 32 := Nat.pow_lt_pow_right (by decide) (Nat.mod_lt _ (by decide))
  have hvs := val_set l (i / 32) (l.getD (i / 32) 0 ||| 2 ^ (i % 32)) hi
  have hor := or_bit (l.getD (i / 32) 0) (i % 32) h0.symm
  refine ⟨Nat.or_lt_two_pow (n := 32) hx hp, ?_⟩
  rw [hor, Nat.mul_add] at hvs
  rw [hor]
  have e : 4294967296 ^ (i / 32) * 2 ^ (i % 32) = 2 ^ i := by
    rw [two_pow32, ← Nat.pow_add]
    congr 1
    omega
  rw [e] at hvs
  omega
/-- What holds at each round of split. -/
structure SpI (w0 w : World) (n m V B j : Nat) (lq lr : List Nat) : Prop where
  q : w.ownsRow w0.heap.size 47 1 (.slice (some ⟨w0.heap.size, 0, none⟩) n n) n (limC lq)
  r : w.ownsRow w0.heap.size 47 1 (.slice (some ⟨w0.heap.size + 1, 0, none⟩) m m) m (limC lr)
  ql : Limbs lq
  rl : Limbs lr
  qv : valL lq = V / 2 ^ j / B * 2 ^ j
  rv : valL lr = V / 2 ^ j % B
  bl : Below w0.heap.size w0 w
set_option maxRecDepth 100000 in
set_option maxHeartbeats 8000000 in
theorem split_any (A A' : Option Addr) (n c n' c' : Nat) (a b : List Nat) (w : World) (hn : n ≤ 20000) (hn' : n' ≤ 20000) (hc : n ≤ c) (hc' : n' ≤ c') (ha : Limbs a) (hb : Limbs b) (hB : 0 < valL b) (h : Rd w w.heap.size 1 A n (limC a)) (h' : Rd w w.heap.size 1 A' n' (limC b)) :
    Calls Try.prog 45 #[.slice A n c, .slice A' n' c'] w (SplitP (valL a) (valL b) w) := by
  have hl : a.length = n := by have := h.1; simpa using this
  have hl' : b.length = n' := by have := h'.1; simpa using this
  obtain ⟨k, hk⟩ : ∃ k, k = trimN b n' := ⟨_, rfl⟩
  have hkn : k ≤ n' := by rw [hk]; exact trimN_le _ _
  have hp := h'.pre hkn
  have ht : trimL b = b.take k := by unfold trimL; rw [hl', hk]
  have hv := trimL_val b
  have hyl := trimL_limbs hb
  rw [← ht] at hp
  have hll := trimL_len b
  rw [hl', ← hk] at hll
  rw [← hv] at hB ⊢
  generalize trimL b = y at *
  have hmk1 := fun w => make_nat w n (by omega)
  have hmk2 : ∀ w, (Instr.makeSlice 25 (.int .i64 ((k : Int) + 1)) (.int .i64 ((k : Int) + 1))).run Try.prog w = .ok (.slice (some ⟨w.heap.size, 0, none⟩) (k + 1) (k + 1)) (w.alloc (.cells (Array.replicate (k + 1) (.int .u32 0)) 47)) := fun w => by
    rw [show (k : Int) + 1 = ((k + 1 : Nat) : Int) by omega]; exact make_nat w (k + 1) (by omega)
  have H := Lib.hid h; have H' := Lib.hid h'; have HP := Lib.hid hp; have HA := Lib.hid ha; have HY := Lib.hid hyl; have HB := Lib.hid hB; have HK := Lib.hid hk; have HL := Lib.hid hl; have HLL := Lib.hid hll
  have hkc : k ≤ c' := by omega
  clear h h' hp ha hyl hB hk hl hl' hv hll ht hb
  go_enter Try.func45, Try.ntmps45
  go_wp2_with fail
  refine (trim_any A' n' c' w.heap.size b _ (by omega) hc' H'.out).mono ?_
  rintro e w' ⟨rfl, rfl⟩
  rw [← HK.out]
  have hb0 : Below w.heap.size w ((w.alloc (.cells (Array.replicate n (.int .u32 0)) 47)).alloc (.cells (Array.replicate (k + 1) (.int .u32 0)) 47)) := ((Below.refl _ _).alloc (Nat.le_refl _) _).alloc (by simp) _
  have hq0 := own_new w (Array.replicate n (.int .u32 0)) 47 n (by simp) (by omega)
  have hr0 := own_new (w.alloc (.cells (Array.replicate n (.int .u32 0)) 47)) (Array.replicate (k + 1) (.int .u32 0)) 47 (k + 1) (by simp) (by omega)
  have HQ0 : Hid (((w.alloc (.cells (Array.replicate n (.int .u32 0)) 47)).alloc (.cells (Array.replicate (k + 1) (.int .u32 0)) 47)).ownsRow w.heap.size 47 1 (.slice (some ⟨w.heap.size, 0, none⟩) n n) n (limC (List.replicate n 0))) := Lib.hid (by simpa using hq0.alloc _)
  have HR0 : Hid (((w.alloc (.cells (Array.replicate n (.int .u32 0)) 47)).alloc (.cells (Array.replicate (k + 1) (.int .u32 0)) 47)).ownsRow w.heap.size 47 1 (.slice (some ⟨w.heap.size + 1, 0, none⟩) (k + 1) (k + 1)) (k + 1) (limC (List.replicate (k + 1) 0))) := Lib.hid (by
    have := ownsRow_mono hr0 (show w.heap.size ≤ _ by simp)
    simpa using this)
  have HB0 := Lib.hid hb0
  clear hb0 hq0 hr0
  go_wp2_with fail
  clear hmk1 hmk2
  generalize (w.alloc (.cells (Array.replicate n (.int .u32 0)) 47)).alloc (.cells (Array.replicate (k + 1) (.int .u32 0)) 47) = w2 at HQ0 HR0 HB0 ⊢
  refine (size_of A n c a _ (by omega) hc HA.out (H.out.pastN HB0.out HB0.out.size)).mono ?_
  rintro e w3 ⟨⟨sz, hsz, hsn, rfl⟩, rfl⟩
  have HI0 : Hid (SpI w w2 n (k + 1) (valL a) (valL y) sz (List.replicate n 0) (List.replicate (k + 1) 0)) := Lib.hid (by
    have h0 : valL a / 2 ^ sz = 0 := Nat.div_eq_of_lt hsz.1
    exact ⟨HQ0.out, HR0.out, Limbs.zeros _, Limbs.zeros _, by rw [valL_zeros, h0]; simp, by rw [valL_zeros, h0]; simp, HB0.out⟩)
  clear hsz HQ0 HR0 HB0
  go_wp2_with fail
  go_loopw [8] (fun i wr => ∃ (j : Nat) (I : Int) (lq lr : List Nat), j ≤ sz ∧ i = .int .i64 I ∧ I = (j : Int) - 1 ∧ SpI w wr n (k + 1) (valL a) (valL y) j lq lr) (fun i _ => (intOf i + 1).toNat)
  case atStart => exact ⟨sz, (sz : Int) - 1, _, _, Nat.le_refl _, rfl, rfl, HI0.out⟩
  case round =>
    obtain ⟨j, I, lq, lr, hj, rfl, hI, hS⟩ := hrel
    obtain ⟨wa, rfl⟩ : ∃ z : World, z = wr := ⟨_, rfl⟩
    have HS := Lib.hid hS
    clear hS HI0
    rcases Nat.eq_zero_or_pos j with h0 | h0
    · subst h0
      obtain rfl : I = -1 := by omega
      clear hI
      have HQL : Hid (lq.length = n) := Lib.hid (by have := HS.out.q.1; simpa using this)
      go_wp2_with fail
      refine (trim_any (some ⟨w.heap.size, 0, none⟩) n n wa.heap.size lq _ (by omega) (Nat.le_refl _) (Rd.own HS.out.q)).mono ?_
      rintro e w5 ⟨rfl, rfl⟩
      go_wp2_with fail
      refine (clone_any (some ⟨w.heap.size + 1, 0, none⟩) (k + 1) (k + 1) lr _ (by omega) (Nat.le_refl _) (Rd.own HS.out.r)).mono ?_
      rintro e w6 ⟨A2, n2, c2, rfl, hn2, hc2, ho2, hb2⟩
      have HN2 := Lib.hid hn2; have HO2 := Lib.hid ho2; have HB2 := Lib.hid hb2; have HC2 := Lib.hid hc2
      clear hn2 ho2 hb2 hc2
      go_wp2_with fail
      go_ret2
      have hq := ownsRow_below (own_pre HS.out.q (trimN_le lq n)) HB2.out (Nat.le_refl _)
      have ht : trimL lq = lq.take (trimN lq n) := by unfold trimL; rw [HQL.out]
      refine ⟨_, trimN lq n, n, A2, n2, c2, rfl, ⟨⟨trimL lq, trimL_limbs HS.out.ql, trimL_nrm lq, by rw [trimL_val, HS.out.qv]; simp, by rw [trimL_len, HQL.out], ?_⟩, trimN_le _ _⟩, ⟨⟨trimL lr, trimL_limbs HS.out.rl, trimL_nrm lr, by rw [trimL_val, HS.out.rv]; simp, HN2.out, ownsRow_mono HO2.out HS.out.bl.size⟩, HC2.out⟩, bnextN HS.out.bl HB2.out⟩
      rw [ht, show limC (lq.take (trimN lq n)) = (limC lq).take (trimN lq n) from List.map_take]
      exact hq
    · obtain ⟨i, rfl⟩ : ∃ i, j = i + 1 := ⟨j - 1, by omega⟩
      obtain rfl : I = (i : Int) := by omega
      clear hI h0
      have hi0 : (0 : Int) ≤ (i : Int) := by omega
      have hbw : w.heap.size ≤ wa.heap.size := HS.out.bl.size
      obtain ⟨hst1, hst2⟩ := split_step (valL a) (valL y) i HB.out
      have hbit : bitV (valL a) i ≤ 1 := by unfold bitV; omega
      have hrlt : valL lr < valL y := by rw [HS.out.rv]; exact Nat.mod_lt _ HB.out
      rw [← HS.out.qv] at hst1
      rw [← HS.out.rv] at hst1 hst2
      have HS1 := Lib.hid hst1; have HS2 := Lib.hid hst2; have HBT := Lib.hid hbit
      have HFIT : Hid (2 * valL lr + bitV (valL a) i < 4294967296 ^ (k + 1)) := Lib.hid (by
        have h1 := valL_lt HY.out
        rw [HLL.out] at h1
        rw [Nat.pow_succ]
        omega)
      clear hst1 hst2 hrlt hbit
      go_wp2_with fail
      refine (bit_any A n c i wa.heap.size a _ (by omega) (by omega) HA.out (H.out.pastN HS.out.bl HS.out.bl.size)).mono ?_
      rintro e w' ⟨rfl, rfl⟩
      go_wp2_with fail
      refine (double_any (w.heap.size + 1) (k + 1) (k + 1) w.heap.size (bitV (valL a) i) _ lr _ (by omega) rfl HBT.out HS.out.rl HFIT.out HS.out.r).mono ?_
      rintro e w4 ⟨rfl, ⟨lr2, hl2, hll2, hv2, ho2⟩, hg4⟩
      have HV2 := Lib.hid hv2; have HL2 := Lib.hid hl2; have HO2 := Lib.hid ho2
      have HQ4 := Lib.hid (ownsRow_grown HS.out.q hg4 (fun g hg e => by simp only [Value.ownBlock, Option.some.injEq] at hg e; omega))
      have HB4 := Lib.hid (HS.out.bl.grown hg4 hbw (fun g hg => by injection hg with hg; omega))
      obtain ⟨t, ht⟩ : ∃ t, t = 2 * valL lr + bitV (valL a) i := ⟨_, rfl⟩
      rw [← ht] at HS1 HS2 HV2
      clear hl2 hll2 hv2 ho2 hg4 ht
      go_wp2_with fail
      refine (order_any (some ⟨w.heap.size + 1, 0, none⟩) A' (k + 1) (k + 1) k c' lr2 y _ (by omega) (by omega) (Nat.le_refl _) hkc HL2.out HY.out (Rd.own HO2.out) (HP.out.pastN HB4.out HB4.out.size)).mono ?_
      rintro e w5 ⟨rfl, hq5⟩
      rw [HV2.out]
      have HQ5 := Lib.hid (ownsRow_below HQ4.out (hq5.below _) (Nat.le_refl _)); have HR5 := Lib.hid (ownsRow_below HO2.out (hq5.below _) (Nat.le_refl _)); have HB5 := Lib.hid (bnextN HB4.out (hq5.below _))
      clear hq5
      by_cases hge : valL y ≤ t
      · have hor : (0 : Int) ≤ ordI t (valL y) := by unfold ordI; rw [if_neg (by omega)]; split <;> omega
        generalize ordI t (valL y) = O at hor ⊢
        have H1 : Hid (valL a / 2 ^ i / valL y * 2 ^ i = valL lq + 2 ^ i) := Lib.hid (by have := HS1.out; rwa [if_pos hge] at this)
        have H2 : Hid (valL a / 2 ^ i % valL y = t - valL y) := Lib.hid (by have := HS2.out; rwa [if_pos hge] at this)
        have HGE := Lib.hid hge
        clear hge
        go_wp2_with fail
        refine (minus_any (some ⟨w.heap.size + 1, 0, none⟩) A' (k + 1) (k + 1) k c' lr2 y _ (by omega) (by omega) HL2.out HY.out (by rw [HV2.out]; exact HGE.out) (Rd.own HR5.out) (HP.out.pastN HB5.out HB5.out.size)).mono ?_
        rintro e w6 ⟨d, hdl, hdn, hdv, A6, n6, c6, rfl, hn6, hc6, ho6, hb6⟩
        have HN6 := Lib.hid hn6; have HO6 := Lib.hid ho6; have HC6 := Lib.hid hc6
        have HQ6 := Lib.hid (ownsRow_below HQ5.out hb6 (Nat.le_refl _)); have HR6 := Lib.hid (ownsRow_below HR5.out hb6 (Nat.le_refl _)); have HB6 := Lib.hid (bnextN HB5.out hb6)
        have hclr : ∀ ty, (Builtin.clear_ #[25] ty #[.slice (some ⟨w.heap.size + 1, 0, none⟩) (k + 1) (k + 1)]).run Try.prog w6 = .ok (.tuple #[]) (w6.setCells (w.heap.size + 1) 0 (List.replicate (k + 1) (.int .u32 0))) := fun ty =>
          Lib.run_clear_slice w6 25 47 ty (.int .u32 0) (by kernel_rfl) (fun _ => rfl) rfl rfl _ 0 _ _ (by omega) (fun j hj => by rw [Nat.zero_add, HR6.out.cellAt j (by omega)]; rw [List.getElem?_eq_getElem (by have := HR6.out.1; omega)]; rfl) (fun j hj => by rw [Nat.zero_add]; exact HR6.out.frozenAt j)
        obtain ⟨ho7, hg7⟩ := own_setCells (.int .u32 0) (k + 1) 0 w6 _ (by omega) HR6.out
        have HR7 := Lib.hid ho7
        have HQ7 := Lib.hid (ownsRow_grown HQ6.out hg7 (fun g hg e => by simp only [Value.ownBlock, Option.some.injEq] at hg e; omega))
        have HB7 := Lib.hid (HB6.out.grown hg7 HB6.out.size (fun g hg => by injection hg with hg; omega))
        have HO7 := Lib.hid (ownsRow_grown HO6.out hg7 (fun g hg e => by have h1 := own_base HO6.out hg; have h2 := own_in HR5.out; simp only [Option.some.injEq] at e; omega))
        have hdk : d.length ≤ k := by
          rcases Nat.lt_or_ge k d.length with hkd | hkd
          · exfalso
            have h1 := len_lt HY.out hdn (by rw [HLL.out]; exact hkd)
            have h2 : t - valL y < valL y := by rw [← H2.out]; exact Nat.mod_lt _ HB.out
            rw [hdv, HV2.out] at h1
            omega
          · exact hkd
        have HDN := Lib.hid hdn; have HDV := Lib.hid hdv; have HDL := Lib.hid hdl
        have HG7 := Lib.hid (own_heap HR7.out)
        obtain ⟨cs, hcs⟩ : ∃ cs, cs = limC d := ⟨_, rfl⟩
        have hcl : cs.length = d.length := by rw [hcs]; simp [limC]
        have HCL : Hid (cs.length = Nat.min n6 (k + 1)) := Lib.hid (by rw [hcl, HN6.out]; exact (Nat.min_eq_left (by omega)).symm)
        have HCF : Hid (0 + cs.length ≤ (List.take 0 (limC lr2) ++ List.replicate (k + 1) (Value.int .u32 0)).length) := Lib.hid (by simp; omega)
        have HC1 : Hid (∀ v ∈ cs, v.oneCell' = true) := Lib.hid (by rw [hcs]; exact oneCell_map (fun _ => rfl))
        have HCP : Hid (0 < cs.length → ∃ ad, A6 = some ad ∧ ∀ j v, cs[j]? = some v → (w6.setCells (w.heap.size + 1) 0 (List.replicate (k + 1) (.int .u32 0))).cell? (ad.add j) = some v) := Lib.hid (fun h0 => by
          obtain ⟨b, off, hA, _, hcc⟩ := (Rd.own HO7.out).2 (by have := HN6.out; omega)
          exact ⟨_, hA, fun j v hj => by rw [addr_add]; exact hcc j v (by rw [← hcs]; exact hj)⟩)
        have HCS := Lib.hid hcs; have HDK := Lib.hid hdk; have HCLD := Lib.hid hcl
        clear ho7 hg7 hn6 hc6 ho6 hb6 hdn hdv hdl hcs hdk hcl
        go_wp2_with (with_reducible refine wpList_copy_splice rfl _ _ _ _ rfl 47 (by kernel_rfl) (by kernel_rfl) _ _ _ _ _ _ rfl rfl (w.heap.size + 1) 0 _ 47 HG7.out cs HCL.out (fun h0 => ⟨rfl, HCP.out h0⟩) HCF.out HC1.out (w.heap.size + 1) _ (Below.refl _ _) (Nat.le_refl _) ?_; intro w8 HG hb8)
        have HB8 := Lib.hid (HB7.out.trans (hb8.mono (Nat.le_succ _)))
        have hqh := own_heap HQ7.out
        have hnm : n ≤ 1099511627776 := by omega
        have hqi := own_in HQ7.out
        have HQ8 : Hid (w8.ownsRow w.heap.size 47 1 (.slice (some ⟨w.heap.size, 0, none⟩) n n) n (limC lq)) := Lib.hid (own_lim (by rw [hb8.block _ (by omega)]; exact hqh) (by have := HQ7.out.1; omega) hnm (Nat.le_refl _))
        have hrl3 : Limbs (d ++ List.replicate (k + 1 - d.length) 0) := (fun x hx => by rcases List.mem_append.1 hx with h | h; exact HDL.out x h; exact Limbs.zeros _ x h)
        have hrv3 : valL (d ++ List.replicate (k + 1 - d.length) 0) = t - valL y := by rw [valL_append, valL_zeros, HDV.out, HV2.out]; simp
        have HR8 : Hid (w8.ownsRow w.heap.size 47 1 (.slice (some ⟨w.heap.size + 1, 0, none⟩) (k + 1) (k + 1)) (k + 1) (limC (d ++ List.replicate (k + 1 - d.length) 0))) := Lib.hid (by
          have hg := HG.out
          have e : splice (List.take 0 (limC lr2) ++ List.replicate (k + 1) (Value.int .u32 0)) 0 cs = limC (d ++ List.replicate (k + 1 - d.length) 0) := by
            unfold splice
            rw [List.take_zero, List.take_zero, List.nil_append, List.nil_append, Nat.zero_add, HCLD.out, List.drop_replicate, HCS.out]
            simp [limC]
          rw [e] at hg
          exact own_lim hg (by simp [limC]; have := HDK.out; omega) (by omega) (Nat.le_succ _))
        have HRL := Lib.hid hrl3; have HRV := Lib.hid hrv3
        have hql : lq.length = n := by have := HQ8.out.1; simpa [limC] using this
        have hi32 : i / 32 < n := by omega
        obtain ⟨hb1, hb2⟩ := set_bit HS.out.ql (by rw [hql]; exact hi32) HS.out.qv
        have hx := HS.out.ql.getD (i / 32)
        have r1 : w8.cell? ⟨w.heap.size, i / 32, none⟩ = some (.int .u32 (lq.getD (i / 32) 0 : Nat)) := by
          rw [HQ8.out.cellAt (i / 32) (by omega), List.getElem?_map, List.getElem?_eq_getElem (by omega), List.getD_eq_getElem?_getD, List.getElem?_eq_getElem (by omega)]; rfl
        have f1 := HQ8.out.frozenAt (i / 32)
        have HSV := Lib.hid hb2; have HSL : Hid (Limbs (lq.set (i / 32) (lq.getD (i / 32) 0 ||| 2 ^ (i % 32)))) := Lib.hid (HS.out.ql.set hb1)
        obtain ⟨hs1, hs2⟩ := HQ8.out.stored (i / 32) (.int .u32 ((lq.getD (i / 32) 0 ||| 2 ^ (i % 32) : Nat) : Int))
        have e1 : (limC lq).set (i / 32) (.int .u32 ((lq.getD (i / 32) 0 ||| 2 ^ (i % 32) : Nat) : Int)) = limC (lq.set (i / 32) (lq.getD (i / 32) 0 ||| 2 ^ (i % 32))) := by unfold limC; rw [List.map_set]
        rw [e1] at hs1
        generalize lq.set (i / 32) (lq.getD (i / 32) 0 ||| 2 ^ (i % 32)) = lq2 at hs1 HSV HSL
        have hgr : w8.grownBy (w8.setCell ⟨w.heap.size, i / 32, none⟩ (.int .u32 ((lq.getD (i / 32) 0 ||| 2 ^ (i % 32) : Nat) : Int))) (some w.heap.size) := grown_set (World.grownBy.refl _ _) _ _
        have HR9 := Lib.hid (ownsRow_grown HR8.out hgr (fun g hg e => by simp only [Value.ownBlock, Option.some.injEq] at hg e; omega))
        have HB9 := Lib.hid (HB8.out.grown hgr HB8.out.size (fun g hg => by injection hg with hg; omega))
        have hpw : 2 ^ (i % 32) < 4294967296 := Nat.pow_lt_pow_right (n := 32) (by decide) (Nat.mod_lt _ (by decide))
        have HQ9 := Lib.hid hs1
        generalize lq.getD (i / 32) 0 = x at *
        have HOR := u32_or_n x (2 ^ (i % 32)) hx hpw
        obtain ⟨pI, hpI⟩ : ∃ pI : Int, pI = ((2 ^ (i % 32) : Nat) : Int) := ⟨_, rfl⟩
        obtain ⟨xI, hxI⟩ : ∃ xI : Int, xI = (x : Int) := ⟨_, rfl⟩
        obtain ⟨zI, hzI⟩ : ∃ zI : Int, zI = ((x ||| 2 ^ (i % 32) : Nat) : Int) := ⟨_, rfl⟩
        rw [← hpI, ← hxI, ← hzI] at HOR
        rw [← hxI] at r1
        rw [← hzI] at HQ9 HR9 HB9
        have hsl : IntKind.u32.wrap (2 ^ (i % 32)) = pI := by
          have h1 : ∀ p : Nat, p < 4294967296 → IntKind.u32.wrap (p : Int) = (p : Int) := fun p hp => by rw [IntKind.wrap_u32]; omega
          have h2 : ((2 : Int) ^ (i % 32)) = ((2 ^ (i % 32) : Nat) : Int) := by simp
          rw [h2, h1 _ hpw, hpI]
        have j1 : (0 : Int) ≤ (i : Int) / 32 := by omega
        have j2 : (i : Int) / 32 < (n : Int) := by omega
        have j3 : ((i : Int) / 32).toNat = i / 32 := by omega
        have j4 : (0 : Int) ≤ (i : Int) % 32 := by omega
        have hwq : IntKind.i64.wrap ((i : Int) / 32) = (i : Int) / 32 := by rw [IntKind.wrap_i64]; omega
        have hwr : IntKind.i64.wrap ((i : Int) % 32) = (i : Int) % 32 := by rw [IntKind.wrap_i64]; omega
        have htm : Int.tmod (i : Int) 32 = (i : Int) % 32 := Int.tmod_eq_emod_of_nonneg hi0
        have htn : ((i : Int) % 32).toNat = i % 32 := by omega
        clear hrl3 hrv3 hqh hqi hb8 hs1 hs2 e1 hgr hb1 hb2 hx hpw hpI hxI hzI hql
        go_wp2_with fail
        go_region
        go_wp2_with fail
        go_roundw
        case rel => exact ⟨i, (i : Int) - 1, lq2, _, by omega, rfl, rfl, HQ9.out, HR9.out, HSL.out, HRL.out, by rw [HSV.out, H1.out], by rw [HRV.out, H2.out], HB9.out.drew⟩
        case measure => simp [intOf]
      · have hor : ¬ (0 : Int) ≤ ordI t (valL y) := by unfold ordI; rw [if_pos (by omega)]; omega
        generalize ordI t (valL y) = O at hor ⊢
        have H1 : Hid (valL a / 2 ^ i / valL y * 2 ^ i = valL lq) := Lib.hid (by have := HS1.out; rw [if_neg hge] at this; omega)
        have H2 : Hid (valL a / 2 ^ i % valL y = t) := Lib.hid (by have := HS2.out; rwa [if_neg hge] at this)
        clear hge
        go_wp2_with fail
        go_roundw
        case rel => exact ⟨i, (i : Int) - 1, lq, lr2, by omega, rfl, rfl, HQ5.out, HR5.out, HS.out.ql, HL2.out, H1.out.symm, by rw [HV2.out, H2.out], HB5.out⟩
        case measure => simp [intOf]
#print axioms split_any
end Go.Proofs.Ytncjmndiafgaaaa
