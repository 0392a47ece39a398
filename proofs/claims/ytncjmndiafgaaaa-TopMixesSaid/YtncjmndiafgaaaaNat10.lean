/- Laws for split: a row that is cleared, a bit that is set. Conditions: as each statement says. -/
import Derived.Test.YtncjmndiafgaaaaNat2
import Derived.Lib.SliceRun
namespace Go.Proofs.Ytncjmndiafgaaaa
open Go.RowKit
set_option linter.unusedVariables false
theorem own_setCells {base g n c : Nat} {t : TypeId} (z : Value) : ∀ (m k : Nat) (w : World) (xs : List Value), k + m = n → w.ownsRow base t 1 (.slice (some ⟨g, 0, none⟩) n c) n xs → (w.setCells g k (List.replicate m z)).ownsRow base t 1 (.slice (some ⟨g, 0, none⟩) n c) n (xs.take k ++ List.replicate m z) ∧ w.grownBy (w.setCells g k (List.replicate m z)) (some g)
  | 0, k, w, xs, hk, h => by
    have hl : xs.length = n := by have := h.1; omega
    refine ⟨?_, World.grownBy.refl _ _⟩
    rw [List.replicate_zero, List.append_nil, List.take_of_length_le (by omega)]
    exact h
  | m + 1, k, w, xs, hk, h => by
    have hl : xs.length = n := by have := h.1; omega
    have h1 := (h.stored k z).1
    obtain ⟨a, b⟩ := own_setCells z m (k + 1) (w.setCell ⟨g, k, none⟩ z) (xs.set k z) (by omega) h1
    have e : (xs.set k z).take (k + 1) ++ List.replicate m z = xs.take k ++ List.replicate (m + 1) z := by
      have hk2 : k < (xs.set k z).length := by rw [List.length_set]; omega
      rw [take_snoc _ _ hk2, List.getElem_set_self, List.take_set_of_le (Nat.le_refl k), List.append_assoc, List.replicate_succ]; rfl
    rw [e] at a
    refine ⟨a, ?_⟩
    have hs : w.grownBy (w.setCell ⟨g, k, none⟩ z) (some g) := grown_set (World.grownBy.refl _ _) k z
    exact ⟨b.os.trans hs.os, b.tape.trans hs.tape, b.output.trans hs.output, Nat.le_trans hs.size b.size, fun j h1 h2 => (b.block j (Nat.lt_of_lt_of_le h1 hs.size) h2).trans (hs.block j h1 h2)⟩
theorem or_bit (x r : Nat) (h : x / 2 ^ r % 2 = 0) : x ||| 2 ^ r = x + 2 ^ r := by
  apply Nat.eq_of_testBit_eq
  intro i
  have hx : x = 2 ^ (r + 1) * (x / 2 ^ (r + 1)) + x % 2 ^ (r + 1) := (Nat.div_add_mod x (2 ^ (r + 1))).symm
  have hm : x % 2 ^ (r + 1) < 2 ^ r := by
    have h1 : x % 2 ^ (r + 1) = x % 2 ^ r + 2 ^ r * (x / 2 ^ r % 2) := Nat.mod_pow_succ
    rw [h, Nat.mul_zero, Nat.add_zero] at h1
    rw [h1]; exact Nat.mod_lt _ (Nat.pow_pos (by decide))
  have e : x + 2 ^ r = 2 ^ (r + 1) * (x / 2 ^ (r + 1)) + (x % 2 ^ (r + 1) + 2 ^ r) := by omega
  have hps : 2 ^ (r + 1) = 2 * 2 ^ r := by rw [Nat.pow_succ, Nat.mul_comm]
  have hlt : x % 2 ^ (r + 1) + 2 ^ r < 2 ^ (r + 1) := by omega
  have hl2 : x % 2 ^ (r + 1) < 2 ^ (r + 1) := by omega
  have e3 : x % 2 ^ (r + 1) + 2 ^ r = 2 ^ r ||| x % 2 ^ (r + 1) := by
    have := Nat.two_pow_add_eq_or_of_lt hm 1
    rw [Nat.mul_one] at this
    rw [← this]; omega
  have e4 : x + 2 ^ r = 2 ^ (r + 1) * (x / 2 ^ (r + 1)) ||| (2 ^ r ||| x % 2 ^ (r + 1)) := by
    rw [e, Nat.two_pow_add_eq_or_of_lt hlt, e3]
  have e5 : x = 2 ^ (r + 1) * (x / 2 ^ (r + 1)) ||| x % 2 ^ (r + 1) := by
    rw [← Nat.two_pow_add_eq_or_of_lt hl2]; exact hx
  rw [e4]
  conv => lhs; rw [e5]
  simp only [Nat.testBit_or]
  cases (2 ^ (r + 1) * (x / 2 ^ (r + 1))).testBit i <;> cases (x % 2 ^ (r + 1)).testBit i <;> cases (2 ^ r).testBit i <;> rfl
/-- One step of the division, bit by bit. -/
theorem split_step (V B i : Nat) (hB : 0 < B) : (V / 2 ^ i / B) * 2 ^ i = (V / 2 ^ (i + 1) / B) * 2 ^ (i + 1) + (if B ≤ 2 * (V / 2 ^ (i + 1) % B) + bitV V i then 2 ^ i else 0) ∧
    V / 2 ^ i % B = if B ≤ 2 * (V / 2 ^ (i + 1) % B) + bitV V i then 2 * (V / 2 ^ (i + 1) % B) + bitV V i - B else 2 * (V / 2 ^ (i + 1) % B) + bitV V i := by
  have h0 : V / 2 ^ (i + 1) = V / 2 ^ i / 2 := by rw [Nat.pow_succ, Nat.div_div_eq_div_mul]
  have h1 : V / 2 ^ i = 2 * (V / 2 ^ (i + 1)) + bitV V i := by unfold bitV; rw [h0]; omega
  have hb : bitV V i < 2 := Nat.mod_lt _ (by decide)
  generalize V / 2 ^ (i + 1) = W at *
  generalize bitV V i = b at *
  rw [h1]
  have hdm := Nat.div_add_mod W B
  have hml := Nat.mod_lt W hB
  generalize W / B = q at *
  generalize W % B = r at *
  subst hdm
  have e1 : 2 * (B * q + r) + b = (2 * r + b) + B * (2 * q) := by rw [Nat.mul_add, Nat.mul_left_comm]; omega
  rw [e1, Nat.add_mul_div_left _ _ hB, Nat.add_mul_mod_self_left, Nat.pow_succ]
  by_cases h : B ≤ 2 * r + b
  · rw [if_pos h, if_pos h]
    have hd : (2 * r + b) / B = 1 := by rw [Nat.div_eq_of_lt_le] <;> omega
    have hm : (2 * r + b) % B = 2 * r + b - B := by rw [Nat.mod_eq_sub_mod h, Nat.mod_eq_of_lt (by omega)]
    rw [hd, hm]
    refine ⟨?_, rfl⟩
    rw [Nat.add_mul, Nat.one_mul, Nat.mul_comm 2 q, Nat.mul_assoc, Nat.mul_comm 2]; omega
  · rw [if_neg h, if_neg h]
    rw [Nat.div_eq_of_lt (by omega), Nat.mod_eq_of_lt (by omega)]
    refine ⟨?_, rfl⟩
    rw [Nat.zero_add, Nat.mul_comm 2 q, Nat.mul_assoc, Nat.mul_comm 2]; omega
end Go.Proofs.Ytncjmndiafgaaaa
/- The contract of split. Conditions: as each statement says. -/
namespace Go.Proofs.Ytncjmndiafgaaaa
open Go.RowKit
set_option linter.unusedVariables false
/-- A new number among a call's results. -/
structure NatOwn (w w' : World) (A : Option Addr) (n c : Nat) (v : Nat) : Prop where
  ex : ∃ l, Limbs l ∧ Nrm l ∧ valL l = v ∧ n = l.length ∧ w'.ownsRow w.heap.size 47 1 (.slice A n c) n (limC l)
  nc : n ≤ c
def SplitP (V B : Nat) (w : World) (e : Ending) (w' : World) : Prop := ∃ A1 n1 c1 A2 n2 c2, e = .returned (.tuple #[.slice A1 n1 c1, .slice A2 n2 c2]) ∧ NatOwn w w' A1 n1 c1 (V / B) ∧ NatOwn w w' A2 n2 c2 (V % B) ∧ Below w.heap.size w w'
theorem bnextN {w0 w w' : World} (h : Below w0.heap.size w0 w) (hb : Below w.heap.size w w') : Below w0.heap.size w0 w' := h.trans (hb.mono h.size)
theorem Rd.pastN {w w' : World} {B sz n : Nat} {A : Option Addr} {xs : List Value} (h : Rd w B sz A n xs) (hb : Below B w w') (hs : B ≤ w'.heap.size) : Rd w' w'.heap.size sz A n xs := (h.below hb).mono hs
theorem own_base {w : World} {base t sz n g : Nat} {A : Option Addr} {m c : Nat} {xs : List Value} (h : w.ownsRow base t sz (.slice A m c) n xs) (hg : (Value.slice A m c).ownBlock = some g) : base ≤ g := by
  rcases h.2 with ⟨h1, _⟩ | ⟨g', cap, cur, hv, hb, _⟩
  · rw [h1] at hg; cases hg
  · rw [hv] at hg; simp only [Value.ownBlock, Option.some.injEq] at hg; omega
theorem own_in {w : World} {base g n c m : Nat} {t : TypeId} {sz : Nat} {xs : List Value} (h : w.ownsRow base t sz (.slice (some ⟨g, 0, none⟩) m c) n xs) : g < w.heap.size := by
  rcases h.2 with ⟨h1, _⟩ | ⟨g', cap, cur, hv, hb, hg, _⟩
  · cases h1
  · injection hv with e1 _ _; injection e1 with e1; injection e1 with e1; subst e1; exact (Array.getElem?_eq_some_iff.1 hg).1
theorem own_heap {w : World} {base g n : Nat} {t : TypeId} {xs : List Value} (h : w.ownsRow base t 1 (.slice (some ⟨g, 0, none⟩) n n) n xs) : w.heap[g]? = some (.cells xs.toArray t (0, 0)) := by
  rcases h.2 with ⟨h1, _⟩ | ⟨g', cap, cur, hv, hb, hg, h1, h2, h3, h4⟩
  · cases h1
  · injection hv with e1 _ e3; injection e1 with e1; injection e1 with e1; subst e1; subst e3
    have : cur.toList = xs := by rw [← h4, List.take_of_length_le (by simp; omega)]
    rw [hg, ← this]
/-- A clear bit, set. -/
theorem set_bit {l : List Nat} {i m : Nat} (hl : Limbs l) (hi : i / 32 < l.length) (hv : valL l = m * 2 ^ (i + 1)) :
    l.getD (i / 32) 0 ||| 2 ^ (i % 32) < 4294967296 ∧ valL (l.set (i / 32) (l.getD (i / 32) 0 ||| 2 ^ (i % 32))) = valL l + 2 ^ i := by
  have h0 := bit_at hl hi
  have hz : bitV (valL l) i = 0 := by
    unfold bitV
    rw [hv, Nat.pow_succ, Nat.mul_comm (2 ^ i) 2, ← Nat.mul_assoc, Nat.mul_div_cancel _ (Nat.pow_pos (by decide))]; omega
  rw [hz] at h0
  have hx := hl.getD (i / 32)
  have hp : 2 ^ (i % 32) < 2 ^ 32 := Nat.pow_lt_pow_right (by decide) (Nat.mod_lt _ (by decide))
  have hvs := val_set l (i / 32) (l.getD (i / 32) 0 ||| 2 ^ (i % 32)) hi
  have hor := or_bit (l.getD (i / 32) 0) (i % 32) h0.symm
  refine ⟨Nat.or_lt_two_pow (n := 32) hx hp, ?_⟩
  rw [hor, Nat.mul_add] at hvs
  rw [hor]
  have e : 4294967296 ^ (i / 32) * 2 ^ (i % 32) = 2 ^ i := by
    rw [two_pow32, ← Nat.pow_add]
    congr 1
    omega
  rw [e] at hvs
  omega
/-- What holds at each round of split. -/
structure SpI (w0 w : World) (n m V B j : Nat) (lq lr : List Nat) : Prop where
  q : w.ownsRow w0.heap.size 47 1 (.slice (some ⟨w0.heap.size, 0, none⟩) n n) n (limC lq)
  r : w.ownsRow w0.heap.size 47 1 (.slice (some ⟨w0.heap.size + 1, 0, none⟩) m m) m (limC lr)
  ql : Limbs lq
  rl : Limbs lr
  qv : valL lq = V / 2 ^ j / B * 2 ^ j
  rv : valL lr = V / 2 ^ j % B
  bl : Below w0.heap.size w0 w
set_option maxRecDepth 100000 in
set_option maxHeartbeats 8000000 in
theorem split_any (A A' : Option Addr) (n c n' c' : Nat) (a b : List Nat) (w : World) (hn : n ≤ 20000) (hn' : n' ≤ 20000) (hc : n ≤ c) (hc' : n' ≤ c') (ha : Limbs a) (hb : Limbs b) (hB : 0 < valL b) (h : Rd w w.heap.size 1 A n (limC a)) (h' : Rd w w.heap.size 1 A' n' (limC b)) :
    Calls Try.prog 45 #[.slice A n c, .slice A' n' c'] w (SplitP (valL a) (valL b) w) := by
  have hl : a.length = n := by have := h.1; simpa using this
  have hl' : b.length = n' := by have := h'.1; simpa using this
  obtain ⟨k, hk⟩ : ∃ k, k = trimN b n' := ⟨_, rfl⟩
  have hkn : k ≤ n' := by rw [hk]; exact trimN_le _ _
  have hp := h'.pre hkn
  have ht : trimL b = b.take k := by unfold trimL; rw [hl', hk]
  have hv := trimL_val b
  have hyl := trimL_limbs hb
  rw [← ht] at hp
  have hll := trimL_len b
  rw [hl', ← hk] at hll
  rw [← hv] at hB ⊢
  generalize trimL b = y at *
  have hmk1 := fun w => make_nat w n (by omega)
  have hmk2 : ∀ w, (Instr.makeSlice 25 (.int .i64 ((k : Int) + 1)) (.int .i64 ((k : Int) + 1))).run Try.prog w = .ok (.slice (some ⟨w.heap.size, 0, none⟩) (k + 1) (k + 1)) (w.alloc (.cells (Array.replicate (k + 1) (.int .u32 0)) 47)) := fun w => by
    rw [show (k : Int) + 1 = ((k + 1 : Nat) : Int) by omega]; exact make_nat w (k + 1) (by omega)
  have H := Lib.hid h; have H' := Lib.hid h'; have HP := Lib.hid hp; have HA := Lib.hid ha; have HY := Lib.hid hyl; have HB := Lib.hid hB; have HK := Lib.hid hk; have HL := Lib.hid hl; have HLL := Lib.hid hll
  have hkc : k ≤ c' := by omega
  clear h h' hp ha hyl hB hk hl hl' hv hll ht hb
  go_enter Try.func45, Try.ntmps45
  go_wp2_with fail
  refine (trim_any A' n' c' w.heap.size b _ (by omega) hc' H'.out).mono ?_
  rintro e w' ⟨rfl, rfl⟩
  rw [← HK.out]
  have hb0 : Below w.heap.size w ((w.alloc (.cells (Array.replicate n (.int .u32 0)) 47)).alloc (.cells (Array.replicate (k + 1) (.int .u32 0)) 47)) := ((Below.refl _ _).alloc (Nat.le_refl _) _).alloc (by simp) _
  have hq0 := own_new w (Array.replicate n (.int .u32 0)) 47 n (by simp) (by omega)
  have hr0 := own_new (w.alloc (.cells (Array.replicate n (.int .u32 0)) 47)) (Array.replicate (k + 1) (.int .u32 0)) 47 (k + 1) (by simp) (by omega)
  have HQ0 : Hid (((w.alloc (.cells (Array.replicate n (.int .u32 0)) 47)).alloc (.cells (Array.replicate (k + 1) (.int .u32 0)) 47)).ownsRow w.heap.size 47 1 (.slice (some ⟨w.heap.size, 0, none⟩) n n) n (limC (List.replicate n 0))) := Lib.hid (by simpa using hq0.alloc _)
  have HR0 : Hid (((w.alloc (.cells (Array.replicate n (.int .u32 0)) 47)).alloc (.cells (Array.replicate (k + 1) (.int .u32 0)) 47)).ownsRow w.heap.size 47 1 (.slice (some ⟨w.heap.size + 1, 0, none⟩) (k + 1) (k + 1)) (k + 1) (limC (List.replicate (k + 1) 0))) := Lib.hid (by
    have := ownsRow_mono hr0 (show w.heap.size ≤ _ by simp)
    simpa using this)
  have HB0 := Lib.hid hb0
  clear hb0 hq0 hr0
  go_wp2_with fail
  clear hmk1 hmk2
  generalize (w.alloc (.cells (Array.replicate n (.int .u32 0)) 47)).alloc (.cells (Array.replicate (k + 1) (.int .u32 0)) 47) = w2 at HQ0 HR0 HB0 ⊢
  refine (size_of A n c a _ (by omega) hc HA.out (H.out.pastN HB0.out HB0.out.size)).mono ?_
  rintro e w3 ⟨⟨sz, hsz, hsn, rfl⟩, rfl⟩
  have HI0 : Hid (SpI w w2 n (k + 1) (valL a) (valL y) sz (List.replicate n 0) (List.replicate (k + 1) 0)) := Lib.hid (by
    have h0 : valL a / 2 ^ sz = 0 := Nat.div_eq_of_lt hsz.1
    exact ⟨HQ0.out, HR0.out, Limbs.zeros _, Limbs.zeros _, by rw [valL_zeros, h0]; simp, by rw [valL_zeros, h0]; simp, HB0.out⟩)
  clear hsz HQ0 HR0 HB0
  go_wp2_with fail
  go_loopw [8] (fun i wr => ∃ (j : Nat) (I : Int) (lq lr : List Nat), j ≤ sz ∧ i = .int .i64 I ∧ I = (j : Int) - 1 ∧ SpI w wr n (k + 1) (valL a) (valL y) j lq lr) (fun i _ => (intOf i + 1).toNat)
  case atStart => exact ⟨sz, (sz : Int) - 1, _, _, Nat.le_refl _, rfl, rfl, HI0.out⟩
  case round =>
    obtain ⟨j, I, lq, lr, hj, rfl, hI, hS⟩ := hrel
    obtain ⟨wa, rfl⟩ : ∃ z : World, z = wr := ⟨_, rfl⟩
    have HS := Lib.hid hS
    clear hS HI0
    rcases Nat.eq_zero_or_pos j with h0 | h0
    · subst h0
      obtain rfl : I = -1 := by omega
      clear hI
      have HQL : Hid (lq.length = n) := Lib.hid (by have := HS.out.q.1; simpa using this)
      go_wp2_with fail
      refine (trim_any (some ⟨w.heap.size, 0, none⟩) n n wa.heap.size lq _ (by omega) (Nat.le_refl _) (Rd.own HS.out.q)).mono ?_
      rintro e w5 ⟨rfl, rfl⟩
      go_wp2_with fail
      refine (clone_any (some ⟨w.heap.size + 1, 0, none⟩) (k + 1) (k + 1) lr _ (by omega) (Nat.le_refl _) (Rd.own HS.out.r)).mono ?_
      rintro e w6 ⟨A2, n2, c2, rfl, hn2, hc2, ho2, hb2⟩
      have HN2 := Lib.hid hn2; have HO2 := Lib.hid ho2; have HB2 := Lib.hid hb2; have HC2 := Lib.hid hc2
      clear hn2 ho2 hb2 hc2
      go_wp2_with fail
      go_ret2
      have hq := ownsRow_below (own_pre HS.out.q (trimN_le lq n)) HB2.out (Nat.le_refl _)
      have ht : trimL lq = lq.take (trimN lq n) := by unfold trimL; rw [HQL.out]
      refine ⟨_, trimN lq n, n, A2, n2, c2, rfl, ⟨⟨trimL lq, trimL_limbs HS.out.ql, trimL_nrm lq, by rw [trimL_val, HS.out.qv]; simp, by rw [trimL_len, HQL.out], ?_⟩, trimN_le _ _⟩, ⟨⟨trimL lr, trimL_limbs HS.out.rl, trimL_nrm lr, by rw [trimL_val, HS.out.rv]; simp, HN2.out, ownsRow_mono HO2.out HS.out.bl.size⟩, HC2.out⟩, bnextN HS.out.bl HB2.out⟩
      rw [ht, show limC (lq.take (trimN lq n)) = (limC lq).take (trimN lq n) from List.map_take]
      exact hq
    · obtain ⟨i, rfl⟩ : ∃ i, j = i + 1 := ⟨j - 1, by omega⟩
      obtain rfl : I = (i : Int) := by omega
      clear hI h0
      have hi0 : (0 : Int) ≤ (i : Int) := by omega
      have hbw : w.heap.size ≤ wa.heap.size := HS.out.bl.size
      obtain ⟨hst1, hst2⟩ := split_step (valL a) (valL y) i HB.out
      have hbit : bitV (valL a) i ≤ 1 := by unfold bitV; omega
      have hrlt : valL lr < valL y := by rw [HS.out.rv]; exact Nat.mod_lt _ HB.out
      rw [← HS.out.qv] at hst1
      rw [← HS.out.rv] at hst1 hst2
      have HS1 := Lib.hid hst1; have HS2 := Lib.hid hst2; have HBT := Lib.hid hbit
      have HFIT : Hid (2 * valL lr + bitV (valL a) i < 4294967296 ^ (k + 1)) := Lib.hid (by
        have h1 := valL_lt HY.out
        rw [HLL.out] at h1
        rw [Nat.pow_succ]
        omega)
      clear hst1 hst2 hrlt hbit
      go_wp2_with fail
      refine (bit_any A n c i wa.heap.size a _ (by omega) (by omega) HA.out (H.out.pastN HS.out.bl HS.out.bl.size)).mono ?_
      rintro e w' ⟨rfl, rfl⟩
      go_wp2_with fail
      refine (double_any (w.heap.size + 1) (k + 1) (k + 1) w.heap.size (bitV (valL a) i) _ lr _ (by omega) rfl HBT.out HS.out.rl HFIT.out HS.out.r).mono ?_
      rintro e w4 ⟨rfl, ⟨lr2, hl2, hll2, hv2, ho2⟩, hg4⟩
      have HV2 := Lib.hid hv2; have HL2 := Lib.hid hl2; have HO2 := Lib.hid ho2
      have HQ4 := Lib.hid (ownsRow_grown HS.out.q hg4 (fun g hg e => by simp only [Value.ownBlock, Option.some.injEq] at hg e; omega))
      have HB4 := Lib.hid (HS.out.bl.grown hg4 hbw (fun g hg => by injection hg with hg; omega))
      obtain ⟨t, ht⟩ : ∃ t, t = 2 * valL lr + bitV (valL a) i := ⟨_, rfl⟩
      rw [← ht] at HS1 HS2 HV2
      clear hl2 hll2 hv2 ho2 hg4 ht
      go_wp2_with fail
      refine (norder_any (some ⟨w.heap.size + 1, 0, none⟩) A' (k + 1) (k + 1) k c' lr2 y _ (by omega) (by omega) (Nat.le_refl _) hkc HL2.out HY.out (Rd.own HO2.out) (HP.out.pastN HB4.out HB4.out.size)).mono ?_
      rintro e w5 ⟨rfl, hq5⟩
      rw [HV2.out]
      have HQ5 := Lib.hid (ownsRow_below HQ4.out (hq5.below _) (Nat.le_refl _)); have HR5 := Lib.hid (ownsRow_below HO2.out (hq5.below _) (Nat.le_refl _)); have HB5 := Lib.hid (bnextN HB4.out (hq5.below _))
      clear hq5
      by_cases hge : valL y ≤ t
      · have hor : (0 : Int) ≤ ordI t (valL y) := by unfold ordI; rw [if_neg (by omega)]; split <;> omega
        generalize ordI t (valL y) = O at hor ⊢
        have H1 : Hid (valL a / 2 ^ i / valL y * 2 ^ i = valL lq + 2 ^ i) := Lib.hid (by have := HS1.out; rwa [if_pos hge] at this)
        have H2 : Hid (valL a / 2 ^ i % valL y = t - valL y) := Lib.hid (by have := HS2.out; rwa [if_pos hge] at this)
        have HGE := Lib.hid hge
        clear hge
        go_wp2_with fail
        refine (minus_any (some ⟨w.heap.size + 1, 0, none⟩) A' (k + 1) (k + 1) k c' lr2 y _ (by omega) (by omega) HL2.out HY.out (by rw [HV2.out]; exact HGE.out) (Rd.own HR5.out) (HP.out.pastN HB5.out HB5.out.size)).mono ?_
        rintro e w6 ⟨d, hdl, hdn, hdv, A6, n6, c6, rfl, hn6, hc6, ho6, hb6⟩
        have HN6 := Lib.hid hn6; have HO6 := Lib.hid ho6; have HC6 := Lib.hid hc6
        have HQ6 := Lib.hid (ownsRow_below HQ5.out hb6 (Nat.le_refl _)); have HR6 := Lib.hid (ownsRow_below HR5.out hb6 (Nat.le_refl _)); have HB6 := Lib.hid (bnextN HB5.out hb6)
        have hclr : ∀ ty, (Builtin.clear_ #[25] ty #[.slice (some ⟨w.heap.size + 1, 0, none⟩) (k + 1) (k + 1)]).run Try.prog w6 = .ok (.tuple #[]) (w6.setCells (w.heap.size + 1) 0 (List.replicate (k + 1) (.int .u32 0))) := fun ty =>
          Lib.run_clear_slice w6 25 47 ty (.int .u32 0) (by kernel_rfl) (fun _ => rfl) rfl rfl _ 0 _ _ (by omega) (fun j hj => by rw [Nat.zero_add, HR6.out.cellAt j (by omega)]; rw [List.getElem?_eq_getElem (by have := HR6.out.1; omega)]; rfl) (fun j hj => by rw [Nat.zero_add]; exact HR6.out.frozenAt j)
        obtain ⟨ho7, hg7⟩ := own_setCells (.int .u32 0) (k + 1) 0 w6 _ (by omega) HR6.out
        have HR7 := Lib.hid ho7
        have HQ7 := Lib.hid (ownsRow_grown HQ6.out hg7 (fun g hg e => by simp only [Value.ownBlock, Option.some.injEq] at hg e; omega))
        have HB7 := Lib.hid (HB6.out.grown hg7 HB6.out.size (fun g hg => by injection hg with hg; omega))
        have HO7 := Lib.hid (ownsRow_grown HO6.out hg7 (fun g hg e => by have h1 := own_base HO6.out hg; have h2 := own_in HR5.out; simp only [Option.some.injEq] at e; omega))
        have hdk : d.length ≤ k := by
          rcases Nat.lt_or_ge k d.length with hkd | hkd
          · exfalso
            have h1 := len_lt HY.out hdn (by rw [HLL.out]; exact hkd)
            have h2 : t - valL y < valL y := by rw [← H2.out]; exact Nat.mod_lt _ HB.out
            rw [hdv, HV2.out] at h1
            omega
          · exact hkd
        have HDN := Lib.hid hdn; have HDV := Lib.hid hdv; have HDL := Lib.hid hdl
        have HG7 := Lib.hid (own_heap HR7.out)
        obtain ⟨cs, hcs⟩ : ∃ cs, cs = limC d := ⟨_, rfl⟩
        have hcl : cs.length = d.length := by rw [hcs]; simp [limC]
        have HCL : Hid (cs.length = Nat.min n6 (k + 1)) := Lib.hid (by rw [hcl, HN6.out]; exact (Nat.min_eq_left (by omega)).symm)
        have HCF : Hid (0 + cs.length ≤ (List.take 0 (limC lr2) ++ List.replicate (k + 1) (Value.int .u32 0)).length) := Lib.hid (by simp; omega)
        have HC1 : Hid (∀ v ∈ cs, v.oneCell' = true) := Lib.hid (by rw [hcs]; exact oneCell_map (fun _ => rfl))
        have HCP : Hid (0 < cs.length → ∃ ad, A6 = some ad ∧ ∀ j v, cs[j]? = some v → (w6.setCells (w.heap.size + 1) 0 (List.replicate (k + 1) (.int .u32 0))).cell? (ad.add j) = some v) := Lib.hid (fun h0 => by
          obtain ⟨b, off, hA, _, hcc⟩ := (Rd.own HO7.out).2 (by have := HN6.out; omega)
          exact ⟨_, hA, fun j v hj => by rw [addr_add]; exact hcc j v (by rw [← hcs]; exact hj)⟩)
        have HCS := Lib.hid hcs; have HDK := Lib.hid hdk; have HCLD := Lib.hid hcl
        clear ho7 hg7 hn6 hc6 ho6 hb6 hdn hdv hdl hcs hdk hcl
        go_wp2_with (with_reducible refine wpList_copy_splice rfl _ _ _ _ rfl 47 (by kernel_rfl) (by kernel_rfl) _ _ _ _ _ _ rfl rfl (w.heap.size + 1) 0 _ 47 HG7.out cs HCL.out (fun h0 => ⟨rfl, HCP.out h0⟩) HCF.out HC1.out (w.heap.size + 1) _ (Below.refl _ _) (Nat.le_refl _) ?_; intro w8 HG hb8)
        have HB8 := Lib.hid (HB7.out.trans (hb8.mono (Nat.le_succ _)))
        have hqh := own_heap HQ7.out
        have hnm : n ≤ 1099511627776 := by omega
        have hqi := own_in HQ7.out
        have HQ8 : Hid (w8.ownsRow w.heap.size 47 1 (.slice (some ⟨w.heap.size, 0, none⟩) n n) n (limC lq)) := Lib.hid (own_lim (by rw [hb8.block _ (by omega)]; exact hqh) (by have := HQ7.out.1; omega) hnm (Nat.le_refl _))
        have hrl3 : Limbs (d ++ List.replicate (k + 1 - d.length) 0) := (fun x hx => by rcases List.mem_append.1 hx with h | h; exact HDL.out x h; exact Limbs.zeros _ x h)
        have hrv3 : valL (d ++ List.replicate (k + 1 - d.length) 0) = t - valL y := by rw [valL_append, valL_zeros, HDV.out, HV2.out]; simp
        have HR8 : Hid (w8.ownsRow w.heap.size 47 1 (.slice (some ⟨w.heap.size + 1, 0, none⟩) (k + 1) (k + 1)) (k + 1) (limC (d ++ List.replicate (k + 1 - d.length) 0))) := Lib.hid (by
          have hg := HG.out
          have e : splice (List.take 0 (limC lr2) ++ List.replicate (k + 1) (Value.int .u32 0)) 0 cs = limC (d ++ List.replicate (k + 1 - d.length) 0) := by
            unfold splice
            rw [List.take_zero, List.take_zero, List.nil_append, List.nil_append, Nat.zero_add, HCLD.out, List.drop_replicate, HCS.out]
            simp [limC]
          rw [e] at hg
          exact own_lim hg (by simp [limC]; have := HDK.out; omega) (by omega) (Nat.le_succ _))
        have HRL := Lib.hid hrl3; have HRV := Lib.hid hrv3
        have hql : lq.length = n := by have := HQ8.out.1; simpa [limC] using this
        have hi32 : i / 32 < n := by omega
        obtain ⟨hb1, hb2⟩ := set_bit HS.out.ql (by rw [hql]; exact hi32) HS.out.qv
        have hx := HS.out.ql.getD (i / 32)
        have r1 : w8.cell? ⟨w.heap.size, i / 32, none⟩ = some (.int .u32 (lq.getD (i / 32) 0 : Nat)) := by
          rw [HQ8.out.cellAt (i / 32) (by omega), List.getElem?_map, List.getElem?_eq_getElem (by omega), List.getD_eq_getElem?_getD, List.getElem?_eq_getElem (by omega)]; rfl
        have f1 := HQ8.out.frozenAt (i / 32)
        have HSV := Lib.hid hb2; have HSL : Hid (Limbs (lq.set (i / 32) (lq.getD (i / 32) 0 ||| 2 ^ (i % 32)))) := Lib.hid (HS.out.ql.set hb1)
        obtain ⟨hs1, hs2⟩ := HQ8.out.stored (i / 32) (.int .u32 ((lq.getD (i / 32) 0 ||| 2 ^ (i % 32) : Nat) : Int))
        have e1 : (limC lq).set (i / 32) (.int .u32 ((lq.getD (i / 32) 0 ||| 2 ^ (i % 32) : Nat) : Int)) = limC (lq.set (i / 32) (lq.getD (i / 32) 0 ||| 2 ^ (i % 32))) := by unfold limC; rw [List.map_set]
        rw [e1] at hs1
        generalize lq.set (i / 32) (lq.getD (i / 32) 0 ||| 2 ^ (i % 32)) = lq2 at hs1 HSV HSL
        have hgr : w8.grownBy (w8.setCell ⟨w.heap.size, i / 32, none⟩ (.int .u32 ((lq.getD (i / 32) 0 ||| 2 ^ (i % 32) : Nat) : Int))) (some w.heap.size) := grown_set (World.grownBy.refl _ _) _ _
        have HR9 := Lib.hid (ownsRow_grown HR8.out hgr (fun g hg e => by simp only [Value.ownBlock, Option.some.injEq] at hg e; omega))
        have HB9 := Lib.hid (HB8.out.grown hgr HB8.out.size (fun g hg => by injection hg with hg; omega))
        have hpw : 2 ^ (i % 32) < 4294967296 := Nat.pow_lt_pow_right (n := 32) (by decide) (Nat.mod_lt _ (by decide))
        have HQ9 := Lib.hid hs1
        generalize lq.getD (i / 32) 0 = x at *
        have HOR := u32_or_n x (2 ^ (i % 32)) hx hpw
        obtain ⟨pI, hpI⟩ : ∃ pI : Int, pI = ((2 ^ (i % 32) : Nat) : Int) := ⟨_, rfl⟩
        obtain ⟨xI, hxI⟩ : ∃ xI : Int, xI = (x : Int) := ⟨_, rfl⟩
        obtain ⟨zI, hzI⟩ : ∃ zI : Int, zI = ((x ||| 2 ^ (i % 32) : Nat) : Int) := ⟨_, rfl⟩
        rw [← hpI, ← hxI, ← hzI] at HOR
        rw [← hxI] at r1
        rw [← hzI] at HQ9 HR9 HB9
        have hsl : IntKind.u32.wrap (2 ^ (i % 32)) = pI := by
          have h1 : ∀ p : Nat, p < 4294967296 → IntKind.u32.wrap (p : Int) = (p : Int) := fun p hp => by rw [IntKind.wrap_u32]; omega
          have h2 : ((2 : Int) ^ (i % 32)) = ((2 ^ (i % 32) : Nat) : Int) := by simp
          rw [h2, h1 _ hpw, hpI]
        have j1 : (0 : Int) ≤ (i : Int) / 32 := by omega
        have j2 : (i : Int) / 32 < (n : Int) := by omega
        have j3 : ((i : Int) / 32).toNat = i / 32 := by omega
        have j4 : (0 : Int) ≤ (i : Int) % 32 := by omega
        have hwq : IntKind.i64.wrap ((i : Int) / 32) = (i : Int) / 32 := by rw [IntKind.wrap_i64]; omega
        have hwr : IntKind.i64.wrap ((i : Int) % 32) = (i : Int) % 32 := by rw [IntKind.wrap_i64]; omega
        have htm : Int.tmod (i : Int) 32 = (i : Int) % 32 := Int.tmod_eq_emod_of_nonneg hi0
        have htn : ((i : Int) % 32).toNat = i % 32 := by omega
        clear hrl3 hrv3 hqh hqi hb8 hs1 hs2 e1 hgr hb1 hb2 hx hpw hpI hxI hzI hql
        go_wp2_with fail
        go_region
        go_wp2_with fail
        go_roundw
        case rel => exact ⟨i, (i : Int) - 1, lq2, _, by omega, rfl, rfl, HQ9.out, HR9.out, HSL.out, HRL.out, by rw [HSV.out, H1.out], by rw [HRV.out, H2.out], HB9.out.drew⟩
        case measure => simp [intOf]
      · have hor : ¬ (0 : Int) ≤ ordI t (valL y) := by unfold ordI; rw [if_pos (by omega)]; omega
        generalize ordI t (valL y) = O at hor ⊢
        have H1 : Hid (valL a / 2 ^ i / valL y * 2 ^ i = valL lq) := Lib.hid (by have := HS1.out; rw [if_neg hge] at this; omega)
        have H2 : Hid (valL a / 2 ^ i % valL y = t) := Lib.hid (by have := HS2.out; rwa [if_neg hge] at this)
        clear hge
        go_wp2_with fail
        go_roundw
        case rel => exact ⟨i, (i : Int) - 1, lq, lr2, by omega, rfl, rfl, HQ5.out, HR5.out, HS.out.ql, HL2.out, H1.out.symm, by rw [HV2.out, H2.out], HB5.out⟩
        case measure => simp [intOf]
#print axioms split_any
end Go.Proofs.Ytncjmndiafgaaaa
/- Laws for half: a list of limbs, halved. Conditions: as each statement says. -/
namespace Go.Proofs.Ytncjmndiafgaaaa
open Go.RowKit
set_option linter.unusedVariables false
/-- Limbs, halved. -/
def halfL : List Nat → List Nat
  | [] => []
  | x :: l => (x / 2 + 2147483648 * (l.headD 0 % 2)) :: halfL l
theorem halfL_len : ∀ l : List Nat, (halfL l).length = l.length
  | [] => rfl
  | x :: l => by simp [halfL, halfL_len l]
theorem valL_odd : ∀ l : List Nat, valL l % 2 = l.headD 0 % 2
  | [] => rfl
  | x :: l => by simp only [valL, List.headD_cons]; omega
theorem halfL_val : ∀ l : List Nat, valL (halfL l) = valL l / 2
  | [] => rfl
  | x :: l => by
    have h1 := halfL_val l
    have h2 := valL_odd l
    simp only [halfL, valL]
    rw [h1]; omega
theorem halfL_limbs : ∀ {l : List Nat}, Limbs l → Limbs (halfL l)
  | [], _ => fun x hx => by simp [halfL] at hx
  | x :: l, h => fun y hy => by
    have hx := h x (by simp)
    simp only [halfL, List.mem_cons] at hy
    rcases hy with rfl | hy
    · omega
    · exact halfL_limbs (fun z hz => h z (by simp [hz])) y hy
theorem halfL_getD : ∀ (l : List Nat) (k : Nat), (halfL l).getD k 0 = l.getD k 0 / 2 + 2147483648 * (l.getD (k + 1) 0 % 2)
  | [], k => by simp [halfL]
  | x :: l, 0 => by cases l <;> simp [halfL]
  | x :: l, k + 1 => by
    have h := halfL_getD l k
    simp only [halfL, List.getD_cons_succ]
    exact h
/-- The or of a low number with bit 31. -/
theorem or_high (x y : Nat) (hx : x < 2147483648) : x ||| (2147483648 * (y % 2)) = x + 2147483648 * (y % 2) := by
  have := Nat.two_pow_add_eq_or_of_lt (i := 31) (b := x) hx (y % 2)
  rw [Nat.or_comm, show (2147483648 : Nat) = 2 ^ 31 by decide, ← this, Nat.add_comm]
#print axioms halfL_val
#print axioms halfL_getD
#print axioms or_high
end Go.Proofs.Ytncjmndiafgaaaa
/- The contract of half. Conditions: as each statement says. -/
namespace Go.Proofs.Ytncjmndiafgaaaa
open Go.RowKit
set_option linter.unusedVariables false
/-- What half does to a row. -/
def HalfP (g n c base : Nat) (l : List Nat) (w : World) (e : Ending) (w' : World) : Prop := ∃ m, e = .returned (.slice (some ⟨g, 0, none⟩) m c) ∧ m ≤ n ∧ m = trimN (halfL l) n ∧ w'.ownsRow base 47 1 (.slice (some ⟨g, 0, none⟩) n c) n (limC (halfL l)) ∧ w.grownBy w' (some g)
set_option maxRecDepth 100000 in
set_option maxHeartbeats 4000000 in
theorem half_any (g n c base : Nat) (l : List Nat) (w : World) (hn : n ≤ 90000) (hc : n ≤ c) (hl : Limbs l) (h : w.ownsRow base 47 1 (.slice (some ⟨g, 0, none⟩) n c) n (limC l)) :
    Calls Try.prog 64 #[.slice (some ⟨g, 0, none⟩) n c] w (HalfP g n c base l w) := by
  have hll : l.length = n := by have := h.1; simpa using this
  have H := Lib.hid h; have HLL := Lib.hid hll; have HL := Lib.hid hl
  clear h hll hl
  go_enter Try.func64, Try.ntmps64
  go_wp2_with fail
  go_loopw [6] (fun i wr => ∃ k : Nat, k ≤ n ∧ i = .int .i64 k ∧ wr.ownsRow base 47 1 (.slice (some ⟨g, 0, none⟩) n c) n (limC ((halfL l).take k ++ l.drop k)) ∧ w.grownBy wr (some g)) (fun i _ => n - (intOf i).toNat)
  case atStart => exact ⟨0, Nat.zero_le _, rfl, by simpa using H.out, World.grownBy.refl _ _⟩
  case round =>
    obtain ⟨k, hk, rfl, hown, hg⟩ := hrel
    obtain ⟨wa, rfl⟩ : ∃ z : World, z = wr := ⟨_, rfl⟩
    have HO := Lib.hid hown; have HG := Lib.hid hg
    clear hown hg
    by_cases hlt : k < n
    · have hki : (k : Int) < (n : Int) := by omega
      have hkl : k < l.length := by rw [HLL.out]; exact hlt
      have hkh : k < (halfL l).length := by rw [halfL_len]; exact hkl
      have htl : ((halfL l).take k).length = k := by rw [List.length_take]; omega
      have hdr := List.drop_eq_getElem_cons hkl
      have hx := HL.out.getD k
      have hgd : l.getD k 0 = l[k] := by rw [List.getD_eq_getElem?_getD, List.getElem?_eq_getElem hkl]; rfl
      have hgh := halfL_getD l k
      have hgk : (halfL l).getD k 0 = (halfL l)[k] := by rw [List.getD_eq_getElem?_getD, List.getElem?_eq_getElem hkh]; rfl
      have r1 : wa.cell? ⟨g, k, none⟩ = some (.int .u32 (l.getD k 0 : Nat)) := by
        rw [HO.out.cellAt k (by omega), List.getElem?_map, List.getElem?_append_right (by omega), htl, Nat.sub_self, hdr, hgd]; rfl
      have f1 := HO.out.frozenAt k
      have hset : ∀ z, ((halfL l).take k ++ l.drop k).set k z = ((halfL l).take k ++ [z]) ++ l.drop (k + 1) := fun z => by
        rw [List.set_append_right _ _ (by omega), htl, Nat.sub_self, hdr, List.set_cons_zero, List.append_assoc]; rfl
      have htk : (halfL l).take k ++ [(halfL l).getD k 0] = (halfL l).take (k + 1) := by rw [hgk, List.take_append_getElem]
      have hst := (HO.out.stored k (.int .u32 ((l.getD k 0 / 2 : Nat) : Int))).1
      have e1 : ∀ z : Nat, (limC ((halfL l).take k ++ l.drop k)).set k (.int .u32 (z : Int)) = limC (((halfL l).take k ++ [z]) ++ l.drop (k + 1)) := fun z => by
        rw [← hset]; unfold limC; rw [List.map_set]
      rw [e1] at hst
      have hz : l.getD k 0 / 2 < 2147483648 := by omega
      have hgr : wa.grownBy (wa.setCell ⟨g, k, none⟩ (.int .u32 ((l.getD k 0 / 2 : Nat) : Int))) (some g) := grown_set (World.grownBy.refl _ _) _ _
      have hG1 := grown_set HG.out k (.int .u32 ((l.getD k 0 / 2 : Nat) : Int))
      have htl2 : ((halfL l).take k ++ [l.getD k 0 / 2]).length = k + 1 := by simp [htl]
      have r3 := hst.cellAt k (by omega)
      have f3 := hst.frozenAt k
      rw [List.getElem?_map, List.append_assoc, List.getElem?_append_right (by omega), htl, Nat.sub_self] at r3
      simp only [List.cons_append, List.getElem?_cons_zero, Option.map_some] at r3
      by_cases h1 : k + 1 < n
      · have h1i : (k : Int) + 1 < (n : Int) := by omega
        have hk1 : k + 1 < l.length := by rw [HLL.out]; exact h1
        have hy := HL.out.getD (k + 1)
        have r4 := hst.cellAt (k + 1) (by omega)
        rw [List.getElem?_map, List.getElem?_append_right (by omega), htl2, Nat.sub_self, List.drop_eq_getElem_cons hk1] at r4
        simp only [List.getElem?_cons_zero, Option.map_some] at r4
        rw [show l[k + 1] = l.getD (k + 1) 0 by rw [List.getD_eq_getElem?_getD, List.getElem?_eq_getElem hk1]; rfl] at r4
        have hs2 := (hst.stored k (.int .u32 (((halfL l).getD k 0 : Nat) : Int))).1
        have e2 : (limC (((halfL l).take k ++ [l.getD k 0 / 2]) ++ l.drop (k + 1))).set k (.int .u32 (((halfL l).getD k 0 : Nat) : Int)) = limC ((halfL l).take (k + 1) ++ l.drop (k + 1)) := by
          rw [← htk]; unfold limC
          rw [← List.map_set (f := fun x : Nat => Value.int .u32 (x : Int)), List.append_assoc, List.set_append_right _ _ (by omega), htl, Nat.sub_self, List.cons_append, List.set_cons_zero, List.append_assoc]; rfl
        rw [e2] at hs2
        have hG2 := grown_set hG1 k (.int .u32 (((halfL l).getD k 0 : Nat) : Int))
        have hor := u32_or_n (l.getD k 0 / 2) (2147483648 * (l.getD (k + 1) 0 % 2)) (by omega) (by omega)
        rw [or_high _ _ hz, ← hgh] at hor
        have HS2 := Lib.hid hs2; have HG2 := Lib.hid hG2
        obtain ⟨xI, hxI⟩ : ∃ xI : Int, xI = ((l.getD k 0 : Nat) : Int) := ⟨_, rfl⟩
        obtain ⟨yI, hyI⟩ : ∃ yI : Int, yI = ((l.getD (k + 1) 0 : Nat) : Int) := ⟨_, rfl⟩
        obtain ⟨zI, hzI⟩ : ∃ zI : Int, zI = ((l.getD k 0 / 2 : Nat) : Int) := ⟨_, rfl⟩
        obtain ⟨sI, hsI⟩ : ∃ sI : Int, sI = ((2147483648 * (l.getD (k + 1) 0 % 2) : Nat) : Int) := ⟨_, rfl⟩
        obtain ⟨vI, hvI⟩ : ∃ vI : Int, vI = (((halfL l).getD k 0 : Nat) : Int) := ⟨_, rfl⟩
        rw [← hzI, ← hsI, ← hvI] at hor
        rw [← hxI] at r1; rw [← hzI] at r3 r4 f3 HS2 HG2; rw [← hyI] at r4; rw [← hvI] at HS2 HG2
        have hsh : xI / 2 = zI := by rw [hxI, hzI]; omega
        have hsl : IntKind.u32.wrap (yI * 2147483648) = sI := by rw [IntKind.wrap_u32, hyI, hsI]; omega
        clear hst hs2 e1 e2 hset htk hdr hgd hgk hgh hxI hyI hzI hsI hvI hkl hkh htl htl2 hx hy hk1 hz hgr hG1 hG2
        go_wp2_with fail
        go_region
        go_wp2_with fail
        go_roundw
        case rel => exact ⟨k + 1, by omega, by go_num, HS2.out, by first | exact HG2.out.drew | exact grown_drew HG2.out | exact HG2.out.trans (World.grownBy.drew _ _) | exact ⟨HG2.out.os, HG2.out.tape, HG2.out.output, HG2.out.size, HG2.out.block⟩⟩
        case measure => simp [intOf]; omega
      · have h1i : ¬ (k : Int) + 1 < (n : Int) := by omega
        have hv : (halfL l).getD k 0 = l.getD k 0 / 2 := by
          rw [hgh, List.getD_eq_getElem?_getD (i := k + 1), List.getElem?_eq_none (by have := HLL.out; omega)]; rfl
        rw [hv] at htk
        rw [htk] at hst
        have HS2 := Lib.hid hst; have HG2 := Lib.hid hG1
        obtain ⟨xI, hxI⟩ : ∃ xI : Int, xI = ((l.getD k 0 : Nat) : Int) := ⟨_, rfl⟩
        obtain ⟨zI, hzI⟩ : ∃ zI : Int, zI = ((l.getD k 0 / 2 : Nat) : Int) := ⟨_, rfl⟩
        rw [← hxI] at r1; rw [← hzI] at r3 f3 HS2 HG2
        have hsh : xI / 2 = zI := by rw [hxI, hzI]; omega
        clear hst e1 hset htk hdr hgd hgk hgh hxI hzI hkl hkh htl htl2 hx hz hgr hG1 hv
        go_wp2_with fail
        go_roundw
        case rel => exact ⟨k + 1, by omega, by go_num, HS2.out, HG2.out⟩
        case measure => simp [intOf]; omega
    · have hki : ¬ (k : Int) < (n : Int) := by omega
      obtain rfl : k = n := by omega
      have HOF : Hid (wa.ownsRow base 47 1 (.slice (some ⟨g, 0, none⟩) k c) k (limC (halfL l))) := Lib.hid (by
        have := HO.out
        rwa [List.drop_of_length_le (by have := HLL.out; omega), List.append_nil, List.take_of_length_le (by rw [halfL_len]; have := HLL.out; omega)] at this)
      go_wp2_with fail
      refine (trim_any (some ⟨g, 0, none⟩) k c wa.heap.size (halfL l) _ (by omega) hc (Rd.own HOF.out)).mono ?_
      rintro e w5 ⟨rfl, rfl⟩
      go_wp2_with fail
      go_ret
      exact ⟨_, rfl, trimN_le _ _, rfl, HOF.out, HG.out⟩
#print axioms half_any
end Go.Proofs.Ytncjmndiafgaaaa
/- The contract of fit. Conditions: as each statement says. -/
namespace Go.Proofs.Ytncjmndiafgaaaa
open Go.RowKit
set_option linter.unusedVariables false
def FitP (l : List Nat) (w : World) (e : Ending) (w' : World) : Prop := ∃ A n c, e = .returned (.tuple #[.slice A n c, .int .i64 0]) ∧ n = l.length ∧ n ≤ c ∧ w'.ownsRow w.heap.size 47 1 (.slice A n c) n (limC l) ∧ Below w.heap.size w w'
theorem fit_any (A : Option Addr) (n c : Nat) (l : List Nat) (w : World) (hn : n ≤ 20000) (h64 : (trimL l).length ≤ 64) (hc : n ≤ c) (h : Rd w w.heap.size 1 A n (limC l)) :
    Calls Try.prog 49 #[.slice A n c] w (FitP (trimL l) w) := by
  have H := Lib.hid h
  have hll : l.length = n := by have := h.1; simpa using this
  have htl : (trimL l).length ≤ n := by have h1 := trimN_le l l.length; rw [trimL_len]; omega
  clear h
  go_enter Try.func49, Try.ntmps49
  go_wp2_with fail
  refine (clone_any A n c l _ (by omega) hc H.out).mono ?_
  rintro e w6 ⟨A2, n2, c2, rfl, hn2, hc2, ho2, hb2⟩
  have hb : ¬ (64 : Int) < (n2 : Int) := by omega
  have HN2 := Lib.hid hn2; have HO2 := Lib.hid ho2; have HB2 := Lib.hid hb2
  clear hn2 ho2 hb2
  go_wp2_with fail
  go_ret2
  exact ⟨_, _, _, rfl, HN2.out, hc2, HO2.out, HB2.out⟩
#print axioms fit_any
end Go.Proofs.Ytncjmndiafgaaaa
