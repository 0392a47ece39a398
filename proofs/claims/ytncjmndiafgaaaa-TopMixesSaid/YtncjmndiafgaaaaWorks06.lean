/- The contract of works06. Conditions: none. -/
import Derived.Test.YtncjmndiafgaaaaRecNewA
import Derived.Test.YtncjmndiafgaaaaNat25
import Derived.Test.YtncjmndiafgaaaaZip
namespace Go.Proofs.Ytncjmndiafgaaaa
open Go.RowKit
set_option linter.unusedVariables false
set_option maxRecDepth 100000 in
set_option maxHeartbeats 2000000 in
theorem works06_any (w : World) : Calls Try.prog 13 #[] w fun e w' => e = .returned (.bool true) ∧ Below w.heap.size w w' := by
  have hmk : ∀ w : World, (Instr.makeSlice 40 (.int .i64 4) (.int .i64 4)).run Try.prog w = .ok (.slice (some ⟨w.heap.size, 0, none⟩) 4 4) (w.alloc (.cells #[.bool false, .bool false, .bool false, .bool false] 4)) := fun w => make_bool w 4 (by decide)
  go_enter Try.func13, Try.ntmps13
  go_wp2_with fail
  have HK := Lib.hid (BlkN.new w #[.int .i64 3, .int .i64 16] 61)
  have HB : Hid (Below w.heap.size w (w.alloc (.cells #[.int .i64 3, .int .i64 16] 61))) := Lib.hid ((Below.refl _ _).alloc (Nat.le_refl _) _)
  refine (Length_one w.heap.size _ HK.out).mono ?_
  rintro e w1 ⟨rfl, hb⟩
  have HB1 := Lib.hid (bnextN HB.out hb)
  clear hb HK HB
  go_wp2_with fail
  clear hmk
  have hb2 : Below w1.heap.size w1 ((w1.alloc (.cells #[.bool false, .bool false, .bool false, .bool false] 4)).alloc (.cells #[.bool false, .bool true, .bool false, .bool false] 4)) := ((Below.refl _ _).alloc (Nat.le_refl _) _).alloc (by simp) _
  have h1 : Rd ((w1.alloc (.cells #[.bool false, .bool false, .bool false, .bool false] 4)).alloc (.cells #[.bool false, .bool true, .bool false, .bool false] 4)) (w1.heap.size + 1) 1 (some ⟨w1.heap.size, 0, none⟩) 4 ([false, false, false, false].map Value.bool) :=
    (Rd.new w1 #[.bool false, .bool false, .bool false, .bool false] 4 1 4 rfl).alloc (by simp) _
  have h2 : Rd ((w1.alloc (.cells #[.bool false, .bool false, .bool false, .bool false] 4)).alloc (.cells #[.bool false, .bool true, .bool false, .bool false] 4)) (w1.heap.size + 2) 1 (some ⟨w1.heap.size + 1, 0, none⟩) 4 ([false, true, false, false].map Value.bool) := by
    have := Rd.new (w1.alloc (.cells #[.bool false, .bool false, .bool false, .bool false] 4)) #[.bool false, .bool true, .bool false, .bool false] 4 1 4 rfl
    simpa using this
  refine (Run_ok (some ⟨w1.heap.size, 0, none⟩) (some ⟨w1.heap.size + 1, 0, none⟩) 4 4 4 1 4 0 [false, false, false, false] [false, true, false, false] _ (by decide) (by decide) (by decide) (by decide) (by decide) (by decide) (h1.mono (by simp)) (h2.mono (by simp))).mono ?_
  clear h1 h2
  rintro e w2 ⟨Az, cz, At, ct, S, rfl, hgo, ho, _, hcz, hct, hz, ht, hb⟩
  obtain ⟨hb1, hb3⟩ := works_pure hgo ho
  have hbb := hb2.trans (hb.mono (by simp; omega))
  rw [hb1] at hz
  have hr := Rd.own hz
  obtain ⟨g, off, rfl, hg, hc⟩ := hr.2 (by decide)
  have c1 : w2.cell? ⟨g, off + 1, none⟩ = some (.bool true) := hc 1 _ rfl
  have HBB := Lib.hid (bnextN HB1.out hbb)
  generalize S.told.length = tl at *
  clear hgo ho hz ht hb hb2 hr hc hbb hb3 hb1 HB1
  go_wp2_with fail
  refine (works04_any _).mono ?_
  rintro e w3 ⟨rfl, hb⟩
  have HB3 := Lib.hid (bnextN HBB.out hb)
  clear hb
  go_wp2_with fail
  go_ret
  exact ⟨rfl, HB3.out⟩
#print axioms works06_any
end Go.Proofs.Ytncjmndiafgaaaa
/- The walk of TopMixes. Conditions: as the statement says. -/
namespace Go.Proofs.Ytncjmndiafgaaaa
open Go.RowKit
set_option linter.unusedVariables false
theorem rdNext {w w' : World} {sz n : Nat} {A : Option Addr} {xs : List Value} (h : Rd w w.heap.size sz A n xs) (hb : Below w.heap.size w w') : Rd w' w'.heap.size sz A n xs := (h.below hb).mono hb.size
/-- A call that returns a new string. -/
def RetB (w : World) (n : Nat) (xs : List Bool) (e : Ending) (w' : World) : Prop := ∃ A c, e = .returned (.tuple #[.slice A n c, .int .i64 0]) ∧ n ≤ c ∧ Rd w' w'.heap.size 1 A n (xs.map Value.bool) ∧ Below w.heap.size w w'
theorem RetB.of {w : World} {n : Nat} {xs : List Bool} {e : Ending} {w' : World} (h : RetOwn w 4 1 n (xs.map Value.bool) (fun v => .tuple #[v, .int .i64 0]) e w') : RetB w n xs e w' := by
  obtain ⟨A, c, rfl, h1, h2, h3⟩ := h
  exact ⟨A, c, rfl, h1, Rd.own h2, h3⟩
theorem Number_I (a width : Nat) (aI wI : Int) (w : World) (haI : aI = a) (hwI : wI = width) (hw : width ≤ 64) (ha : a < 18446744073709551616) (h : a < 2 ^ width) :
    Calls Try.prog 10 #[.int .u64 aI, .int .i64 wI] w (RetB w width (numL a width)) := by
  subst haI; subst hwI; exact (Number_any a width w ha hw h).mono fun _ _ => RetB.of
theorem Toeplitz_I (A A' : Option Addr) (s cs n c out : Nat) (oI : Int) (hoI : oI = out) (seed a : List Bool) (w : World) (hn : n ≤ 512) (hout : out ≤ 512) (hs : s = n + out - 1) (hcs : s ≤ cs)
    (h : Rd w w.heap.size 1 A s (seed.map Value.bool)) (h' : Rd w w.heap.size 1 A' n (a.map Value.bool)) :
    Calls Try.prog 11 #[.slice A s cs, .slice A' n c, .int .i64 oI] w (RetB w out (toepL seed a out a.length)) := by
  subst hoI; exact (Toeplitz_ok A A' s cs n c out seed a w hn hout hs hcs h h').mono fun _ _ => RetB.of
set_option maxHeartbeats 1000000 in
theorem Bools_len (A A' : Option Addr) (n c c' : Nat) (xs ys : List Bool) (w : World) (hn : n ≤ 1073741824) (h : Rd w w.heap.size 1 A n (xs.map Value.bool)) (h' : Rd w w.heap.size 1 A' n (ys.map Value.bool)) :
    Calls Try.prog 12 #[.slice A n c, .slice A' n c'] w fun e w' => e = .returned (.bool (decide (xs = ys))) ∧ Qw w w' := by
  have hl : xs.length = n := by have := h.1; simpa using this
  have hl' : ys.length = n := by have := h'.1; simpa using this
  have H := Lib.hid h; have H' := Lib.hid h'; have HL := Lib.hid hl; have HL' := Lib.hid hl'; clear h h' hl hl'
  have hne : ((n : Int) != (n : Int)) = false := by simp
  go_enter Try.func12, Try.ntmps12
  go_wp2_with fail
  go_loopw [5] (fun i wr => ∃ k : Nat, k ≤ n ∧ i = .int .i64 k ∧ xs.take k = ys.take k ∧ Qw w wr) (fun i _ => n - (intOf i).toNat)
  case atStart => exact ⟨0, Nat.zero_le _, rfl, rfl, Qw.refl _⟩
  case round =>
    obtain ⟨k, hk, rfl, ht, hq⟩ := hrel
    by_cases hlt : k < n
    · have hki : (k : Int) < (n : Int) := by omega
      obtain ⟨b, off, rfl, hb, hc⟩ := H.out.2 (by omega)
      obtain ⟨b', off', rfl, hb', hc'⟩ := H'.out.2 (by omega)
      have hlk : k < xs.length := by rw [HL.out]; exact hlt
      have hlk' : k < ys.length := by rw [HL'.out]; exact hlt
      have h1 : wr.cell? ⟨b, off + k, none⟩ = some (.bool xs[k]) := (hq.cell _).trans (hc k _ (by simp [hlk]))
      have h2 : wr.cell? ⟨b', off' + k, none⟩ = some (.bool ys[k]) := (hq.cell _).trans (hc' k _ (by simp [hlk']))
      have HT := Lib.hid ht
      have HX : Hid (xs.take (k + 1) = xs.take k ++ [xs[k]]) := Lib.hid (take_snoc _ _ hlk)
      have HY : Hid (ys.take (k + 1) = ys.take k ++ [ys[k]]) := Lib.hid (take_snoc _ _ hlk')
      have HXX : Hid (∀ b, xs[k] ≠ b → ys[k] = b → xs ≠ ys) := Lib.hid (by
        intro b h3 h4 h5
        subst h5
        exact h3 h4)
      generalize xs[k] = x at h1 HX HXX
      generalize ys[k] = y at h2 HY HXX
      have HQ := Lib.hid hq
      clear hc hc' hlk hlk' hq ht
      by_cases hxy : x = y
      · subst hxy
        go_wp2_with fail
        go_quiet (fail)
        go_wp2_with fail
        go_roundw
        case rel => exact ⟨k + 1, by omega, by go_num, by rw [HX.out, HY.out, HT.out], HQ.out.drewN _⟩
        case measure => simp [intOf]; omega
      · have hxb : (!x == y) = true := by simp [hxy]
        have HF : Hid (decide (xs = ys) = false) := Lib.hid (decide_eq_false (HXX.out y hxy rfl))
        go_wp2_with fail
        go_quiet (fail)
        go_wp2_with fail
        go_ret
        exact ⟨by rw [HF.out]; rfl, HQ.out.drewN _⟩
    · have hki : ¬ (k : Int) < (n : Int) := by omega
      have HF : Hid (decide (xs = ys) = true) := Lib.hid (decide_eq_true (by
        have h1 := HL.out; have h2 := HL'.out
        rwa [List.take_of_length_le (by omega), List.take_of_length_le (by omega)] at ht))
      clear ht
      go_wp2_with fail
      go_ret
      exact ⟨by rw [HF.out]; rfl, hq⟩
def MixP (w : World) (e : Ending) (w' : World) : Prop := e = .returned (.bool true) ∧ Below w.heap.size w w'
set_option maxRecDepth 100000 in
set_option maxHeartbeats 2000000 in
theorem TopMixes_walk (a0 a1 a2 a3 : Nat) (w : World) (h0 : a0 < 256) (h1 : a1 < 256) (h2 : a2 < 256) (h3 : a3 < 256) :
    Calls Try.prog 4 #[.int .u8 (a0 : Int), .int .u8 (a1 : Int), .int .u8 (a2 : Int), .int .u8 (a3 : Int)] w (MixP w) := by
  obtain ⟨n, hn⟩ : ∃ n, n = 1 + a2 % 5 := ⟨_, rfl⟩
  obtain ⟨k, hk⟩ : ∃ k, k = a3 % (n + 1) := ⟨_, rfl⟩
  obtain ⟨s, hs⟩ : ∃ s, s = n + k - 1 := ⟨_, rfl⟩
  have hkn : k ≤ n := by have := Nat.mod_lt a3 (show 0 < n + 1 by omega); omega
  have hz1 : (1 + (a2 : Int) % 5 + 1 = 0) = False := by simp; omega
  have hpn := pow_le' n (by omega)
  have hps := pow_le' s (by omega)
  have hpu : ∀ m, m < 11 → IntKind.u64.wrap ((2 : Int) ^ m) = ((2 ^ m : Nat) : Int) := fun m hm => by
    have h2 := pow_le' m hm
    rw [show (2 : Int) ^ m = ((2 ^ m : Nat) : Int) by push_cast; rfl]
    generalize 2 ^ m = x at h2
    rw [IntKind.wrap_u64]; omega
  have HPU := Lib.hid (hpu n (by omega))
  have hnz : ¬ IntKind.u64.wrap (2 ^ (1 + a2 % 5)) = 0 := by rw [← hn, HPU.out]; omega
  obtain ⟨xa, hxa⟩ : ∃ x, x = a0 % 2 ^ n := ⟨_, rfl⟩
  obtain ⟨ya, hya⟩ : ∃ x, x = a1 % 2 ^ n := ⟨_, rfl⟩
  have hxl : xa < 2 ^ n := by rw [hxa]; exact Nat.mod_lt _ (Nat.pow_pos (by decide))
  have hyl : ya < 2 ^ n := by rw [hya]; exact Nat.mod_lt _ (Nat.pow_pos (by decide))
  obtain ⟨nI, hnI⟩ : ∃ z : Int, z = (n : Int) := ⟨_, rfl⟩
  obtain ⟨kI, hkI⟩ : ∃ z : Int, z = (k : Int) := ⟨_, rfl⟩
  obtain ⟨sI, hsI⟩ : ∃ z : Int, z = (s : Int) := ⟨_, rfl⟩
  obtain ⟨xI, hxI⟩ : ∃ z : Int, z = (xa : Int) := ⟨_, rfl⟩
  obtain ⟨yI, hyI⟩ : ∃ z : Int, z = (ya : Int) := ⟨_, rfl⟩
  have EN : Hid (1 + (a2 : Int) % 5 = nI) := Lib.hid (by omega)
  have EK : Hid ((a3 : Int) % (nI + 1) = kI) := Lib.hid (by rw [hkI, hnI, hk]; push_cast; rfl)
  have EX : Hid ((a0 : Int) % IntKind.u64.wrap (2 ^ (1 + a2 % 5)) = xI) := Lib.hid (by rw [← hn, HPU.out, hxI, hxa]; push_cast; rfl)
  have HPN : Hid (IntKind.u64.wrap (2 ^ nI.toNat) = ((2 ^ n : Nat) : Int)) := Lib.hid (by rw [show nI.toNat = n by omega]; exact HPU.out)
  have hnz2 : ¬ IntKind.u64.wrap (2 ^ nI.toNat) = 0 := by rw [HPN.out]; omega
  have HPS : Hid (wrap64 (2 ^ sI.toNat) = ((2 ^ s : Nat) : Int)) := Lib.hid (by rw [show sI.toNat = s by omega]; exact pow_small' s (by omega))
  have EY : Hid ((a1 : Int) % IntKind.u64.wrap (2 ^ nI.toNat) = yI) := Lib.hid (by rw [HPN.out, hyI, hya]; push_cast; rfl)
  have ES : Hid (nI + kI - 1 = sI) := Lib.hid (by omega)
  have HN := Lib.hid hnI; have HK := Lib.hid hkI; have HSI := Lib.hid hsI; have HXI := Lib.hid hxI; have HYI := Lib.hid hyI
  have HXL := Lib.hid hxl; have HYL := Lib.hid hyl; have HS := Lib.hid hs; have HKN := Lib.hid hkn
  have HN5 : Hid (1 ≤ n ∧ n ≤ 5) := Lib.hid (by omega)
  have b1 : 1 ≤ nI := by omega
  have b2 : nI ≤ 5 := by omega
  have b3 : 0 ≤ kI := by omega
  have b4 : kI ≤ 5 := by omega
  have b5 : 0 ≤ sI := by omega
  have b6 : sI ≤ 9 := by omega
  have HPS2 : Hid (2 ^ s ≤ 512) := Lib.hid (Nat.le_trans (Nat.pow_le_pow_right (by decide) (show s ≤ 9 by omega)) (by decide))
  have HZ := Lib.hid (mix_law (numL xa n) (numL ya n) n k s (numL_len _ _) (numL_len _ _) (by omega) hs)
  clear hn hk hs hkn hpn hps hpu hxa hya hxl hyl hnI hkI hsI hxI hyI
  go_enter Try.func4, Try.ntmps4
  go_wp2_with fail
  rw [EN.out, EK.out, EX.out]
  refine (Number_I xa n xI nI _ HXI.out HN.out (by have := HN5.out; omega) (by have a := HXL.out; have b := pow_le' n (by have := HN5.out; omega); omega) HXL.out).mono ?_
  rintro e w1 ⟨A1, c1, rfl, hc1, ho1, hb1⟩
  have HC1 := Lib.hid hc1; have HR1 := Lib.hid ho1; have HB1 := Lib.hid hb1
  clear hc1 ho1 hb1
  go_wp2_with fail
  rw [EY.out]
  refine (Number_I ya n yI nI _ HYI.out HN.out (by have := HN5.out; omega) (by have a := HYL.out; have b := pow_le' n (by have := HN5.out; omega); omega) HYL.out).mono ?_
  rintro e w2 ⟨A2, c2, rfl, hc2, ho2, hb2⟩
  have HC2 := Lib.hid hc2; have HR2 := Lib.hid ho2; have HB2 := Lib.hid (bnextN HB1.out hb2); have HR1' := Lib.hid (rdNext HR1.out hb2)
  clear hc2 ho2 hb2 HB1 HR1
  have HLX : Hid ((numL xa n).length = n) := Lib.hid (numL_len _ _)
  have HLY : Hid ((numL ya n).length = n) := Lib.hid (numL_len _ _)
  have HST : Hid (∀ i, hW (xorL (numL xa n) (numL ya n)) k s i = 0 ↔ toepL (numL i s) (numL xa n) k (numL xa n).length = toepL (numL i s) (numL ya n) k (numL ya n).length) := Lib.hid (fun i => mix_step _ _ k s i (by rw [numL_len, numL_len]))
  generalize numL xa n = X at HZ HR1' HR2 HLX HLY HST
  generalize numL ya n = Y at HZ HR1' HR2 HLX HLY HST
  generalize hW (xorL X Y) k s = F at HZ HST
  go_wp2_with fail
  rw [ES.out]
  go_loopw [16, 17] (fun qv iv wr => ∃ (i : Nat) (qI iI : Int), qv = .int .i64 qI ∧ iv = .int .i64 iI ∧ iI = i ∧ qI = (cU F i 0 : Nat) ∧ i ≤ 2 ^ s ∧ Rd wr wr.heap.size 1 A1 n (X.map Value.bool) ∧ Rd wr wr.heap.size 1 A2 n (Y.map Value.bool) ∧ Below w.heap.size w wr) (fun _ iv _ => 2 ^ s - (intOf iv).toNat)
  case atStart => exact ⟨0, 0, 0, rfl, rfl, rfl, rfl, Nat.zero_le _, HR1'.out, HR2.out, HB2.out⟩
  case round =>
    obtain ⟨i, qI, iI, rfl, rfl, hiI, hqI, hi, hx, hy, hb⟩ := hrel
    obtain ⟨wa, rfl⟩ : ∃ z : World, z = wr := ⟨_, rfl⟩
    have hcu := cU_le F i 0
    have hs9 := HPS2.out
    have b7 : 0 ≤ iI := by omega
    have b8 : iI ≤ 512 := by omega
    have b9 : 0 ≤ qI := by omega
    have b10 : qI ≤ 512 := by omega
    have HII := Lib.hid hiI; have HQI := Lib.hid hqI; have HX := Lib.hid hx; have HY := Lib.hid hy; have HB := Lib.hid hb; have HI := Lib.hid hi
    by_cases hlt : i < 2 ^ s
    · have q1 : iI < wrap64 (2 ^ sI.toNat) := by rw [HPS.out]; omega
      clear hiI hqI hi hx hy hb hcu hs9 HR1' HR2 HB2
      have HLT := Lib.hid hlt
      clear hlt
      go_wp2_with fail
      refine (Number_I i s iI sI _ HII.out HSI.out (by have := HSI.out; omega) (by have a := HLT.out; have b := HPS2.out; omega) HLT.out).mono ?_
      rintro e w3 ⟨A3, c3, rfl, hc3, hr3, hb3⟩
      have HC3 := Lib.hid hc3; have HR3 := Lib.hid hr3; have HB3 := Lib.hid (bnextN HB.out hb3); have HX3 := Lib.hid (rdNext HX.out hb3); have HY3 := Lib.hid (rdNext HY.out hb3)
      clear hc3 hr3 hb3 HX HY HB
      go_wp2_with fail
      refine (Toeplitz_I A3 A1 s c3 n c1 k kI HK.out (numL i s) X _ (by have := HN5.out; omega) (by have := HN5.out; have := HKN.out; omega) HS.out HC3.out HR3.out HX3.out).mono ?_
      rintro e w4 ⟨A4, c4, rfl, hc4, hr4, hb4⟩
      have HR4 := Lib.hid hr4; have HB4 := Lib.hid (bnextN HB3.out hb4); have HX4 := Lib.hid (rdNext HX3.out hb4); have HY4 := Lib.hid (rdNext HY3.out hb4); have HR34 := Lib.hid (rdNext HR3.out hb4)
      clear hc4 hr4 hb4 HX3 HY3 HB3 HR3
      go_wp2_with fail
      refine (Toeplitz_I A3 A2 s c3 n c2 k kI HK.out (numL i s) Y _ (by have := HN5.out; omega) (by have := HN5.out; have := HKN.out; omega) HS.out HC3.out HR34.out HY4.out).mono ?_
      rintro e w5 ⟨A5, c5, rfl, hc5, hr5, hb5⟩
      have HR5 := Lib.hid hr5; have HB5 := Lib.hid (bnextN HB4.out hb5); have HX5 := Lib.hid (rdNext HX4.out hb5); have HY5 := Lib.hid (rdNext HY4.out hb5); have HR45 := Lib.hid (rdNext HR4.out hb5)
      clear hc5 hr5 hb5 HX4 HY4 HB4 HR34 HR4
      have hkk : ((k : Int) != kI) = false := by rw [HK.out]; simp
      go_wp2_with fail
      refine (Bools_len A4 A5 k c4 c5 _ _ _ (by have := HN5.out; have := HKN.out; omega) HR45.out HR5.out).mono ?_
      rintro e w6 ⟨rfl, hq⟩
      have HB6 := Lib.hid (HB5.out.trans (hq.below _)); have HX6 := Lib.hid (rdNext HX5.out (hq.below _)); have HY6 := Lib.hid (rdNext HY5.out (hq.below _))
      have HSI2 := Lib.hid (HST.out i)
      clear hq HB5 HX5 HY5 HR45 HR5
      generalize toepL (numL i s) X k X.length = P at HSI2 ⊢
      generalize toepL (numL i s) Y k Y.length = Q at HSI2 ⊢
      by_cases hpq : P = Q
      · have hd : decide (P = Q) = true := decide_eq_true hpq
        have HF0 := Lib.hid (HSI2.out.2 hpq)
        rw [hd]
        clear hpq hd
        go_wp2_with fail
        go_roundw
        case rel => exact ⟨i + 1, qI + 1, iI + 1, rfl, rfl, by have := HII.out; omega, by rw [cU, if_pos HF0.out]; have := HQI.out; omega, HLT.out, HX6.out, HY6.out, HB6.out⟩
        case measure => have := HII.out; have := HLT.out; simp [intOf]; omega
      · have hd : decide (P = Q) = false := decide_eq_false hpq
        have HF0 : Hid (¬ F i = 0) := Lib.hid (fun h => hpq (HSI2.out.1 h))
        rw [hd]
        clear hpq hd
        go_wp2_with fail
        go_roundw
        case rel => exact ⟨i + 1, qI, iI + 1, rfl, rfl, by have := HII.out; omega, by rw [cU, if_neg HF0.out]; have := HQI.out; omega, HLT.out, HX6.out, HY6.out, HB6.out⟩
        case measure => have := HII.out; have := HLT.out; simp [intOf]; omega
    · have q1 : ¬ iI < wrap64 (2 ^ sI.toNat) := by rw [HPS.out]; omega
      have HQ2 : Hid (qI = ((if X = Y then 2 ^ s else 2 ^ (s - k) : Nat) : Int)) := Lib.hid (by
        rw [hqI, show i = 2 ^ s by omega, HZ.out])
      clear hiI hqI hi hx hy hb hcu hs9 HR1' HR2 HB2
      go_wp2_with fail
      refine (Bools_len A1 A2 n c1 c2 X Y _ (by have := HN5.out; omega) HX.out HY.out).mono ?_
      rintro e w6 ⟨rfl, hq⟩
      have HB6 := Lib.hid (HB.out.trans (hq.below _))
      clear hq
      by_cases hpq : X = Y
      · have hd : decide (X = Y) = true := decide_eq_true hpq
        have HQ3 : Hid (qI = wrap64 (2 ^ sI.toNat)) := Lib.hid (by rw [HQ2.out, if_pos hpq, HPS.out])
        rw [hd]
        clear hpq hd
        have hqq : (qI == wrap64 (2 ^ sI.toNat)) = true := by rw [← HQ3.out]; simp
        go_wp2_with fail
        refine (works06_any _).mono ?_
        rintro e w7 ⟨rfl, hb⟩
        have HB7 := Lib.hid (bnextN HB6.out hb)
        clear hb
        go_wp2_with fail
        go_ret
        exact ⟨rfl, HB7.out⟩
      · have hd : decide (X = Y) = false := decide_eq_false hpq
        obtain ⟨d, hdd⟩ : ∃ d : Int, d = sI - kI := ⟨_, rfl⟩
        have HD : Hid (sI - kI = d) := Lib.hid hdd.symm
        have d0 : 0 ≤ sI - kI := by have a := HSI.out; have b := HS.out; have c := HK.out; have d := HN5.out; omega
        have HQ3 : Hid (qI = wrap64 (2 ^ (sI - kI).toNat)) := Lib.hid (by
          rw [HQ2.out, if_neg hpq, show (sI - kI).toNat = s - k by have a := HSI.out; have c := HK.out; omega]
          exact (pow_small' _ (by have a := HSI.out; omega)).symm)
        have hqq : (qI == wrap64 (2 ^ (sI - kI).toNat)) = true := by rw [← HQ3.out]; simp
        rw [hd]
        clear hpq hd hdd
        go_wp2_with fail
        refine (works06_any _).mono ?_
        rintro e w7 ⟨rfl, hb⟩
        have HB7 := Lib.hid (bnextN HB6.out hb)
        clear hb
        go_wp2_with fail
        go_ret
        exact ⟨rfl, HB7.out⟩
#print axioms TopMixes_walk
end Go.Proofs.Ytncjmndiafgaaaa
