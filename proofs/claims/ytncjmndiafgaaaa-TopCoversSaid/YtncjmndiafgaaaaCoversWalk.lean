/- The walk of TopCovers. Conditions: as the statement says. -/
import Derived.Test.YtncjmndiafgaaaaTop04
import Derived.Test.YtncjmndiafgaaaaCovMath
import Derived.BigQuiet
namespace Go.Proofs.Ytncjmndiafgaaaa
open Go.RowKit
set_option linter.unusedVariables false
theorem pow_le_all : ∀ m : Fin 11, 1 ≤ 2 ^ m.val ∧ 2 ^ m.val ≤ 1024 := by decide
theorem pow_le' (m : Nat) (h : m < 11) : 1 ≤ 2 ^ m ∧ 2 ^ m ≤ 1024 := pow_le_all ⟨m, h⟩
theorem pow_small' (m : Nat) (h : m < 11) : wrap64 ((2 : Int) ^ m) = ((2 ^ m : Nat) : Int) := by
  have h2 := pow_le' m h
  rw [show (2 : Int) ^ m = ((2 ^ m : Nat) : Int) by push_cast; rfl]
  generalize 2 ^ m = x at h2
  unfold wrap64; omega
theorem i64_and_n (x y : Nat) (hx : x < 9223372036854775808) (hy : y < 9223372036854775808) : bits BinOp.and IntKind.i64 (x : Int) (y : Int) = ((x &&& y : Nat) : Int) := by
  have h1 : (BitVec.ofInt 64 (x : Int)).toNat = x := by rw [BitVec.toNat_ofInt]; omega
  have h2 : (BitVec.ofInt 64 (y : Int)).toNat = y := by rw [BitVec.toNat_ofInt]; omega
  unfold bits
  simp only
  show IntKind.i64.wrap (((BitVec.ofInt 64 (x : Int) &&& BitVec.ofInt 64 (y : Int)).toNat : Nat) : Int) = _
  rw [BitVec.toNat_and, h1, h2]
  have : x &&& y ≤ x := Nat.and_le_left
  generalize x &&& y = z at *
  rw [IntKind.wrap_i64]; omega
theorem cnt_more {F : Nat → Bool} {few set : Nat} (h : few ≤ cntTo F set) (hF : F set = true) : few + 1 ≤ cntTo F (set + 1) := by rw [cntTo, hF]; simp; omega
theorem cnt_keep {F : Nat → Bool} {few set : Nat} (h : few ≤ cntTo F set) : few ≤ cntTo F (set + 1) := by rw [cntTo]; omega
def CovP (w : World) (e : Ending) (w' : World) : Prop := e = .returned (.bool true) ∧ Below w.heap.size w w'
set_option maxRecDepth 100000 in
set_option maxHeartbeats 2000000 in
theorem TopCovers_walk (a0 a1 a2 a3 a4 : Nat) (w : World) (h0 : a0 < 65536) (h1 : a1 < 65536) (h2 : a2 < 65536) (h3 : a3 < 65536) (h4 : a4 < 65536) :
    Calls Try.prog 3 #[.int .u16 (a0 : Int), .int .u16 (a1 : Int), .int .u16 (a2 : Int), .int .u16 (a3 : Int), .int .u16 (a4 : Int)] w (CovP w) := by
  have hp1 := pow_le' (a0 % 11) (by omega)
  have HP := Lib.hid (pow_small' (a0 % 11) (by omega))
  have hnz : ¬ wrap64 (2 ^ (a0 % 11)) = 0 := by rw [HP.out]; omega
  have hz1 : ((a0 : Int) % 11 + 1 = 0) = False := by simp; omega
  obtain ⟨n, hn⟩ : ∃ n, n = a0 % 11 := ⟨_, rfl⟩
  obtain ⟨k, hk⟩ : ∃ k, k = a1 % (n + 1) := ⟨_, rfl⟩
  obtain ⟨bad, hbad⟩ : ∃ bad, bad = a2 % 2 ^ n := ⟨_, rfl⟩
  have hn10 : n ≤ 10 := by omega
  have hkn : k ≤ n := by have := Nat.mod_lt a1 (show 0 < n + 1 by omega); omega
  have hbn : bad < 2 ^ n := by rw [hbad]; exact Nat.mod_lt _ (Nat.pow_pos (by decide))
  obtain ⟨nI, hnI⟩ : ∃ z : Int, z = (n : Int) := ⟨_, rfl⟩
  obtain ⟨kI, hkI⟩ : ∃ z : Int, z = (k : Int) := ⟨_, rfl⟩
  obtain ⟨bI, hbI⟩ : ∃ z : Int, z = (bad : Int) := ⟨_, rfl⟩
  have EN : Hid ((a0 : Int) % 11 = nI) := Lib.hid (by omega)
  have EK : Hid ((a1 : Int) % (nI + 1) = kI) := Lib.hid (by rw [hkI, hnI, hk]; push_cast; rfl)
  have EB : Hid ((a2 : Int) % wrap64 (2 ^ (a0 % 11)) = bI) := Lib.hid (by rw [HP.out, hbI, hbad, hn]; push_cast; rfl)
  have HN := Lib.hid hnI; have HK := Lib.hid hkI; have HB := Lib.hid hbI; have HN10 := Lib.hid hn10; have HKN := Lib.hid hkn; have HBN := Lib.hid hbn; have HEN := Lib.hid hn
  clear hn hk hbad hn10 hkn hbn hnI hkI hbI hp1
  go_enter Try.func3, Try.ntmps3
  go_wp2_with fail
  rw [EN.out, EK.out, EB.out]
  refine (Of_numI a3 a3 _ rfl (by omega)).mono ?_
  rintro e w1 ⟨A1, n1, c1, rfl, hr1, hb1⟩
  have HR1 := Lib.hid hr1; have HB1 := Lib.hid hb1
  clear hr1 hb1
  go_wp2_with fail
  refine (Of_numI (a3 + a4 + 1) _ _ (by omega) (by omega)).mono ?_
  rintro e w2 ⟨A2, n2, c2, rfl, hr2, hb2⟩
  have HB2 := Lib.hid (bnextN HB1.out hb2)
  have HF2 : Hid ((⟨A1, n1, c1, a3, A2, n2, c2, a3 + a4 + 1⟩ : FV).ok w2 w2.heap.size) := Lib.hid ⟨HR1.out.next hb2, hr2, by show 0 < a3 + a4 + 1; omega⟩
  clear hr2 hb2 HR1 HB1
  go_wp2_with fail
  have hba : Below w2.heap.size w2 (w2.alloc (.cells #[.slice A1 n1 c1, .slice A2 n2 c2] 29)) := (Below.refl _ _).alloc (Nat.le_refl _) _
  have HK3 := Lib.hid (BlkN.new w2 #[.slice A1 n1 c1, .slice A2 n2 c2] 29)
  have HF3 := Lib.hid (HF2.out.next hba); have HB3 := Lib.hid (bnextN HB2.out hba)
  clear hba HF2 HB2
  generalize w2.alloc (.cells #[.slice A1 n1 c1, .slice A2 n2 c2] 29) = w3 at HK3 HF3 HB3 ⊢
  obtain ⟨ep, hep⟩ : ∃ x, x = w2.heap.size := ⟨_, rfl⟩
  rw [← hep] at HK3 ⊢
  clear hep
  obtain ⟨v, hv⟩ : ∃ v, v = a3 := ⟨_, rfl⟩
  obtain ⟨u, hu⟩ : ∃ u, u = a3 + a4 + 1 := ⟨_, rfl⟩
  have hvu : v < u := by omega
  have hu9 : u ≤ 140000 := by omega
  rw [← hu, ← hv] at HF3
  have HVU := Lib.hid hvu; have HU9 := Lib.hid hu9
  clear hu hv hvu hu9
  go_loopw [15, 16, 17] (fun fv av sv wr => ∃ (few all set : Nat) (fI aI sI : Int), fv = .int .u64 fI ∧ av = .int .u64 aI ∧ sv = .int .i64 sI ∧ fI = few ∧ aI = all ∧ sI = set ∧ set ≤ 2 ^ n ∧ few ≤ cntTo (outF n k v u bad) set ∧ all = cntTo (fun i => decide (onesN i = k)) set ∧ BlkN wr ep #[.slice A1 n1 c1, .slice A2 n2 c2] 29 ∧ (⟨A1, n1, c1, v, A2, n2, c2, u⟩ : FV).ok wr wr.heap.size ∧ Below w.heap.size w wr) (fun _ _ sv _ => 2 ^ n - (intOf sv).toNat)
  case atStart => exact ⟨0, 0, 0, 0, 0, 0, rfl, rfl, rfl, rfl, rfl, rfl, Nat.zero_le _, Nat.zero_le _, rfl, HK3.out, HF3.out, HB3.out⟩
  case round =>
    obtain ⟨few, all, set, fI, aI, sI, rfl, rfl, rfl, hfI, haI, hsI, hset, hfew, hall, hk, hf, hb⟩ := hrel
    obtain ⟨wa, rfl⟩ : ∃ z : World, z = wr := ⟨_, rfl⟩
    have hm1 := cntTo_max (outF n k v u bad) set
    have hm2 := cntTo_max (fun i => decide (onesN i = k)) set
    have hPn := pow_le' n (by have := HN10.out; omega)
    have HFI := Lib.hid hfI; have HAI := Lib.hid haI; have HSI := Lib.hid hsI; have HSET := Lib.hid hset; have HFEW := Lib.hid hfew; have HALL := Lib.hid hall; have HKK := Lib.hid hk; have HFF := Lib.hid hf; have HBB := Lib.hid hb
    have b1 : 0 ≤ fI := by omega
    have b2 : fI ≤ 1024 := by omega
    have b3 : 0 ≤ aI := by omega
    have b4 : aI ≤ 1024 := by omega
    have b5 : 0 ≤ sI := by omega
    have b6 : sI ≤ 1024 := by omega
    have b7 : 0 ≤ nI := by have := HN.out; omega
    have b8 : nI ≤ 10 := by have := HN.out; have := HN10.out; omega
    have HPS : Hid (wrap64 (2 ^ nI.toNat) = ((2 ^ n : Nat) : Int)) := Lib.hid (by
      have := HN.out
      rw [show nI.toNat = n by omega]; exact pow_small' n (by have := HN10.out; omega))
    by_cases hlt : set < 2 ^ n
    · have q1 : sI < wrap64 (2 ^ nI.toNat) := by rw [HPS.out]; omega
      clear hm1 hm2 hPn hset hfew hall hk hf hb hfI haI hsI HK3 HF3 HB3
      go_wp2_with fail
      refine (ones_any set sI wa HSI.out (by have := HSI.out; omega)).mono ?_
      rintro e w4 ⟨⟨z, hz, rfl⟩, rfl⟩
      have HZ := Lib.hid hz
      by_cases hzk : z = kI
      · have q2 : (z != kI) = false := by simp [hzk]
        have HON := Lib.hid (show onesN set = k by have a := HK.out; rw [hz, a] at hzk; omega)
        have HAND : Hid (bits BinOp.and IntKind.i64 sI bI = ((set &&& bad : Nat) : Int)) := Lib.hid (by
          have a := HSI.out; have b := HB.out; have c := HBN.out
          have d := pow_le' n (by have := HN10.out; omega)
          rw [a, b]; exact i64_and_n _ _ (by omega) (by omega))
        obtain ⟨dI, hdI⟩ : ∃ dI, dI = bits BinOp.and IntKind.i64 sI bI := ⟨_, rfl⟩
        have HAND2 : Hid (dI = ((set &&& bad : Nat) : Int)) := Lib.hid (hdI.trans HAND.out)
        have HDI := Lib.hid hdI
        have HSD : Hid (set &&& bad ≤ 1000000) := Lib.hid (by have a := HSI.out; have : set &&& bad ≤ set := Nat.and_le_left; omega)
        clear hz hzk hdI
        go_wp2_with fail
        rw [← HDI.out]
        refine (ones_any (set &&& bad) dI _ HAND2.out HSD.out).mono ?_
        rintro e w5 ⟨⟨seI, hse, rfl⟩, rfl⟩
        have HSE := Lib.hid hse
        have HSK : Hid (onesN (set &&& bad) ≤ k) := Lib.hid (by have := onesN_and_le set bad; rw [HON.out] at this; exact this)
        have hs1 : 0 ≤ seI := by omega
        have hs2 : seI ≤ 10 := by have a := HSK.out; have b := HKN.out; have c := HN10.out; omega
        have k0 : wa.cell? ⟨ep, 0, none⟩ = some (.slice A1 n1 c1) := HKK.out.cell 0
        have k1 : wa.cell? ⟨ep, 1, none⟩ = some (.slice A2 n2 c2) := HKK.out.cell 1
        clear hse
        go_wp2_with fail
        refine (rate_num ⟨A1, n1, c1, v, A2, n2, c2, u⟩ wa n k (onesN (set &&& bad)) nI kI seI HN.out HK.out HSE.out HN10.out HKN.out HSK.out HFF.out HVU.out (by have := HU9.out; show u ≤ 1000000; omega)).mono ?_
        rintro e w6 ⟨L, LI, hLI, rfl, p1, p2, p3, p4, hb6⟩
        have HP4 : Hid (L = n ∨ possB n k (onesN (set &&& bad)) v u (L + 1) = false) := Lib.hid p4
        have HP2 := Lib.hid p2; have HP1 := Lib.hid p1; have HLI := Lib.hid hLI
        have l1 : 0 ≤ LI := by omega
        have l2 : LI ≤ 10 := by have := HN10.out; omega
        have HK6 := Lib.hid (BlkN.past HKK.out hb6 HKK.out.lt); have HF6 := Lib.hid (HFF.out.next hb6); have HB6 := Lib.hid (bnextN HBB.out hb6)
        clear p1 p2 p3 p4 hLI hb6 k0 k1 HKK HFF HBB
        go_wp2_with fail
        have hbe : Below w6.heap.size w6 (w6.alloc (.cells #[.int .i64 nI, .int .i64 kI, .int .i64 seI, .int .i64 LI, .int .i64 (LI - seI)] 32)) := (Below.refl _ _).alloc (Nat.le_refl _) _
        have hk7 := BlkN.new w6 #[.int .i64 nI, .int .i64 kI, .int .i64 seI, .int .i64 LI, .int .i64 (LI - seI)] 32
        have HK7 := Lib.hid (BlkN.past HK6.out hbe HK6.out.lt); have HF7 := Lib.hid (HF6.out.next hbe); have HB7 := Lib.hid (bnextN HB6.out hbe)
        have hr4 : (w6.alloc (.cells #[.int .i64 nI, .int .i64 kI, .int .i64 seI, .int .i64 LI, .int .i64 (LI - seI)] 32)).cell? ⟨w6.heap.size, 4, none⟩ = some (.int .i64 (LI - seI)) := hk7.cell 4
        clear hbe hk7 HK6 HF6 HB6
        generalize w6.alloc (.cells #[.int .i64 nI, .int .i64 kI, .int .i64 seI, .int .i64 LI, .int .i64 (LI - seI)] 32) = w7 at hr4 HK7 HF7 HB7 ⊢
        obtain ⟨oI, hoI⟩ : ∃ oI : Int, oI = onesN bad := ⟨_, rfl⟩
        have HOI := Lib.hid hoI
        have HOB : Hid (onesN bad ≤ n) := Lib.hid (onesN_le_bits n bad HBN.out)
        have o1 : 0 ≤ oI := by omega
        have o2 : oI ≤ 10 := by have a := HOB.out; have b := HN10.out; omega
        have HONES : Hid (∀ t : Nat, Calls Try.prog 6 #[.int .i64 bI] (w7.drewN t) fun e w' => e = .returned (.int .i64 oI) ∧ w7.drewN t = w') := Lib.hid fun t => (ones_any bad bI _ HB.out (by have a := HBN.out; have b := pow_le' n (by have := HN10.out; omega); omega)).mono (by
          rintro e w' ⟨⟨z, hz, rfl⟩, rfl⟩
          exact ⟨by rw [hz, HOI.out], rfl⟩)
        have hw1 : IntKind.i64.wrap (oI - seI) = oI - seI := by rw [IntKind.wrap_i64]; omega
        clear hoI
        by_cases hov : LI - seI < oI - seI
        · have HF : Hid (outF n k v u bad set = true) := Lib.hid (by
            have a1 := HON.out; have a2 := HLI.out; have a3 := HOI.out; have a4 := HOB.out; have a5 := HSE.out
            unfold outF
            rw [Bool.and_eq_true, decide_eq_true_eq, Bool.not_eq_true']
            refine ⟨a1, ?_⟩
            rcases HP4.out with h5 | h5
            · exfalso; omega
            · have h6 := poss_down n k _ v u (L + 1) HSK.out h5 (onesN bad - (L + 1)) (by omega)
              rwa [show L + 1 + (onesN bad - (L + 1)) = onesN bad by omega] at h6)
          go_quiet ((go_at_call 6; exact quiet_e (HONES.out _)))
          have hq : Qw w7 (w7.drewN nq) := ⟨_, rfl⟩
          have HK8 := Lib.hid (BlkN.past HK7.out (hq.below w7.heap.size) HK7.out.lt); have HF8 := Lib.hid (HF7.out.next (hq.below _)); have HB8 := Lib.hid (bnextN HB7.out (hq.below _))
          clear hq hr4 HK7 HF7 HB7 HONES
          generalize w7.drewN nq = w8 at HK8 HF8 HB8 ⊢
          go_wp2_with fail
          go_roundw
          case rel => exact ⟨few + 1, all + 1, set + 1, fI + 1, aI + 1, sI + 1, rfl, rfl, rfl, by have := HFI.out; omega, by have := HAI.out; omega, by have := HSI.out; omega, by omega, cnt_more HFEW.out HF.out, by rw [cntTo, ← HALL.out]; simp [HON.out], HK8.out, HF8.out, HB8.out⟩
          case measure => have := HSI.out; simp [intOf]; omega
        · go_quiet ((go_at_call 6; exact quiet_e (HONES.out _)))
          have hq : Qw w7 (w7.drewN nq) := ⟨_, rfl⟩
          have HK8 := Lib.hid (BlkN.past HK7.out (hq.below w7.heap.size) HK7.out.lt); have HF8 := Lib.hid (HF7.out.next (hq.below _)); have HB8 := Lib.hid (bnextN HB7.out (hq.below _))
          clear hq hr4 HK7 HF7 HB7 HONES
          generalize w7.drewN nq = w8 at HK8 HF8 HB8 ⊢
          go_wp2_with fail
          go_roundw
          case rel => exact ⟨few, all + 1, set + 1, fI, aI + 1, sI + 1, rfl, rfl, rfl, HFI.out, by have := HAI.out; omega, by have := HSI.out; omega, by omega, cnt_keep HFEW.out, by rw [cntTo, ← HALL.out]; simp [HON.out], HK8.out, HF8.out, HB8.out⟩
          case measure => have := HSI.out; simp [intOf]; omega
      · have q2 : (z != kI) = true := by simp [hzk]
        clear hz
        go_wp2_with fail
        go_roundw
        case rel => exact ⟨few, all, set + 1, fI, aI, sI + 1, rfl, rfl, rfl, HFI.out, HAI.out, by have := HSI.out; omega, by omega, cnt_keep HFEW.out, by
          have hne : onesN set ≠ k := by have a := HK.out; have b := HZ.out; omega
          rw [cntTo, ← HALL.out]; simp [hne], HKK.out, HFF.out, HBB.out⟩
        case measure => have := HSI.out; simp [intOf]; omega
    · have q1 : ¬ sI < wrap64 (2 ^ nI.toNat) := by rw [HPS.out]; omega
      clear hm1 hm2 hPn hset hfew hall hk hf hb hfI haI hsI HK3 HF3 HB3
      have HEQ : Hid (set = 2 ^ n) := Lib.hid (by have := HSET.out; omega)
      have HC1 : Hid (few * u ≤ v * bin n k) := Lib.hid (by
        have a := covers_law n k v u bad HBN.out
        have b := HFEW.out
        rw [HEQ.out] at b
        exact Nat.le_trans (Nat.mul_le_mul_right u b) a)
      have HC2 : Hid (all = bin n k) := Lib.hid (by rw [HALL.out, HEQ.out]; exact count_all n bad k HBN.out)
      have HC3 : Hid (0 < all) := Lib.hid (by rw [HC2.out]; exact bin_pos n HN10.out k HKN.out)
      have HC4 : Hid (few ≤ 1024) := Lib.hid (by have := HFI.out; omega)
      have HC5 : Hid (all ≤ 1024) := Lib.hid (by have := HAI.out; omega)
      have HC6 : Hid (few * u ≤ 4000000000) := Lib.hid (by
        have a := Nat.mul_le_mul HC4.out HU9.out
        omega)
      have HC7 : Hid (v * all ≤ 4000000000) := Lib.hid (by
        have a := HVU.out; have b := HU9.out
        have c := Nat.mul_le_mul (show v ≤ 140000 by omega) HC5.out
        omega)
      obtain ⟨zI, hzI⟩ : ∃ z, z = ordI (few * u) (v * all) := ⟨_, rfl⟩
      have hz0 : zI ≤ 0 := by
        have a := HC1.out; have b := HC2.out
        rw [b] at hzI
        unfold ordI at hzI
        split at hzI
        · omega
        · rw [if_neg (by omega)] at hzI; omega
      have HZI := Lib.hid hzI
      have HEP := Lib.hid HKK.out.lt
      clear hzI
      go_wp2_with fail
      have b0 : FBox wa ep ⟨A1, n1, c1, v, A2, n2, c2, u⟩ := ⟨HKK.out.cell 0, HKK.out.cell 1⟩
      go_region_held3 (fun w' => FBox w' ep ⟨A1, n1, c1, v, A2, n2, c2, u⟩) (first | exact b0 | exact b1 | exact b2 | exact b3)
        ((first
          | (have hsecond := b1
             go_at_call 5
             refine (Of_numI all aI _ HAI.out (by have := HC5.out; omega)).mono ?_
             rintro e w2 ⟨A4, n4, c4, rfl, hr2, hb2⟩
             have b2 := FBox.past b1 hb2 (Nat.lt_of_lt_of_le HEP.out HB1.out.size)
             have HB2 := Lib.hid (bnextN HB1.out hb2); have HR2 := Lib.hid hr2; have HR1' := Lib.hid (HR1.out.next hb2)
             clear hr2 hb2)
          | (go_at_call 5
             refine (Of_numI few fI _ HFI.out (by have := HC4.out; omega)).mono ?_
             rintro e w1 ⟨A3, n3, c3, rfl, hr1, hb1⟩
             have b1 := FBox.past (w := World.drew wa) b0 hb1 HEP.out
             have HB1 := Lib.hid ((Qw.below (⟨1, rfl⟩ : Qw wa (World.drew wa)) wa.heap.size).trans hb1); have HR1 := Lib.hid hr1
             clear hr1 hb1)
          | (go_at_call 8
             refine (compare_num ⟨A3, n3, c3, few, A4, n4, c4, all⟩ ⟨A1, n1, c1, v, A2, n2, c2, u⟩ _ ⟨HR1'.out, HR2.out, HC3.out⟩ (HFF.out.next HB2.out) HC6.out HC7.out).mono ?_
             rintro e w3 ⟨he, hb3⟩
             obtain rfl : e = .returned (.tuple #[.int .i64 zI, .int .i64 0]) := by rw [HZI.out]; exact he
             have b3 := FBox.past b2 hb3 (Nat.lt_of_lt_of_le HEP.out HB2.out.size)
             have HB3 := Lib.hid (bnextN HB2.out hb3)
             clear hb3 he)))
      have HBF := Lib.hid (bnextN HBB.out HB3.out)
      go_wp2_with fail
      refine (works04_any _).mono ?_
      rintro e w9 ⟨rfl, hb9⟩
      have HB9 := Lib.hid (bnextN HBF.out hb9)
      clear hb9
      go_wp2_with fail
      go_ret
      exact ⟨rfl, HB9.out⟩
#print axioms TopCovers_walk
end Go.Proofs.Ytncjmndiafgaaaa
