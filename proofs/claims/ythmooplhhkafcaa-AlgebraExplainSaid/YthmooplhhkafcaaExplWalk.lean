/- The walk of AlgebraExplain: it returns true for any shares, number and secret. -/
import Derived.Test.YthmooplhhkafcaaExplAll
import Derived.Test.YthmooplhhkafcaaOwnShares
import Derived.Test.YthmooplhhkafcaaOpenShares
import Derived.Test.YthmooplhhkafcaaKnown
namespace Go.Proofs.Ythmooplhhkafcaa
open Go.RowKit
set_option linter.unusedVariables false
theorem chk_view {l m : List ShareV} (hl : ShLen l) (hm : ShLen m) (h : l.map ShareV.view = m.map ShareV.view) (n : Nat) : chkE n [] l = chkE n [] m := by
  rw [← chkE_canon n l [] hl, ← chkE_canon n m [] hm, canon_view h]
theorem coinsX_view {l m : List ShareV} (h : l.map ShareV.view = m.map ShareV.view) (sec : List Nat) (q n : Nat) : coinsX l sec q n = coinsX m sec q n := by
  rw [← coinsX_canon l, ← coinsX_canon m, canon_view h]
theorem explS_bytes {w : World} {B n : Nat} {A : Option Addr} {l : List ShareV} (h : ShR w B A n l) (k : Int) {sec : List Nat} (hs : Bytes sec) : Bytes (explS l k sec) := by
  unfold explS
  split
  · rename_i h0
    have hz : chkE sec.length [] l = 0 := by
      unfold explE at h0
      split at h0
      · omega
      · split at h0
        · omega
        · split at h0
          · omega
          · exact h0
    exact coinsX_bytes (chk_good _ l [] hz).1 (fun s hs => ⟨(h.2.2 s hs).1, (h.2.2 s hs).2.1⟩) hs _
  · exact Bytes.nil
theorem Split_16 (A A' : Option Addr) (n c m c' q : Nat) (sec co : List Nat) (w : World) (hn : n ≤ 256) (hq : q ≤ 15) (hm : m = n * q) (hmc : m ≤ c') (hs : Bytes sec) (hco : Bytes co)
    (h : Rd w w.heap.size 1 A n (u8s sec)) (h' : Rd w w.heap.size 1 A' m (u8s co)) :
    Calls Try.prog 25 #[.slice A n c, .int .i64 16, .int .i64 ((q : Int) + 1), .slice A' m c'] w
      fun e w' => e = .returned (.tuple #[.slice (some ⟨w.heap.size, 0, none⟩) 16 16, .int .i64 0]) ∧ SharesW w' w.heap.size n 16 q sec co 16 ∧ Below w.heap.size w w' :=
  Split_ok A A' n c m c' 16 q sec co w hn (by decide) (by decide) (by omega) hm hmc hs hco h h'
set_option maxRecDepth 100000 in
theorem Expl_big (A A' : Option Addr) (n c m c' : Nat) (k : Int) (w : World) (hm1 : n ≤ 9223372036854775807) (hm2 : m ≤ 9223372036854775807) (h : 20 < n ∨ 300 < m) :
    Calls Try.prog 4 #[.slice A n c, .int .i64 k, .slice A' m c'] w fun e w' => e = .returned (.bool true) ∧ Below w.heap.size w w' := by
  by_cases g : 20 < n
  · have g1 : (20 : Int) < (n : Int) := by omega
    clear h g
    go_enter Try.func4, Try.ntmps4
    go_wp2_with (go_at_call 12; refine (known_any _).mono ?_; rintro e w9 ⟨rfl, hb9⟩)
    go_ret
    exact ⟨rfl, hb9⟩
  · have g1 : (n : Int) ≤ 20 := by omega
    have g2 : (300 : Int) < (m : Int) := by omega
    clear h g
    go_enter Try.func4, Try.ntmps4
    go_wp2_with (go_at_call 12; refine (known_any _).mono ?_; rintro e w9 ⟨rfl, hb9⟩)
    go_ret
    exact ⟨rfl, hb9⟩
set_option maxRecDepth 100000 in
set_option maxHeartbeats 2000000 in
theorem ExplLaw_no (A A' : Option Addr) (n c m c' : Nat) (l : List ShareV) (sec : List Nat) (w : World) (k : Int) (hE : explE l k sec.length ≠ 0) (hn : n ≤ 20) (hm : m ≤ 300) (hnc : n ≤ c) (hmc : m ≤ c') (hll : l.length = n) (hrd : Rd w w.heap.size 2 A n (shCells l)) (hraw : ∀ s ∈ l, s.raw w) (hs : Bytes sec) (hrs : Rd w w.heap.size 1 A' m (u8s sec)) :
    Calls Try.prog 4 #[.slice A n c, .int .i64 k, .slice A' m c'] w fun e w' => e = .returned (.bool true) ∧ Below w.heap.size w w' := by
  have g1 : (n : Int) ≤ 20 := by omega
  have g2 : (m : Int) ≤ 300 := by omega
  have HL := Lib.hid hll; have HR := Lib.hid hrd; have HW := Lib.hid hraw; have HSB := Lib.hid hs; have HRS := Lib.hid hrs; have HE := Lib.hid hE
  clear hll hrd hraw hs hrs hE
  go_enter Try.func4, Try.ntmps4
  go_wp2_with fail
  go_loop [7] (fun v => ∃ i : Nat, i ≤ n ∧ v = .int .i64 i ∧ ∀ s ∈ l.take i, s.n ≤ 100) (fun v => n - (intOf v).toNat)
  case atStart => exact ⟨0, Nat.zero_le _, rfl, fun s hs => by simp at hs⟩
  case round =>
    obtain ⟨i, hi, rfl, hall⟩ := hrel
    have HA := Lib.hid hall
    clear hall
    by_cases hlt : i < n
    · have hlt' : (i : Int) < (n : Int) := by omega
      have hil : i < l.length := by rw [HL.out]; exact hlt
      obtain ⟨b, off, rfl, hb, hc⟩ := HR.out.2 (by omega)
      have c1 : w.cell? ⟨b, off + i * 2 + 1, none⟩ = some (.slice (l[i]).A (l[i]).n (l[i]).c) := hc _ _ (shCells_1 l i hil)
      have hraw := HW.out _ (List.getElem_mem hil)
      have hmx : (l[i]).n ≤ 9223372036854775807 := Nat.le_trans hraw.2.2.1 hraw.2.2.2.1
      have HT : Hid (∀ h300 : (l[i]).n ≤ 100, ∀ s ∈ l.take (i + 1), s.n ≤ 100) := Lib.hid (fun h300 s hs => by
        rw [take_snoc _ _ hil] at hs
        rcases List.mem_append.1 hs with h | h
        · exact HA.out s h
        · rw [List.mem_singleton.1 h]; exact h300)
      generalize l[i] = s at c1 HT hmx hraw
      clear hc hil hraw
      obtain ⟨X, A1, n1, cp1, Y⟩ := s
      dsimp only at c1 HT hmx
      by_cases h3 : 100 < n1
      · have h3' : (100 : Int) < (n1 : Int) := by omega
        clear HT
        go_wp2_with (go_at_call 12; refine (known_any _).mono ?_; rintro e w9 ⟨rfl, hb9⟩)
        go_ret
        exact ⟨rfl, hb9⟩
      · have h3' : (n1 : Int) ≤ 100 := by omega
        have HT2 := Lib.hid (HT.out (by omega))
        clear HT
        go_wp2_with fail
        go_round
        case rel => exact ⟨i + 1, hlt, by go_num, HT2.out⟩
        case measure => simp [intOf]; omega
    · have hlt' : ¬ (i : Int) < (n : Int) := by omega
      obtain rfl : i = n := by omega
      have hall : ∀ s ∈ l, s.n ≤ 100 := by have := HA.out; rwa [List.take_of_length_le (by rw [HL.out]; exact Nat.le_refl _)] at this
      have L0 : Hid (ShR w w.heap.size A i l) := Lib.hid ⟨HL.out, HR.out, fun s hs => (HW.out s hs).ok (by have := hall s hs; omega)⟩
      have LL := Lib.hid L0.out.lens
      have C0 := HRS
      clear HA hall HR HW
      go_wp2_with fail
      refine (own_any _ _ _ l _ (by omega) (L0.out)).mono ?_
      rintro e w1 ⟨A1, c1, mm, rfl, hc1, hso1, hv1, hb1⟩
      have s1 := hb1.size
      have B1 : Below w.heap.size w w1 := hb1
      have L1 := Lib.hid ((L0.out.below hb1).mono s1); clear L0
      have C1 := Lib.hid ((C0.out.below hb1).mono s1); clear C0
      have M1 := Lib.hid hso1.rd; have HV := Lib.hid hv1; clear hso1 hv1
      try dsimp only [id]
      have HJV := Lib.hid (expl_view (M1.out.lens) LL.out HV.out k sec)
      have JB : Hid (Bytes (explS l k sec)) := Lib.hid (explS_bytes L1.out k HSB.out)
      go_wp2_with fail
      refine (Expl_any _ _ _ _ _ _ k mm sec _ (by omega) (M1.out) HSB.out (C1.out)).mono ?_
      rintro e w2 ⟨A2, m2, c2, rfl, hc2, hS2, hr2, hb2⟩
      have s2 := hb2.size
      have B2 : Below w.heap.size w w2 := B1.trans (hb2.mono (by omega))
      have L2 := Lib.hid ((L1.out.below hb2).mono s2); clear L1
      have C2 := Lib.hid ((C1.out.below hb2).mono s2); clear C1
      have M2 := Lib.hid ((M1.out.below hb2).mono s2); clear M1
      rw [HJV.out.2] at hS2 hr2
      rw [HJV.out.1]
      have S2 := Lib.hid hr2; clear hr2 hS2
      go_wp2_with fail
      refine (refExpl_any _ _ _ _ _ _ k l sec _ (by omega) (L2.out) HSB.out (C2.out)).mono ?_
      rintro e w3 ⟨A3, m3, c3, rfl, hc3, hS3, hr3, hb3⟩
      have s3 := hb3.size
      have B3 : Below w.heap.size w w3 := B2.trans (hb3.mono (by omega))
      have L3 := Lib.hid ((L2.out.below hb3).mono s3); clear L2
      have C3 := Lib.hid ((C2.out.below hb3).mono s3); clear C2
      have M3 := Lib.hid ((M2.out.below hb3).mono s3); clear M2
      have S3 := Lib.hid ((S2.out.below hb3).mono s3); clear S2
      have R3 := Lib.hid hr3; clear hr3 hS3
      clear HJV
      have hne : (explE l k sec.length != 0) = true := by simpa using HE.out
      generalize explE l k sec.length = E at hne ⊢
      go_wp2_with fail
      refine (same_yes _ _ _ _ _ _ (explS l k sec) _ _ JB.out (S3.out) (R3.out)).mono ?_
      rintro e w' ⟨rfl, rfl⟩
      go_wp2_with fail
      refine (sameShares_yes _ _ _ _ _ mm l _ _ (by omega) (M3.out) (L3.out) HV.out).mono ?_
      rintro e w4 ⟨rfl, hq4⟩
      have hb4 := hq4.below w3.heap.size
      have s4 := hb4.size
      have B4 : Below w.heap.size w w4 := B3.trans (hb4.mono (by omega))
      have L4 := Lib.hid ((L3.out.below hb4).mono s4); clear L3
      have C4 := Lib.hid ((C3.out.below hb4).mono s4); clear C3
      have M4 := Lib.hid ((M3.out.below hb4).mono s4); clear M3
      have S4 := Lib.hid ((S3.out.below hb4).mono s4); clear S3
      have R4 := Lib.hid ((R3.out.below hb4).mono s4); clear R3
      go_wp2_with fail
      refine (known_any _).mono ?_
      rintro e w5 ⟨rfl, hb5⟩
      have s5 := hb5.size
      have B5 : Below w.heap.size w w5 := B4.trans (hb5.mono (by omega))
      have L5 := Lib.hid ((L4.out.below hb5).mono s5); clear L4
      have C5 := Lib.hid ((C4.out.below hb5).mono s5); clear C4
      have M5 := Lib.hid ((M4.out.below hb5).mono s5); clear M4
      have S5 := Lib.hid ((S4.out.below hb5).mono s5); clear S4
      have R5 := Lib.hid ((R4.out.below hb5).mono s5); clear R4
      go_wp2_with fail; go_ret; exact ⟨rfl, B5⟩
set_option maxRecDepth 100000 in
set_option maxHeartbeats 2000000 in
theorem ExplLaw_yes (A A' : Option Addr) (n c m c' : Nat) (l : List ShareV) (sec : List Nat) (w : World) (q : Nat) (hm256 : m ≤ 256) (hq : q ≤ 15) (hnq : n ≤ q) (hE : chkE m [] l = 0) (hn : n ≤ 20) (hm : m ≤ 300) (hnc : n ≤ c) (hmc : m ≤ c') (hll : l.length = n) (hrd : Rd w w.heap.size 2 A n (shCells l)) (hraw : ∀ s ∈ l, s.raw w) (hs : Bytes sec) (hrs : Rd w w.heap.size 1 A' m (u8s sec)) :
    Calls Try.prog 4 #[.slice A n c, .int .i64 ((q : Int) + 1), .slice A' m c'] w fun e w' => e = .returned (.bool true) ∧ Below w.heap.size w w' := by
  have g1 : (n : Int) ≤ 20 := by omega
  have g2 : (m : Int) ≤ 300 := by omega
  have HL := Lib.hid hll; have HR := Lib.hid hrd; have HW := Lib.hid hraw; have HSB := Lib.hid hs; have HRS := Lib.hid hrs; have HE := Lib.hid hE
  clear hll hrd hraw hs hrs hE
  go_enter Try.func4, Try.ntmps4
  go_wp2_with fail
  go_loop [7] (fun v => ∃ i : Nat, i ≤ n ∧ v = .int .i64 i ∧ ∀ s ∈ l.take i, s.n ≤ 100) (fun v => n - (intOf v).toNat)
  case atStart => exact ⟨0, Nat.zero_le _, rfl, fun s hs => by simp at hs⟩
  case round =>
    obtain ⟨i, hi, rfl, hall⟩ := hrel
    have HA := Lib.hid hall
    clear hall
    by_cases hlt : i < n
    · have hlt' : (i : Int) < (n : Int) := by omega
      have hil : i < l.length := by rw [HL.out]; exact hlt
      obtain ⟨b, off, rfl, hb, hc⟩ := HR.out.2 (by omega)
      have c1 : w.cell? ⟨b, off + i * 2 + 1, none⟩ = some (.slice (l[i]).A (l[i]).n (l[i]).c) := hc _ _ (shCells_1 l i hil)
      have hraw := HW.out _ (List.getElem_mem hil)
      have hmx : (l[i]).n ≤ 9223372036854775807 := Nat.le_trans hraw.2.2.1 hraw.2.2.2.1
      have HT : Hid (∀ h300 : (l[i]).n ≤ 100, ∀ s ∈ l.take (i + 1), s.n ≤ 100) := Lib.hid (fun h300 s hs => by
        rw [take_snoc _ _ hil] at hs
        rcases List.mem_append.1 hs with h | h
        · exact HA.out s h
        · rw [List.mem_singleton.1 h]; exact h300)
      generalize l[i] = s at c1 HT hmx hraw
      clear hc hil hraw
      obtain ⟨X, A1, n1, cp1, Y⟩ := s
      dsimp only at c1 HT hmx
      by_cases h3 : 100 < n1
      · have h3' : (100 : Int) < (n1 : Int) := by omega
        clear HT
        go_wp2_with (go_at_call 12; refine (known_any _).mono ?_; rintro e w9 ⟨rfl, hb9⟩)
        go_ret
        exact ⟨rfl, hb9⟩
      · have h3' : (n1 : Int) ≤ 100 := by omega
        have HT2 := Lib.hid (HT.out (by omega))
        clear HT
        go_wp2_with fail
        go_round
        case rel => exact ⟨i + 1, hlt, by go_num, HT2.out⟩
        case measure => simp [intOf]; omega
    · have hlt' : ¬ (i : Int) < (n : Int) := by omega
      obtain rfl : i = n := by omega
      have hall : ∀ s ∈ l, s.n ≤ 100 := by have := HA.out; rwa [List.take_of_length_le (by rw [HL.out]; exact Nat.le_refl _)] at this
      have L0 : Hid (ShR w w.heap.size A i l) := Lib.hid ⟨HL.out, HR.out, fun s hs => (HW.out s hs).ok (by have := hall s hs; omega)⟩
      have LL := Lib.hid L0.out.lens
      have C0 := HRS
      clear HA hall HR HW
      go_wp2_with fail
      refine (own_any _ _ _ l _ (by omega) (L0.out)).mono ?_
      rintro e w1 ⟨A1, c1, mm, rfl, hc1, hso1, hv1, hb1⟩
      have s1 := hb1.size
      have B1 : Below w.heap.size w w1 := hb1
      have L1 := Lib.hid ((L0.out.below hb1).mono s1); clear L0
      have C1 := Lib.hid ((C0.out.below hb1).mono s1); clear C0
      have M1 := Lib.hid hso1.rd; have HV := Lib.hid hv1; clear hso1 hv1
      try dsimp only [id]
      have HE1 : Hid (chkE m [] mm = 0) := Lib.hid (by rw [chk_view M1.out.lens LL.out HV.out]; exact HE.out)
      have HCV : Hid (coinsX mm sec q m = coinsX l sec q m) := Lib.hid (coinsX_view HV.out sec q m)
      have hbs : ShBytes l := fun s hs => ⟨(L1.out.2.2 s hs).1, (L1.out.2.2 s hs).2.1⟩
      have HG := Lib.hid (chk_good m l [] HE.out).1; have HBS := Lib.hid hbs
      have JB : Hid (Bytes (coinsX l sec q m)) := Lib.hid (coinsX_bytes HG.out HBS.out HSB.out m)
      have HCL : Hid ((coinsX l sec q m).length = m * q) := Lib.hid (coinsX_len HG.out HBS.out HSB.out (by rw [HL.out]; exact hnq) m)
      clear hbs
      go_wp2_with fail
      refine (Expl_ok _ _ _ _ _ _ q mm sec _ hm256 hq hnq (M1.out) HSB.out (C1.out) HE1.out).mono ?_
      rintro e w2 ⟨A2, m2, c2, rfl, hc2, hS2, hr2, hb2⟩
      have s2 := hb2.size
      have B2 : Below w.heap.size w w2 := B1.trans (hb2.mono (by omega))
      have L2 := Lib.hid ((L1.out.below hb2).mono s2); clear L1
      have C2 := Lib.hid ((C1.out.below hb2).mono s2); clear C1
      have M2 := Lib.hid ((M1.out.below hb2).mono s2); clear M1
      rw [HCV.out] at hS2 hr2
      have S2 := Lib.hid hr2; have HS2 := Lib.hid hS2; clear hr2 hS2
      go_wp2_with fail
      refine (refExpl_ok _ _ _ _ _ _ q l sec _ hm256 hq hnq (L2.out) HSB.out (C2.out) HE.out).mono ?_
      rintro e w3 ⟨A3, m3, c3, rfl, hc3, hS3, hr3, hb3⟩
      have s3 := hb3.size
      have B3 : Below w.heap.size w w3 := B2.trans (hb3.mono (by omega))
      have L3 := Lib.hid ((L2.out.below hb3).mono s3); clear L2
      have C3 := Lib.hid ((C2.out.below hb3).mono s3); clear C2
      have M3 := Lib.hid ((M2.out.below hb3).mono s3); clear M2
      have S3 := Lib.hid ((S2.out.below hb3).mono s3); clear S2
      have R3 := Lib.hid hr3; clear hr3 hS3
      go_wp2_with fail
      refine (same_yes _ _ _ _ _ _ (coinsX l sec q m) _ _ JB.out (S3.out) (R3.out)).mono ?_
      rintro e w' ⟨rfl, rfl⟩
      go_wp2_with fail
      refine (sameShares_yes _ _ _ _ _ mm l _ _ (by omega) (M3.out) (L3.out) HV.out).mono ?_
      rintro e w4 ⟨rfl, hq4⟩
      have hb4 := hq4.below w3.heap.size
      have s4 := hb4.size
      have B4 : Below w.heap.size w w4 := B3.trans (hb4.mono (by omega))
      have L4 := Lib.hid ((L3.out.below hb4).mono s4); clear L3
      have C4 := Lib.hid ((C3.out.below hb4).mono s4); clear C3
      have M4 := Lib.hid ((M3.out.below hb4).mono s4); clear M3
      have S4 := Lib.hid ((S3.out.below hb4).mono s4); clear S3
      have R4 := Lib.hid ((R3.out.below hb4).mono s4); clear R3
      go_wp2_with fail
      refine (Split_16 _ _ _ _ _ _ q sec (coinsX l sec q m) _ hm256 hq (by rw [← HS2.out, HCL.out]) hc2 HSB.out JB.out (C4.out) (S4.out)).mono ?_
      rintro e w5 ⟨rfl, hsw, hb5⟩
      have s5 := hb5.size
      have B5 : Below w.heap.size w w5 := B4.trans (hb5.mono (by omega))
      have L5 := Lib.hid ((L4.out.below hb5).mono s5); clear L4
      have C5 := Lib.hid ((C4.out.below hb5).mono s5); clear C4
      have M5 := Lib.hid ((M4.out.below hb5).mono s5); clear M4
      have S5 := Lib.hid ((S4.out.below hb5).mono s5); clear S4
      have R5 := Lib.hid ((R4.out.below hb5).mono s5); clear R4
      have SH5 : Hid (ShR w5 w5.heap.size (some ⟨w4.heap.size, 0, none⟩) 16 (progV w4.heap.size m 16 q sec (coinsX l sec q m))) := Lib.hid ((hsw.shr hm256 (by decide) HSB.out JB.out).mono (by rw [hsw.1]; exact Nat.le_refl _)); clear hsw
      go_wp2_with fail
      go_loopw [15] (fun v wr => ∃ t : Nat, t ≤ i ∧ v = .int .i64 t ∧ Qw w5 wr) (fun v _ => i - (intOf v).toNat)
      case atStart => exact ⟨0, Nat.zero_le _, rfl, Qw.refl _⟩
      case round =>
        obtain ⟨t, ht, rfl, hqx⟩ := hrel
        by_cases hti : t < i
        · have hti' : (t : Int) < (i : Int) := by omega
          obtain ⟨b2, o2, s, rfl, hls, hb2l, c0, c1, hok⟩ := (L5.out.q hqx).at hti
          have hmem := List.mem_of_getElem? hls
          have hX := HG.out.x s hmem
          have hsn := HG.out.n s hmem
          have HSY : Hid (shareY sec (coinsX l sec q m) q s.X m = s.Y) := Lib.hid (expl_share HG.out HBS.out LL.out HSB.out (by have := C5.out.1; simpa [u8s] using this) (by rw [HL.out]; exact hnq) hmem)
          obtain ⟨x0, hx0⟩ : ∃ x0, s.X = x0 + 1 := ⟨s.X - 1, by omega⟩
          obtain ⟨b3, o3, s3, hA3, hl3, hb3l, d0, d1, hok3⟩ := (SH5.out.q hqx).at (i := x0) (by omega)
          have hp3 : s3 = ⟨x0 + 1, some ⟨w4.heap.size + 1 + x0, 0, none⟩, m, m, shareY sec (coinsX l sec q m) q (x0 + 1) m⟩ := by
            have hlen : x0 < (progV w4.heap.size m 16 q sec (coinsX l sec q m)).length := by rw [progV_len]; omega
            rw [List.getElem?_eq_getElem hlen] at hl3
            rw [← Option.some.inj hl3, progV_get]
          subst hp3
          injection hA3 with hA3; injection hA3 with e1 e2 _
          subst e1 e2
          have r1 := hok.2.2.2.2.2
          have r3 := hok3.2.2.2.2.2
          dsimp only at d1 r3
          rw [← hx0, HSY.out] at r3
          have HY := Lib.hid hok.2.1
          obtain ⟨X, As, ns, cs, Ys⟩ := s
          dsimp only at c0 c1 r1 hx0 hX hsn HY r3
          subst hx0
          have hwx : IntKind.u8.wrap (((x0 + 1 : Nat) : Int) - 1) = (x0 : Int) := by rw [IntKind.wrap_u8]; omega
          have hwx2 : IntKind.u8.wrap ((x0 : Int) + 1 - 1) = (x0 : Int) := by rw [IntKind.wrap_u8]; omega
          have hwx3 : IntKind.u8.wrap (x0 : Int) = (x0 : Int) := by rw [IntKind.wrap_u8]; omega
          have hx16 : (x0 : Int) < 16 := by omega
          rw [Nat.zero_add] at d1
          rw [show ns = m from hsn] at r1
          have HR1 := Lib.hid r1; have HR3 := Lib.hid r3
          clear r1 r3 hok hok3 hl3 hls hmem d0 HSY
          have HSAME : Hid (∀ k : Nat, Calls Try.prog 18 #[.slice (some ⟨w4.heap.size + 1 + x0, 0, none⟩) m m, .slice As m cs] (wr.drewN k) fun e w' => e = .returned (.bool true) ∧ wr.drewN k = w') := Lib.hid fun k => same_yes _ _ _ _ _ _ Ys _ _ HY.out (HR3.out.drewN k) (HR1.out.drewN k)
          go_wp2_with fail
          go_quiet ((go_at_call 18; exact quiet_e (HSAME.out _)))
          go_wp2_with fail
          go_roundw
          case rel => exact ⟨t + 1, hti, by go_num, hqx.drewN _⟩
          case measure => simp [intOf]; omega
        · have hti' : ¬ (t : Int) < (i : Int) := by omega
          have Bx := B5.trans (hqx.below w.heap.size)
          go_wp2_with (go_at_call 12; refine (known_any _).mono ?_; rintro e w9 ⟨rfl, hb9⟩)
          go_ret
          exact ⟨rfl, Bx.trans (hb9.mono Bx.size)⟩
theorem AlgebraExplain_walk (v0 : Value) (i0 : SharesArg) (k : Int) (v2 : Value) (i2 : BytesArg) (w : World) (hx : IsShares w v0 i0) (_ : -9223372036854775808 ≤ k ∧ k ≤ 9223372036854775807) (hx2 : IsBytes w v2 i2) :
    Calls Try.prog 4 #[v0, .int .i64 k, v2] w fun e w' => e = .returned (.bool true) ∧ Below w.heap.size w w' := by
  obtain ⟨rfl, a1, a2, a3, a4, a5⟩ := hx
  obtain ⟨rfl, b1, b2, b3, b4, b5⟩ := hx2
  by_cases h : 20 < i0.n ∨ 300 < i2.n
  · exact Expl_big _ _ _ _ _ _ k w (by omega) (by omega) h
  · by_cases hE : explE i0.l k i2.l.length = 0
    · have hE2 := hE
      unfold explE at hE2
      rw [b3, a3] at hE2
      split at hE2
      · omega
      · split at hE2
        · omega
        · split at hE2
          · omega
          · rename_i g1 g2 g3
            obtain ⟨q, hq⟩ := Int.eq_ofNat_of_zero_le (show 0 ≤ k - 1 by omega)
            obtain rfl : k = (q : Int) + 1 := by omega
            exact ExplLaw_yes _ _ _ _ _ _ i0.l i2.l w q (by omega) (by omega) (by omega) hE2 (by omega) (by omega) a1 b1 a3 a4 a5 b4 b5
    · exact ExplLaw_no _ _ _ _ _ _ i0.l i2.l w k hE (by omega) (by omega) a1 b1 a3 a4 a5 b4 b5
end Go.Proofs.Ythmooplhhkafcaa
