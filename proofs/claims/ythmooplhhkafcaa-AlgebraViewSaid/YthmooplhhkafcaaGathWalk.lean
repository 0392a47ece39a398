/- The walk of AlgebraGather: it returns true for any case and any places. -/
import Derived.Test.YthmooplhhkafcaaFitsC
import Derived.Test.YthmooplhhkafcaaSplitBad
import Derived.Test.YthmooplhhkafcaaOpenCase
import Derived.Test.YthmooplhhkafcaaKnown
import Derived.BigRegion
namespace Go.Proofs.Ythmooplhhkafcaa
open Go.RowKit
set_option linter.unusedVariables false
/-- The bytes of the shares of a split lie in blocks of their own. -/
def RowsAt (w : World) (B n N q : Nat) (sec co : List Nat) : Prop := ∀ t, t < N → w.heap[B + 1 + t]? = some (.cells (u8s (shareY sec co q (t + 1) n)).toArray 5 (0, 0))
theorem row_rd {w : World} {b n : Nat} {ys : List Nat} (h : w.heap[b]? = some (.cells (u8s ys).toArray 5 (0, 0))) (hl : ys.length = n) : Rd w w.heap.size 1 (some ⟨b, 0, none⟩) n (u8s ys) :=
  ⟨by simp [u8s, hl], fun _ => ⟨b, 0, rfl, (Array.getElem?_eq_some_iff.1 h).1, fun j u hu => by rw [Nat.zero_add, cell_of_row _ _ _ _ _ _ h]; simpa using hu⟩⟩
theorem somes_ok {w : World} {B n N q : Nat} {sec co at' : List Nat} (hY : RowsAt w B n N q sec co) (hlt : ∀ a ∈ at', a < N) (hN : N ≤ 16) (hn : n ≤ 256) (hs : Bytes sec) (hc : Bytes co) : ∀ s ∈ somesL B n q sec co at', s.ok w w.heap.size := by
  intro s hm
  obtain ⟨a, ha, rfl⟩ := List.mem_map.1 hm
  have := hlt a ha
  exact ⟨by simp only; omega, shareY_bytes hs hc, Nat.le_refl _, by simp only; omega, shareY_len _ _ _ _ _, row_rd (hY a this) (shareY_len _ _ _ _ _)⟩
theorem shCells_set : ∀ (l : List ShareV) (i : Nat) (s : ShareV), (∀ t, l[i]? = some t → t.X = s.X ∧ t.A = s.A ∧ t.n = s.n ∧ t.c = s.c) → shCells (l.set i s) = shCells l
  | [], _, _, _ => rfl
  | t :: l, 0, s, h => by
    obtain ⟨h1, h2, h3, h4⟩ := h t rfl
    simp [shCells, h1, h2, h3, h4]
  | t :: l, i + 1, s, h => by
    rw [List.set_cons_succ]
    simp only [shCells]
    rw [shCells_set l i s (fun t ht => h t (by simpa using ht))]
/-- With one byte changed. -/
theorem somes_set {w : World} {B n N q a z gs k : Nat} {sec co at' : List Nat} (hY : RowsAt w B n N q sec co) (hlt : ∀ a ∈ at', a < N) (hd : at'.Nodup) (hN : N ≤ 16) (hn : n ≤ 256) (hs : Bytes sec) (hc : Bytes co) (hz : z < 256)
    (ha : at'[k]? = some a) (hrow : Rd w w.heap.size 2 (some ⟨gs, 0, none⟩) at'.length (shCells (somesL B n q sec co at'))) (hg : B + 1 + N ≤ gs) (hgs : gs < w.heap.size) :
    ShR (w.setCell ⟨B + 1 + a, 0, none⟩ (.int .u8 (z : Int))) w.heap.size (some ⟨gs, 0, none⟩) at'.length ((somesL B n q sec co at').set k ⟨a + 1, some ⟨B + 1 + a, 0, none⟩, n, n, (shareY sec co q (a + 1) n).set 0 z⟩) := by
  have haN := hlt a (List.mem_of_getElem? ha)
  refine ⟨by rw [List.length_set, somesL_len], ?_, fun s hm => ?_⟩
  · rw [shCells_set _ _ _ (fun t ht => ?_)]
    · refine ⟨hrow.1, fun h0 => ?_⟩
      obtain ⟨b, off, he, hb, hcell⟩ := hrow.2 h0
      injection he with he
      injection he with e1 e2 _
      subst e1 e2
      exact ⟨gs, 0, rfl, hgs, fun j u hu => (World.cell?_setCell_other w _ _ _ (by intro e; injection e with e1 _ _; omega)).trans (hcell j u hu)⟩
    · have hka : k < at'.length := (List.getElem?_eq_some_iff.1 ha).1
      rw [somesL_get hka] at ht
      have e : at'[k] = a := (List.getElem?_eq_some_iff.1 ha).2
      rw [e] at ht
      rw [← Option.some.inj ht]
      exact ⟨rfl, rfl, rfl, rfl⟩
  · obtain ⟨i, hi, hsi⟩ := List.mem_iff_getElem.1 hm
    rw [List.length_set, somesL_len] at hi
    rw [List.getElem_set] at hsi
    split at hsi
    · subst hsi
      have q1 : a + 1 < 256 := by omega
      have q2 : n ≤ 1073741824 := by omega
      have q3 : ((shareY sec co q (a + 1) n).set 0 z).length = n := by rw [List.length_set]; exact shareY_len _ _ _ _ _
      refine ⟨q1, bytes_set (shareY_bytes hs hc) _ hz, Nat.le_refl _, q2, q3, ?_⟩
      have h1 := row_rd (n := n) (row_set (hY a haN) 0 z _ rfl) (by rw [List.length_set]; exact shareY_len sec co q (a + 1) n)
      rw [size_setCell] at h1
      exact h1
    · rename_i hki
      have e2 : (somesL B n q sec co at')[i]? = some s := by rw [← hsi]; exact List.getElem?_eq_getElem _
      rw [somesL_get hi] at e2
      rw [← Option.some.inj e2]
      have hi16 := hlt _ (List.getElem_mem hi)
      have hne : at'[i] ≠ a := fun e => by
        have hka : k < at'.length := (List.getElem?_eq_some_iff.1 ha).1
        have e3 : at'[k] = a := (List.getElem?_eq_some_iff.1 ha).2
        exact hki ((List.getElem_inj hd).1 (e3.trans e.symm))
      have h1 := (Below.heap_setCell w ⟨B + 1 + a, 0, none⟩ (.int .u8 (z : Int)) (B + 1 + at'[i]) (by simp only; omega)).trans (hY _ hi16)
      have h2 := row_rd h1 (shareY_len sec co q _ n)
      rw [size_setCell] at h2
      exact ⟨by simp only; omega, shareY_bytes hs hc, Nat.le_refl _, by simp only; omega, shareY_len _ _ _ _ _, h2⟩
theorem bcells3 {w w' : World} (h : Below w.heap.size w w') {b o : Nat} {v : Value} (hc : w.cell? ⟨b, o, none⟩ = some v) : w'.cell? ⟨b, o, none⟩ = some v := by
  refine (h.cell (p := ⟨b, o, none⟩) ?_).trans hc
  unfold World.cell? at hc
  split at hc
  · rename_i cc t fz hb; exact (Array.getElem?_eq_some_iff.1 hb).1
  · cases hc
set_option maxRecDepth 100000 in
theorem Gather_big (A A' AP : Option Addr) (n c m c' pm pc : Nat) (NI KI : Int) (w : World) (hn : n ≤ 9223372036854775807) (h : 60 < n) :
    Calls Try.prog 7 #[.agg #[.slice A n c, .int .i64 NI, .int .i64 KI, .slice A' m c'], .slice AP pm pc] w fun e w' => e = .returned (.bool true) ∧ Below w.heap.size w w' := by
  have g1 : (60 : Int) < (n : Int) := by omega
  clear h
  go_enter Try.func7, Try.ntmps7
  go_wp2_with (go_at_call 12; refine (known_any _).mono ?_; rintro e w9 ⟨rfl, hb9⟩)
  go_ret
  exact ⟨rfl, ((Below.refl _ _).alloc (Nat.le_refl _) _).trans (hb9.mono (by simp))⟩
set_option maxRecDepth 100000 in
set_option maxHeartbeats 4000000 in
theorem Gather_law (A A' AP : Option Addr) (n c m c' pm pc : Nat) (NI KI : Int) (sec cs pick : List Nat) (w : World) (hn : n ≤ 60) (hm : m ≤ 9223372036854775807) (hpm : pm ≤ 9223372036854775807) (hnc : n ≤ c) (hs : Bytes sec) (hcs : Bytes cs) (hp : Bytes pick)
    (h : Rd w w.heap.size 1 A n (u8s sec)) (h' : Rd w w.heap.size 1 A' m (u8s cs)) (hpk : Rd w w.heap.size 1 AP pm (u8s pick)) :
    Calls Try.prog 7 #[.agg #[.slice A n c, .int .i64 NI, .int .i64 KI, .slice A' m c'], .slice AP pm pc] w fun e w' => e = .returned (.bool true) ∧ Below w.heap.size w w' := by
  have g1 : (n : Int) ≤ 60 := by omega
  have hsl : sec.length = n := by have := h.1; simpa [u8s] using this
  have HS := Lib.hid hs; have HCS := Lib.hid hcs; have HP := Lib.hid hp; have HSL := Lib.hid hsl
  obtain ⟨wa, hwa⟩ : ∃ wa, wa = w.alloc (.cells #[.slice A n c, .int .i64 NI, .int .i64 KI, .slice A' m c'] 51) := ⟨_, rfl⟩
  have Ba : Below w.heap.size w wa := by rw [hwa]; exact (Below.refl _ _).alloc (Nat.le_refl _) _
  have sa : wa.heap.size = w.heap.size + 1 := by rw [hwa]; simp
  have RS := Lib.hid ((h.below Ba).mono (by omega) : Rd wa wa.heap.size 1 A n (u8s sec)); have RC := Lib.hid ((h'.below Ba).mono (by omega) : Rd wa wa.heap.size 1 A' m (u8s cs)); have RP := Lib.hid ((hpk.below Ba).mono (by omega) : Rd wa wa.heap.size 1 AP pm (u8s pick))
  have HWA := Lib.hid hwa
  clear h h' hpk hs hcs hp hwa hsl
  go_enter Try.func7, Try.ntmps7
  go_wp2_with fail
  rw [← HWA.out]
  clear HWA
  refine (fits_any _ _ _ _ _ _ _ _ sec cs _ hn hm HCS.out RC.out).mono ?_
  rintro e w1 ⟨N, q, c2, A2, co, hN1, hN2, hqN, hc2, hcb, hcl, rfl, hr2, hb1⟩
  have s1 := hb1.size
  have B1 : Below w.heap.size w w1 := Ba.trans (hb1.mono (by omega))
  obtain ⟨m2, hm2⟩ : ∃ m2, m2 = n * q := ⟨_, rfl⟩
  rw [← hm2] at hc2 hcl hr2 ⊢
  have hm29 : m2 ≤ 60 * 15 := by rw [hm2]; exact Nat.mul_le_mul hn (by omega)
  have HM := Lib.hid hm2; have HCB := Lib.hid hcb; have HCL := Lib.hid hcl
  obtain ⟨wb, hwb⟩ : ∃ wb, wb = w1.alloc (.cells #[.slice A n c, .int .i64 N, .int .i64 ((q : Int) + 1), .slice A2 m2 c2] 51) := ⟨_, rfl⟩
  have Bb : Below w1.heap.size w1 wb := by rw [hwb]; exact (Below.refl _ _).alloc (Nat.le_refl _) _
  have sb : wb.heap.size = w1.heap.size + 1 := by rw [hwb]; simp
  have hblk : wb.heap[w1.heap.size]? = some (.cells #[.slice A n c, .int .i64 N, .int .i64 ((q : Int) + 1), .slice A2 m2 c2] 51 (0, 0)) := by rw [hwb]; exact heap_alloc_new w1 _
  have x01 : wb.cell? ⟨w1.heap.size, 0, none⟩ = some (.slice A n c) := by rw [cell_of_row _ _ _ _ _ _ hblk]; rfl
  have x11 : wb.cell? ⟨w1.heap.size, 1, none⟩ = some (.int .i64 N) := by rw [cell_of_row _ _ _ _ _ _ hblk]; rfl
  have x21 : wb.cell? ⟨w1.heap.size, 2, none⟩ = some (.int .i64 ((q : Int) + 1)) := by rw [cell_of_row _ _ _ _ _ _ hblk]; rfl
  have x31 : wb.cell? ⟨w1.heap.size, 3, none⟩ = some (.slice A2 m2 c2) := by rw [cell_of_row _ _ _ _ _ _ hblk]; rfl
  have SEC1 := Lib.hid (((RS.out.below hb1).mono s1).below Bb |>.mono (by omega) : Rd wb wb.heap.size 1 A n (u8s sec)); have PK1 := Lib.hid (((RP.out.below hb1).mono s1).below Bb |>.mono (by omega) : Rd wb wb.heap.size 1 AP pm (u8s pick)); have CO1 := Lib.hid ((hr2.below Bb).mono (by omega) : Rd wb wb.heap.size 1 A2 m2 (u8s co))
  have Bwb : Below w.heap.size w wb := B1.trans (Bb.mono (by omega))
  have HWB := Lib.hid hwb
  have gN1 : (1 : Int) ≤ (N : Int) := by omega
  have gN2 : (N : Int) ≤ 16 := by omega
  have gq : (q : Int) + 1 ≤ 16 := by omega
  have hsz1 : w.heap.size ≤ w1.heap.size := B1.size
  generalize hCe : w1.heap.size = C at *
  have HCE := Lib.hid hCe
  clear hCe hwb hcb hcl hm2 hr2 RS RC RP hblk hb1 Ba B1 Bb
  go_wp2_with fail
  rw [HCE.out]
  rw [← HWB.out]
  clear HWB HCE
  clear s1
  obtain ⟨w1, hw1⟩ : ∃ x, x = wb := ⟨_, rfl⟩
  subst hw1
  have s1 : C < w1.heap.size := by omega
  have B1 : Below w.heap.size w w1 := Bwb
  clear Bwb sb sa
  go_wp2_with fail
  refine (Split_ok _ _ _ _ _ _ N q sec co _ (by omega) hN1 hN2 hqN HM.out hc2 HS.out HCB.out (SEC1.out) (CO1.out)).mono ?_
  rintro e w2 ⟨rfl, hsw, hb2⟩
  have s2 := hb2.size
  have B2 : Below w.heap.size w w2 := B1.trans (hb2.mono (by omega))
  have SEC2 := Lib.hid ((SEC1.out.below hb2).mono s2); clear SEC1
  have PK2 := Lib.hid ((PK1.out.below hb2).mono s2); clear PK1
  have CO2 := Lib.hid ((CO1.out.below hb2).mono s2); clear CO1
  have x02 := (hb2.cell (p := ⟨C, 0, none⟩) (by simp only; omega)).trans x01; clear x01
  have x12 := (hb2.cell (p := ⟨C, 1, none⟩) (by simp only; omega)).trans x11; clear x11
  have x22 := (hb2.cell (p := ⟨C, 2, none⟩) (by simp only; omega)).trans x21; clear x21
  have x32 := (hb2.cell (p := ⟨C, 3, none⟩) (by simp only; omega)).trans x31; clear x31
  have SH2 : Hid (ShR w2 w2.heap.size (some ⟨w1.heap.size, 0, none⟩) N (progV w1.heap.size n N q sec co)) := Lib.hid ((hsw.shr (by omega) hN2 HS.out HCB.out).mono (by rw [hsw.1]; exact Nat.le_refl _))
  have RW2 : Hid (RowsAt w2 w1.heap.size n N q sec co) := Lib.hid (by obtain ⟨_, cs, _, _, hat⟩ := hsw; exact fun t ht => (hat t ht).2.2)
  have hBN : w1.heap.size + 1 + N = w2.heap.size := by rw [hsw.1]
  clear hsw
  clear CO2
  go_wp2_with fail
  refine (chosen_any _ _ _ N pick _ hpm HP.out hN1 hN2 (PK2.out)).mono ?_
  rintro e w3 ⟨at', A3, c3, hnd, hlt, hc3, rfl, hra, hb3⟩
  have s3 := hb3.size
  have B3 : Below w.heap.size w w3 := B2.trans (hb3.mono (by omega))
  have SEC3 := Lib.hid ((SEC2.out.below hb3).mono s3); clear SEC2
  have PK3 := Lib.hid ((PK2.out.below hb3).mono s3); clear PK2
  have SH3 := Lib.hid ((SH2.out.below hb3).mono s3); clear SH2
  have x03 := (hb3.cell (p := ⟨C, 0, none⟩) (by simp only; omega)).trans x02; clear x02
  have x13 := (hb3.cell (p := ⟨C, 1, none⟩) (by simp only; omega)).trans x12; clear x12
  have x23 := (hb3.cell (p := ⟨C, 2, none⟩) (by simp only; omega)).trans x22; clear x22
  have x33 := (hb3.cell (p := ⟨C, 3, none⟩) (by simp only; omega)).trans x32; clear x32
  have AT3 := Lib.hid hra; have HND := Lib.hid hnd; have HLT := Lib.hid hlt
  have hal : at'.length ≤ 16 := Nat.le_trans (nodup_le N at' hnd hlt) hN2
  clear hra hnd hlt
  have E3 := hb3
  clear PK3
  have hlt16 : ∀ a ∈ at', a < 16 := fun a ha => Nat.lt_of_lt_of_le (HLT.out a ha) hN2
  have H16 := Lib.hid hlt16; clear hlt16
  go_wp2_with fail
  go_loopw [9, 10] (fun v i wr => ∃ k : Nat, k ≤ at'.length ∧ i = .int .i64 k ∧ wr.ownsRow w3.heap.size 40 2 v k (shCells (somesL w1.heap.size n q sec co (at'.take k))) ∧ Below w3.heap.size w3 wr) (fun _ i _ => at'.length - (intOf i).toNat)
  case atStart => exact ⟨0, Nat.zero_le _, rfl, World.ownsRow_nil _ _ _ _, Below.refl _ _⟩
  case round =>
    obtain ⟨k, hk, rfl, hown, hbw⟩ := hrel
    have HO := Lib.hid hown
    have hsz := hbw.size
    clear hown
    by_cases hka : k < at'.length
    · have i1 : (k : Int) < (at'.length : Int) := by omega
      obtain ⟨ba, oa, rfl, hba, hca⟩ := AT3.out.2 (by omega)
      have ca : wr.cell? ⟨ba, oa + k, none⟩ = some (.int .i64 (at'[k] : Nat)) := (hbw.cell (p := ⟨ba, oa + k, none⟩) hba).trans (hca k _ (by simp [hka]))
      have haN := HLT.out _ (List.getElem_mem hka)
      have HT : Hid (shCells (somesL w1.heap.size n q sec co (at'.take (k + 1))) = shCells (somesL w1.heap.size n q sec co (at'.take k)) ++ [.int .u8 ((at'[k] + 1 : Nat) : Int), .slice (some ⟨w1.heap.size + 1 + at'[k], 0, none⟩) n n]) := Lib.hid (by rw [take_snoc _ _ hka, somesL_snoc, shCells_snoc])
      generalize at'[k] = a at ca haN HT
      obtain ⟨bl, ol, s, hAl, hls, hbl, l0, l1, _⟩ := (SH3.out.below hbw).at haN
      have hps : s = ⟨a + 1, some ⟨w1.heap.size + 1 + a, 0, none⟩, n, n, shareY sec co q (a + 1) n⟩ := by
        have hlen : a < (progV w1.heap.size n N q sec co).length := by rw [progV_len]; exact haN
        rw [List.getElem?_eq_getElem hlen] at hls
        rw [← Option.some.inj hls, progV_get]
      subst hps
      injection hAl with hAl; injection hAl with e1 e2 _
      subst e1 e2
      dsimp only at l0 l1
      rw [Nat.zero_add] at l0 l1
      have i2 : (a : Int) < (N : Int) := by omega
      clear hca hls
      go_wp2_with (at_builtin; refine wpList_push elB_share (.tmp 53) (.tmp 61) rfl rfl w3.heap.size k _ rfl HO.out rfl rfl (by intro u hu; simp at hu; rcases hu with rfl | rfl <;> rfl) (by omega) (by decide) (by omega) ?_; intro v4 w4 hown4 hb4 _)
      go_roundw
      case rel => exact ⟨k + 1, hka, by go_num, by rw [HT.out]; simpa using hown4, hbw.trans hb4⟩
      case measure => simp [intOf]; omega
    · obtain rfl : k = at'.length := by omega
      have hown := HO.out
      rw [List.take_length] at hown
      obtain ⟨As, cas, rfl, hcas⟩ := own_form hown
      obtain ⟨w4, rfl⟩ : ∃ x : World, x = wr := ⟨_, rfl⟩
      have hb4 := hbw
      have E4 : Below w2.heap.size w2 w4 := E3.trans (hb4.mono s3)
      have RW4 : Hid (RowsAt w4 w1.heap.size n N q sec co) := Lib.hid (fun t ht => (E4.block _ (by omega)).trans (RW2.out t ht))
      have SS4 : Hid (ShR w4 w4.heap.size As at'.length (somesL w1.heap.size n q sec co at')) := Lib.hid ⟨somesL_len _ _ _ _ _ _, Rd.own hown, somes_ok RW4.out HLT.out hN2 (by omega) HS.out HCB.out⟩
      have hgs : ∀ g, As = some ⟨g, 0, none⟩ → w3.heap.size ≤ g := fun g e => by subst e; exact (hown.lt g rfl).1
      have hgs0 : 0 < at'.length → ∃ g, As = some ⟨g, 0, none⟩ := fun h0 => by
        rcases hown.2 with ⟨h1, _⟩ | ⟨g, _, _, h1, _⟩
        · injection h1 with _ h2 _; omega
        · injection h1 with h1 _ _; exact ⟨g, h1⟩
      have GS := Lib.hid hgs; have GS0 := Lib.hid hgs0
      clear HO hown hgs hgs0
      have s4 := hb4.size
      have B4 : Below w.heap.size w w4 := B3.trans (hb4.mono (by omega))
      have SEC4 := Lib.hid ((SEC3.out.below hb4).mono s4); clear SEC3
      have SH4 := Lib.hid ((SH3.out.below hb4).mono s4); clear SH3
      have x04 := (hb4.cell (p := ⟨C, 0, none⟩) (by simp only; omega)).trans x03; clear x03
      have x14 := (hb4.cell (p := ⟨C, 1, none⟩) (by simp only; omega)).trans x13; clear x13
      have x24 := (hb4.cell (p := ⟨C, 2, none⟩) (by simp only; omega)).trans x23; clear x23
      have x34 := (hb4.cell (p := ⟨C, 3, none⟩) (by simp only; omega)).trans x33; clear x33
      by_cases hkq : at'.length < q + 1
      · skip
        obtain ⟨e14, e0⟩ := gather_few (B := w1.heap.size) (n := n) (sec := sec) (co := co) (show q ≤ 15 by omega) hkq
        have E14 := Lib.hid e14; have E0 := Lib.hid e0; clear e14 e0
        have i3 : (at'.length : Int) < (q : Int) + 1 := by omega
        go_wp2_with fail
        refine (Join_any _ _ _ _ (somesL w1.heap.size n q sec co at') _ (by omega) hcas (SS4.out)).mono ?_
        rintro e w5 ⟨A5, m5, c5, rfl, hc5, hS5, hr5, hb5⟩
        have s5 := hb5.size
        have B5 : Below w.heap.size w w5 := B4.trans (hb5.mono (by omega))
        have SEC5 := Lib.hid ((SEC4.out.below hb5).mono s5); clear SEC4
        have SH5 := Lib.hid ((SH4.out.below hb5).mono s5); clear SH4
        have SS5 := Lib.hid ((SS4.out.below hb5).mono s5); clear SS4
        have x05 := (hb5.cell (p := ⟨C, 0, none⟩) (by simp only; omega)).trans x04; clear x04
        have x15 := (hb5.cell (p := ⟨C, 1, none⟩) (by simp only; omega)).trans x14; clear x14
        have x25 := (hb5.cell (p := ⟨C, 2, none⟩) (by simp only; omega)).trans x24; clear x24
        have x35 := (hb5.cell (p := ⟨C, 3, none⟩) (by simp only; omega)).trans x34; clear x34
        rw [E0.out] at hS5
        obtain rfl : m5 = 0 := by simpa using hS5.symm
        rw [E14.out]
        clear hr5 hS5
        go_wp2_with (go_at_call 12; refine (known_any _).mono ?_; rintro e w9 ⟨rfl, hb9⟩)
        go_ret
        exact ⟨rfl, B5.trans (hb9.mono (by omega))⟩
      · skip
        obtain ⟨e0, eS⟩ := gather_ok (B := w1.heap.size) HS.out HCB.out HSL.out (HCL.out.trans HM.out) (show n ≤ 256 by omega) (show q ≤ 15 by omega) HND.out H16.out (show q + 1 ≤ at'.length by omega)
        have E0 := Lib.hid e0; have ES := Lib.hid eS; clear e0 eS
        have i3 : (q : Int) + 1 ≤ (at'.length : Int) := by omega
        go_wp2_with fail
        refine (Join_any _ _ _ _ (somesL w1.heap.size n q sec co at') _ (by omega) hcas (SS4.out)).mono ?_
        rintro e w5 ⟨A5, m5, c5, rfl, hc5, hS5, hr5, hb5⟩
        have s5 := hb5.size
        have B5 : Below w.heap.size w w5 := B4.trans (hb5.mono (by omega))
        have SEC5 := Lib.hid ((SEC4.out.below hb5).mono s5); clear SEC4
        have SH5 := Lib.hid ((SH4.out.below hb5).mono s5); clear SH4
        have SS5 := Lib.hid ((SS4.out.below hb5).mono s5); clear SS4
        have x05 := (hb5.cell (p := ⟨C, 0, none⟩) (by simp only; omega)).trans x04; clear x04
        have x15 := (hb5.cell (p := ⟨C, 1, none⟩) (by simp only; omega)).trans x14; clear x14
        have x25 := (hb5.cell (p := ⟨C, 2, none⟩) (by simp only; omega)).trans x24; clear x24
        have x35 := (hb5.cell (p := ⟨C, 3, none⟩) (by simp only; omega)).trans x34; clear x34
        rw [ES.out] at hS5 hr5
        obtain rfl : m5 = n := by rw [← hS5, HSL.out]
        rw [E0.out]
        have SE5 := Lib.hid hr5
        clear hr5 hS5
        go_wp2_with fail
        refine (same_yes _ _ _ _ _ _ sec _ _ HS.out (SE5.out) (SEC5.out)).mono ?_
        rintro e w' ⟨rfl, rfl⟩
        by_cases hbig : q + 1 < at'.length ∧ 0 < m5
        · obtain ⟨hb1', hn0⟩ := hbig
          have i4 : (q : Int) + 1 < (at'.length : Int) := by omega
          have i5 : (0 : Int) < (m5 : Int) := by omega
          obtain ⟨gs, rfl⟩ := GS0.out (by omega)
          have hgs := GS.out gs rfl
          obtain ⟨a, ha⟩ : ∃ a, at'[q + 1]? = some a := ⟨_, List.getElem?_eq_getElem hb1'⟩
          have haN := HLT.out a (List.mem_of_getElem? ha)
          obtain ⟨b2, o2, s, hA, hls, hb2l, _, l1, _⟩ := SS5.out.at (i := q + 1) hb1'
          have hps : s = ⟨a + 1, some ⟨w1.heap.size + 1 + a, 0, none⟩, m5, m5, shareY sec co q (a + 1) m5⟩ := by
            rw [somesL_get hb1'] at hls
            rw [← Option.some.inj hls, (List.getElem?_eq_some_iff.1 ha).2]
          subst hps
          injection hA with hA; injection hA with e1 e2 _
          subst e1 e2
          dsimp only at l1
          rw [Nat.zero_add] at l1
          have hBa : w1.heap.size + 1 + a < w2.heap.size := by omega
          have RW5 : Hid (RowsAt w5 w1.heap.size m5 N q sec co) := Lib.hid (fun t ht => (hb5.block _ (by omega)).trans (RW4.out t ht))
          have hy5 := RW5.out a haN
          have hyb := shareY_bytes (q := q) (x := a + 1) (n := m5) HS.out HCB.out
          have hyl := shareY_len sec co q (a + 1) m5
          have y5 : w5.cell? ⟨w1.heap.size + 1 + a, 0, none⟩ = some (.int .u8 (shareB sec co q (a + 1) 0 : Nat)) := by
            rw [cell_of_row _ _ _ _ _ _ hy5]
            simp [u8s, shareY, hn0]
          have f5 : w5.frozen? ⟨w1.heap.size + 1 + a, 0, none⟩ = false := by simp [World.frozen?, hy5]
          have hyv : shareB sec co q (a + 1) 0 < 256 := hyb _ (by simp only [shareY, List.mem_map, List.mem_range]; exact ⟨0, hn0, rfl⟩)
          have HYV : Hid ((shareB sec co q (a + 1) 0 + 1) % 256 ≠ shareB sec co q (a + 1) 0) := Lib.hid (by omega)
          have HL6 : Hid (∀ nq : Nat, ShR ((w5.drewN nq).setCell ⟨w1.heap.size + 1 + a, 0, none⟩ (.int .u8 (((shareB sec co q (a + 1) 0 + 1) % 256 : Nat) : Int))) w5.heap.size (some ⟨gs, 0, none⟩) at'.length ((somesL w1.heap.size m5 q sec co at').set (q + 1) ⟨a + 1, some ⟨w1.heap.size + 1 + a, 0, none⟩, m5, m5, (shareY sec co q (a + 1) m5).set 0 ((shareB sec co q (a + 1) 0 + 1) % 256)⟩)) := Lib.hid (fun nq => somes_set (w := w5.drewN nq) RW5.out HLT.out HND.out hN2 (by omega) HS.out HCB.out (Nat.mod_lt _ (by decide)) ha SS5.out.2.1 (by omega) hb2l)
          have hY0 : ((shareY sec co q (a + 1) m5).set 0 ((shareB sec co q (a + 1) 0 + 1) % 256)).getD 0 0 = (shareB sec co q (a + 1) 0 + 1) % 256 := by rw [← hyl] at hn0; simp [hn0]
          have H19 : Hid (joinE ((somesL w1.heap.size m5 q sec co at').set (q + 1) ⟨a + 1, some ⟨w1.heap.size + 1 + a, 0, none⟩, m5, m5, (shareY sec co q (a + 1) m5).set 0 ((shareB sec co q (a + 1) 0 + 1) % 256)⟩) ((q : Int) + 1) = 19) := Lib.hid (gather_bad HS.out HCB.out HSL.out (HCL.out.trans HM.out) (by omega) (by omega) HND.out H16.out hb1' hn0 ha HYV.out rfl rfl hY0)
          have hwz : IntKind.u8.wrap (((shareB sec co q (a + 1) 0 : Nat) : Int) + 1) = (((shareB sec co q (a + 1) 0 + 1) % 256 : Nat) : Int) := by rw [IntKind.wrap_u8]; omega
          clear hY0
          generalize (somesL w1.heap.size m5 q sec co at').set (q + 1) ⟨a + 1, some ⟨w1.heap.size + 1 + a, 0, none⟩, m5, m5, (shareY sec co q (a + 1) m5).set 0 ((shareB sec co q (a + 1) 0 + 1) % 256)⟩ = L6 at HL6 H19
          generalize (shareB sec co q (a + 1) 0 + 1) % 256 = z at HL6 hwz HYV
          generalize shareB sec co q (a + 1) 0 = y at y5 hyv hwz HYV
          clear hy5 hyb hyl hls GS GS0
          have hq0 : (0 : Int) ≤ (q : Int) + 1 := by omega
          have hqn : ((q : Int) + 1).toNat = q + 1 := by omega
          go_wp2_with fail
          refine wp_region_quiet_tail 16 (by kernel_rfl) (by kernel_rfl) ?_
          simp only [List.take_succ_cons, List.take_zero, List.drop_succ_cons, List.drop_zero]
          repeat (quiet_step (fail))
          refine wpQuiet_nil ?_
          intro _ hw'
          obtain ⟨nq, hw''⟩ := hw'
          subst hw''
          go_wp2_with fail
          refine (Join_any _ _ _ _ L6 _ (by omega) hcas (by rw [size_setCell]; exact HL6.out nq)).mono ?_
          rintro e w7 ⟨A7, m7, c7, rfl, hc7, hS7, hr7, hb7⟩
          rw [H19.out]
          clear hS7 hr7
          have B7 : Below w.heap.size w w7 := ((B5.trans (Qw.below ⟨nq, rfl⟩ _)).setCell (p := ⟨w1.heap.size + 1 + a, 0, none⟩) (by show w.heap.size ≤ w1.heap.size + 1 + a; omega) _).trans (hb7.mono (by rw [size_setCell]; exact B5.size))
          have s7 := B7.size
          go_wp2_with (go_at_call 12; refine (known_any _).mono ?_; rintro e w9 ⟨rfl, hb9⟩)
          go_ret
          exact ⟨rfl, B7.trans (hb9.mono (by omega))⟩
        · clear GS GS0
          by_cases hb1' : q + 1 < at'.length
          · have i4 : (q : Int) + 1 < (at'.length : Int) := by omega
            have i5 : (m5 : Int) ≤ 0 := by omega
            clear hbig
            go_wp2_with (go_at_call 12; refine (known_any _).mono ?_; rintro e w9 ⟨rfl, hb9⟩)
            go_ret
            exact ⟨rfl, B5.trans (hb9.mono (by omega))⟩
          · have i4 : ¬ (q : Int) + 1 < (at'.length : Int) := by omega
            clear hbig
            go_wp2_with (go_at_call 12; refine (known_any _).mono ?_; rintro e w9 ⟨rfl, hb9⟩)
            go_ret
            exact ⟨rfl, B5.trans (hb9.mono (by omega))⟩
theorem AlgebraGather_walk (v0 : Value) (i0 : CaseArg) (v1 : Value) (i1 : BytesArg) (w : World) (hx0 : IsCase w v0 i0) (hx1 : IsBytes w v1 i1) :
    Calls Try.prog 7 #[v0, v1] w fun e w' => e = .returned (.bool true) ∧ Below w.heap.size w w' := by
  obtain ⟨u0, u3, rfl, ⟨rfl, a1, a2, a3, a4, a5⟩, hN, hK, ⟨rfl, b1, b2, b3, b4, b5⟩⟩ := hx0
  obtain ⟨rfl, d1, d2, d3, d4, d5⟩ := hx1
  by_cases h : 60 < i0.f0.n
  · exact Gather_big _ _ _ _ _ _ _ _ _ _ _ w (by omega) h
  · exact Gather_law _ _ _ _ _ _ _ _ _ _ _ i0.f0.l i0.f3.l i1.l w (by omega) (by omega) (by omega) a1 a4 b4 d4 a5 b5 d5
end Go.Proofs.Ythmooplhhkafcaa
