/- The contract of the program's Nearest, for what is valid. Conditions: as each statement says. -/
import Derived.Test.YtfinjdkcgmepfaaNear2
import Derived.Test.YtfinjdkcgmepfaaCode6
import Derived.Laws.EntriesVeiled
namespace Go.Proofs.Ytfinjdkcgmepfaa
open Go.RowKit
set_option linter.unusedVariables false
theorem find_any (W Hc K F T L Bc B0 N C D s : Nat) (ac : Option Addr) (kc : Nat) (cols : List (List Int)) (hN : N ≤ 512) (hcols : ∀ l ∈ cols, l.length ≤ 256 ∧ ∀ x ∈ l, 0 ≤ x ∧ x < C) :
    ∀ (z lo : Nat) (li zi : Int) (t : List Bool) (at' : List Int) (va : Value) (w : World), z ≤ 3 → li = lo → zi = z → lo ≤ N → at'.length + z ≤ 8 → FnI w W Hc K F T L Bc B0 N C D s ac kc cols t at' va →
      Calls Try.prog 32 #[.int .i64 li, .int .i64 zi, bpt W, bpt Hc, bpt K, bpt F, bpt T] w (FindP (pikL cols z t lo) W Hc K F T L Bc B0 N C D s ac kc cols t at' va w)
  | 0, lo, li, zi, t, at', va, w, _, hl, hz, _, _, h => by subst hl; subst hz; exact find_zero W Hc K F T L Bc B0 N C D s ac kc cols lo t at' va w h
  | z + 1, lo, li, zi, t, at', va, w, hz3, hl, hz, hlo, hat, h =>
    find_succ W Hc K F T L Bc B0 N C D s z ac kc cols hN (by omega) hcols (fun lo li zi t at' va w a b c d e => find_any W Hc K F T L Bc B0 N C D s ac kc cols hN hcols z lo li zi t at' va w (by omega) a b c d e) lo li zi t at' va w hl hz hlo hat h
/-- The checks that were found wrong so far. -/
def tgtK (now s : List Bool) (k : Nat) : List Bool := (List.range now.length).map fun j => decide (j < k) && badF now s j
theorem tgtK_len (now s : List Bool) (k : Nat) : (tgtK now s k).length = now.length := by simp [tgtK]
theorem tgtK_zero (now s : List Bool) : tgtK now s 0 = List.replicate now.length false := by
  apply List.ext_getElem (by simp [tgtK])
  intro i h1 h2; simp [tgtK]
theorem tgtK_all (now s : List Bool) : tgtK now s now.length = tgtB now s := by
  apply List.ext_getElem (by simp [tgtK, tgtB])
  intro i h1 h2
  have : i < now.length := by rw [tgtK_len] at h1; exact h1
  simp [tgtK, tgtB, this]
theorem tgtK_step {now s : List Bool} {k : Nat} (hk : k < now.length) : tgtK now s (k + 1) = if badF now s k = true then synCol (tgtK now s k) [(k : Int)] else tgtK now s k := by
  apply List.ext_getElem
  · split
    · rw [synCol_len, tgtK_len, tgtK_len]
    · rw [tgtK_len, tgtK_len]
  intro i h1 h2
  have hi : i < now.length := by rw [tgtK_len] at h1; exact h1
  by_cases hb : badF now s k = true
  · have e : (synCol (tgtK now s k) [(k : Int)])[i]'(by rw [synCol_len, tgtK_len]; exact hi) = (flipK (tgtK now s k) (k : Int)).getD i false := by
      rw [getD_at _ _ (by rw [flipK_len, tgtK_len]; exact hi)]; rfl
    have e2 : (if badF now s k = true then synCol (tgtK now s k) [(k : Int)] else tgtK now s k) = synCol (tgtK now s k) [(k : Int)] := if_pos hb
    simp only [e2]
    rw [e, flipK_get _ _ (by rw [tgtK_len]; exact hk), getD_at _ _ (by rw [tgtK_len]; exact hi)]
    simp only [tgtK, List.getElem_map, List.getElem_range, Int.toNat_natCast]
    by_cases h3 : i < k
    · rw [decide_eq_true (by omega : i < k + 1), decide_eq_true h3, decide_eq_false (by omega : ¬ k = i)]; simp
    · by_cases h4 : k = i
      · subst h4; simp [hb]
      · rw [decide_eq_false (by omega : ¬ i < k + 1), decide_eq_false h3, decide_eq_false h4]; simp
  · have e2 : (if badF now s k = true then synCol (tgtK now s k) [(k : Int)] else tgtK now s k) = tgtK now s k := if_neg hb
    simp only [e2]
    simp only [tgtK, List.getElem_map, List.getElem_range]
    by_cases h3 : i < k
    · rw [decide_eq_true (by omega : i < k + 1), decide_eq_true h3]
    · by_cases h4 : k = i
      · subst h4; simp [hb]
      · rw [decide_eq_false (by omega : ¬ i < k + 1), decide_eq_false h3]
theorem chk_new (w : World) (C : Nat) {H : Nat} (hH : H = w.heap.size) (hC : C ≤ 256) : ChkAt (w.alloc (.cells #[.int .u64 0, .int .u64 0, .int .u64 0, .int .u64 0] 62)) H (List.replicate C false) := by
  subst hH
  refine ⟨by simpa using hC, List.replicate 4 0, ⟨heap_alloc_new w _, rfl, fun i => ?_⟩, fun i hi => ?_⟩
  · rw [List.getD_eq_getElem?_getD, List.getElem?_replicate]; split <;> decide
  · unfold bitC
    rw [List.getD_eq_getElem?_getD, List.getD_eq_getElem?_getD, List.getElem?_replicate, List.getElem?_replicate]
    split <;> split <;> simp
theorem Ke.alloc {B0 W T : Nat} {w w' : World} (h : Ke B0 W T w w') (hB : B0 ≤ w'.heap.size) (o : Obj) : Ke B0 W T w (w'.alloc o) :=
  ⟨h.os, h.tape, h.output, by rw [World.size_alloc]; exact Nat.le_trans h.size (Nat.le_succ _), fun k h1 h2 h3 => by
    have := ((Below.refl w'.heap.size w').alloc (Nat.le_refl _) o).block k (by omega)
    exact this.trans (h.block k h1 h2 h3)⟩
theorem Ke.only {B0 W T : Nat} {w w' w2 : World} (h : Ke B0 W T w w') (hg : w'.grownBy w2 (some W)) (hB : B0 ≤ w'.heap.size) : Ke B0 W T w w2 :=
  ⟨hg.os.trans h.os, hg.tape.trans h.tape, hg.output.trans h.output, Nat.le_trans h.size hg.size, fun k h1 h2 h3 => (hg.block k (by omega) (fun e => h2 (by injection e))).trans (h.block k h1 h2 h3)⟩
theorem Ke.below {B B0 W T : Nat} {w w' : World} (h : Ke B0 W T w w') (h0 : B ≤ B0) (hW : B ≤ W) (hT : B ≤ T) : Below B w w' :=
  ⟨h.os, h.tape, h.output, h.size, fun k hk => h.block k (by omega) (by omega) (by omega)⟩
/-- What Nearest returns, when its arguments fit. -/
def NearP (N : Nat) (bs : List Bool) (V : Option (Nat × List Nat)) (w : World) (e : Ending) (w' : World) : Prop :=
  ((∃ q l A c, V = some (q, l) ∧ e = .returned (.tuple #[.slice A N c, .int .i64 (q : Nat), .int .i64 0]) ∧ N ≤ c ∧ Rd w' w'.heap.size 1 A N ((flpB bs l).map Value.bool)) ∨ (V = none ∧ e = .returned (.tuple #[.slice none 0 0, .int .i64 0, .int .i64 9]))) ∧ Below w.heap.size w w'
set_option maxRecDepth 100000 in
set_option maxHeartbeats 8000000 in
theorem Nearest_ok (N C D s : Nat) (A A' : Option Addr) (ca cb M : Nat) (bs ss : List Bool) (V : Option (Nat × List Nat)) (w : World) (h0 : codeE N C D = 0) (hs : s < two64) (hM : M ≤ 3) (hM2 : N ≤ 64 ∨ M ≤ 2) (hV : nearF (colsL C D s N) (tgtB (synL C bs (colsL C D s N)) ss) M 0 = V)
    (h : Rd w w.heap.size 1 A N (bs.map Value.bool)) (h' : Rd w w.heap.size 1 A' C (ss.map Value.bool)) :
    Calls Try.prog 19 #[codV N C D s, .slice A N ca, .slice A' C cb, .int .i64 M] w (NearP N bs V w) := by
  obtain ⟨h1, h2, h3, h4, h5, h6, h7⟩ := codeE_ok.1 h0
  have HM := Lib.hid (colsL_mem (C := C) (D := D) (s := s) (n := N) (by omega))
  have H0 := Lib.hid h0; have HS := Lib.hid hs; have HV := Lib.hid hV; have H := Lib.hid h; have H' := Lib.hid h'
  have j1 : ¬ ((M : Int) < 0) := by omega
  have j2 : ¬ ((3 : Int) < (M : Int)) := by omega
  have hw1 : wrap64 ((M : Int) + 1) = ((M + 1 : Nat) : Int) := by unfold wrap64; omega
  have j3 : ¬ ((64 : Int) < (N : Int)) ∨ ((64 : Int) < (N : Int) ∧ ¬ (2 : Int) < (M : Int)) := by omega
  clear h0 hs hV h h' hM2
  rcases j3 with j3 | ⟨j3, j4⟩
  all_goals
    go_enter Try.func19, Try.ntmps19
    go_wp2_with fail
    refine (fits5_ok N C D s A A' ca cb _ H0.out).mono ?_
    rintro e w1 ⟨rfl, hb⟩
    have hcc := (CodeAt.new w N C D s).below hb (Nat.le_refl _)
    have HB : Hid (Below w.heap.size w w1) := Lib.hid (((Below.refl _ _).alloc (Nat.le_refl _) _).trans (hb.mono (by simp)))
    have c0 := hcc.c0; have c1 := hcc.c1; have c2 := hcc.c2; have c3 := hcc.c3
    have HCC := Lib.hid hcc
    clear hb hcc
    go_wp2_with fail
    refine (columns_any N C D s _ H0.out HS.out).mono ?_
    rintro e w2 ⟨A2, k2, cols, rfl, hk2, hcols, hll, hb2⟩
    have HLL := Lib.hid hll
    have HC : Hid (∀ l ∈ cols, l.length ≤ 256 ∧ ∀ x ∈ l, 0 ≤ x ∧ x < C) := Lib.hid (fun l hl => by rw [hcols] at hl; have := HM.out l hl; exact ⟨by omega, this.2⟩)
    have HV2 : Hid (nearF cols (tgtB (synL C bs cols) ss) M 0 = V) := Lib.hid (by rw [hcols]; exact HV.out)
    have HCD := Lib.hid (HCC.out.past hb2 HCC.out.lt)
    have HB2 := Lib.hid (bnext HB.out hb2)
    have HA := Lib.hid ((H.out.past HB.out).past hb2); have HA' := Lib.hid ((H'.out.past HB.out).past hb2)
    have HCL : Hid (cols.length = N) := Lib.hid hll.len
    clear hcols hll hb2 c0 c1 c2 c3 HV HCC HB H H' HM
    have hal : Below w2.heap.size w2 ((w2.alloc (.cells #[.slice A2 N k2] 34)).alloc (.cells #[.int .u64 0, .int .u64 0, .int .u64 0, .int .u64 0] 62)) := ((Below.refl _ _).alloc (Nat.le_refl _) _).alloc (by simp) _
    have HCD3 := Lib.hid (HCD.out.past hal HCD.out.lt)
    have c0 := HCD3.out.c0; have c1 := HCD3.out.c1; have c2 := HCD3.out.c2; have c3 := HCD3.out.c3
    have HK3 : Hid (((w2.alloc (.cells #[.slice A2 N k2] 34)).alloc (.cells #[.int .u64 0, .int .u64 0, .int .u64 0, .int .u64 0] 62)).heap[w2.heap.size]? = some (.cells #[.slice A2 N k2] 34 (0, 0))) := Lib.hid (by
      have := ((Below.refl (w2.heap.size + 1) (w2.alloc (.cells #[.slice A2 N k2] 34))).alloc (by simp) (.cells #[.int .u64 0, .int .u64 0, .int .u64 0, .int .u64 0] 62)).block w2.heap.size (Nat.lt_succ_self _)
      exact this.trans (heap_alloc_new w2 _))
    have HW3 : Hid (ChkAt ((w2.alloc (.cells #[.slice A2 N k2] 34)).alloc (.cells #[.int .u64 0, .int .u64 0, .int .u64 0, .int .u64 0] 62)) (w2.heap.size + 1) (List.replicate C false)) := Lib.hid (chk_new _ _ (by simp) (by omega))
    have k0 : ((w2.alloc (.cells #[.slice A2 N k2] 34)).alloc (.cells #[.int .u64 0, .int .u64 0, .int .u64 0, .int .u64 0] 62)).cell? ⟨w2.heap.size, 0, none⟩ = some (.slice A2 N k2) := by rw [cell_of_row _ _ _ _ _ _ HK3.out]; rfl
    have HS3 : Hid (((w2.alloc (.cells #[.slice A2 N k2] 34)).alloc (.cells #[.int .u64 0, .int .u64 0, .int .u64 0, .int .u64 0] 62)).heap.size = w2.heap.size + 2) := Lib.hid (by simp)
    have HAL := Lib.hid hal
    clear hal
    go_wp2_with fail
    generalize ((w2.alloc (.cells #[.slice A2 N k2] 34)).alloc (.cells #[.int .u64 0, .int .u64 0, .int .u64 0, .int .u64 0] 62)) = w3 at *
    refine (syndrome_any N C D s A2 A k2 ca N _ _ cols bs _ (by omega) (by omega) HC.out (Nat.le_refl _) (Nat.le_refl _) (HLL.out.past HAL.out) (HA.out.past HAL.out)).mono ?_
    rintro e w4 ⟨A3, c3', rfl, hc3, ho3, hb4⟩
    dsimp only [id]
    obtain ⟨now, hnow⟩ : ∃ now, now = synL C bs cols := ⟨_, rfl⟩
    rw [← hnow] at ho3 HV2
    have HNL : Hid (now.length = C) := Lib.hid (by rw [hnow, synL_len])
    have HB4 := Lib.hid hb4
    obtain ⟨g3, p3, hv3⟩ := own_head ho3 (by omega)
    injection hv3 with hA3 _ hp3
    subst hA3; subst hp3
    have HO4 := Lib.hid ho3
    have HCK4 := Lib.hid (HW3.out.keep (hb4.block _ HW3.out.lt))
    clear hnow ho3 hb4 c0 c1 c2 c3 k0 HW3
    go_wp2_with fail
    go_loopw [51] (fun i wr => ∃ k : Nat, k ≤ C ∧ i = .int .i64 k ∧ ChkAt wr (w2.heap.size + 1) (tgtK now ss k) ∧ Ke w4.heap.size (w2.heap.size + 1) (w2.heap.size + 1) w4 wr) (fun i _ => C - (intOf i).toNat)
    case atStart => exact ⟨0, Nat.zero_le _, rfl, by rw [tgtK_zero, HNL.out]; exact HCK4.out, Ke.refl _ _ _ _⟩
    case round =>
      obtain ⟨k, hk, rfl, hck, hke⟩ := hrel
      obtain ⟨wa, rfl⟩ : ∃ z : World, z = wr := ⟨_, rfl⟩
      have HC5 := Lib.hid hck; have HK5 := Lib.hid hke
      clear hck hke HCK4
      by_cases hlt : k < C
      · have hki : (k : Int) < (C : Int) := by omega
        have h4s := HK5.out.size
        have hg3 := HO4.out.lt g3 rfl
        have h3s := HS3.out
        have hsl : ss.length = C := by have := HA'.out.1; simpa using this
        obtain ⟨b5, o5, hA5, hb5, hs5⟩ := bool_cell HA'.out hlt
        have hn5 : w4.cell? ⟨g3, k, none⟩ = some (.bool (now.getD k false)) := by
          have hkn : k < now.length := by rw [HNL.out]; exact hlt
          rw [HO4.out.cellAt k (by omega), List.getElem?_map, List.getElem?_eq_getElem hkn, getD_at _ _ hkn]; rfl
        have hn6 := (cell_heap (HK5.out.block g3 hg3.2 (by omega) (by omega)) k).trans hn5
        have h34 := HB4.out.size
        have hs6 := (cell_heap (HK5.out.block b5 (by omega) (by omega) (by omega)) (o5 + k)).trans ((HB4.out.cell (p := ⟨b5, o5 + k, none⟩) (by simp only; omega)).trans ((HAL.out.cell (p := ⟨b5, o5 + k, none⟩) hb5).trans hs5))
        subst hA5
        have HTS := Lib.hid (tgtK_step (now := now) (s := ss) (k := k) (by rw [HNL.out]; exact hlt))
        have hbad : badF now ss k = (now.getD k false != ss.getD k false) := rfl
        rw [hbad] at HTS
        generalize now.getD k false = nb at hn6 HTS
        generalize ss.getD k false = sb at hs6 HTS
        have HRN : Hid (Rd (wa.alloc (.cells #[.int .i64 (k : Int)] 3)) (wa.heap.size + 1) 1 (some ⟨wa.heap.size, 0, none⟩) 1 ([(k : Int)].map (Value.int .i64))) := Lib.hid (Rd.new wa #[.int .i64 (k : Int)] 3 1 1 rfl)
        have HCA : Hid (ChkAt (wa.alloc (.cells #[.int .i64 (k : Int)] 3)) (w2.heap.size + 1) (tgtK now ss k)) := Lib.hid (HC5.out.keep (((Below.refl wa.heap.size wa).alloc (Nat.le_refl _) _).block _ HC5.out.lt))
        clear hbad hn5 hs5 hg3 hb5 hsl
        cases nb <;> cases sb
        case false.false =>
          have HT2 : Hid (tgtK now ss (k + 1) = tgtK now ss k) := Lib.hid (by rw [HTS.out]; rfl)
          clear HTS
          go_wp2_with fail
          go_roundw
          case rel => exact ⟨k + 1, hlt, by go_num, by rw [HT2.out]; exact HC5.out, HK5.out⟩
          case measure => simp [intOf]; omega
        case true.true =>
          have HT2 : Hid (tgtK now ss (k + 1) = tgtK now ss k) := Lib.hid (by rw [HTS.out]; rfl)
          clear HTS
          go_wp2_with fail
          go_roundw
          case rel => exact ⟨k + 1, hlt, by go_num, by rw [HT2.out]; exact HC5.out, HK5.out⟩
          case measure => simp [intOf]; omega
        all_goals
          have HT2 : Hid (tgtK now ss (k + 1) = synCol (tgtK now ss k) [(k : Int)]) := Lib.hid (by rw [HTS.out]; rfl)
          clear HTS
          go_wp2_with fail
          refine (toggle_any (w2.heap.size + 1) _ 1 1 _ (tgtK now ss k) [(k : Int)] _ (by omega) HCA.out (fun x hx => by simp only [List.mem_singleton] at hx; subst hx; rw [tgtK_len, HNL.out]; omega) HRN.out (fun _ p hp => by injection hp with hp; subst hp; simp only; omega)).mono ?_
          rintro e w6 ⟨rfl, hc6, hg6⟩
          have HC6 := Lib.hid hc6; have HK6 := Lib.hid ((HK5.out.alloc (by omega) (.cells #[.int .i64 (k : Int)] 3)).only hg6 (by simp; omega))
          clear hc6 hg6
          go_wp2_with fail
          go_roundw
          case rel => exact ⟨k + 1, hlt, by go_num, by rw [HT2.out]; exact HC6.out, HK6.out⟩
          case measure => simp [intOf]; omega
      · have hki : ¬ (k : Int) < (C : Int) := by omega
        obtain rfl : k = C := by omega
        have HT : Hid (ChkAt wa (w2.heap.size + 1) (tgtB now ss)) := Lib.hid (by
          have := HC5.out
          have e := tgtK_all now ss
          rw [HNL.out] at e
          rwa [e] at this)
        clear HC5
        have h4s := HK5.out.size
        have h3s := HS3.out
        have h34 := HB4.out.size
        go_wp2_with fail
        obtain ⟨wX, hwX⟩ : ∃ z, z = ((wa.alloc (.cells #[.slice none 0 0] 38)).alloc (.cells #[findV (w2.heap.size + 1) w.heap.size w2.heap.size (wa.heap.size + 1) wa.heap.size] 64)) := ⟨_, rfl⟩
        rw [← hwX]
        have hX1 : wX.heap.size = wa.heap.size + 2 := by rw [hwX]; simp
        have hXF : wX.heap[wa.heap.size + 1]? = some (.cells #[findV (w2.heap.size + 1) w.heap.size w2.heap.size (wa.heap.size + 1) wa.heap.size] 64 (0, 0)) := by
          rw [hwX]
          have := heap_alloc_new (wa.alloc (.cells #[.slice none 0 0] 38)) (.cells #[findV (w2.heap.size + 1) w.heap.size w2.heap.size (wa.heap.size + 1) wa.heap.size] 64)
          simpa using this
        have hXT : wX.heap[wa.heap.size]? = some (.cells #[.slice none 0 0] 38 (0, 0)) := by
          rw [hwX]
          have := ((Below.refl (wa.heap.size + 1) (wa.alloc (.cells #[.slice none 0 0] 38))).alloc (by simp) (.cells #[findV (w2.heap.size + 1) w.heap.size w2.heap.size (wa.heap.size + 1) wa.heap.size] 64)).block wa.heap.size (Nat.lt_succ_self _)
          exact this.trans (heap_alloc_new wa _)
        have hXB : Below wa.heap.size wa wX := by rw [hwX]; exact ((Below.refl _ _).alloc (Nat.le_refl _) _).alloc (by simp) _
        have hcl := HCD.out.lt
        have hB2a : Below w2.heap.size w2 wa := ((HAL.out.trans (HB4.out.mono (by omega))).trans (HK5.out.below (by omega) (by omega) (by omega)))
        have hBX : Below w2.heap.size w2 wX := hB2a.trans (hXB.mono (by omega))
        have hwl := HB2.out.size
        have HI : Hid (FnI wX (w2.heap.size + 1) w.heap.size w2.heap.size (wa.heap.size + 1) wa.heap.size w1.heap.size w2.heap.size (wa.heap.size + 2) N k D s A2 k2 cols (tgtB now ss) [] (.slice none 0 0)) := Lib.hid
          ⟨HT.out.keep (hXB.block _ (by omega)), by rw [tgtB_len, HNL.out], HCD.out.past hBX hcl,
            by
              have e1 := (HK5.out.block w2.heap.size (by omega) (by omega) (by omega)).trans ((HB4.out.block _ (by omega)).trans HK3.out)
              rw [cell_of_row _ _ _ _ _ _ ((hXB.block _ (by omega)).trans e1)]; rfl,
            by rw [cell_of_row _ _ _ _ _ _ hXF]; rfl, hXT, World.ownsRow_nil _ _ _ _, HLL.out.below hBX,
            ⟨by omega, by omega, by omega, by omega, by omega, by omega, by omega, by omega, by omega⟩, ⟨by omega, by omega, by omega, by omega, by omega, by omega, by omega⟩⟩
        have HX1 := Lib.hid hX1; have HBX := Lib.hid hBX
        have HV5 : Hid (nearF cols (tgtB now ss) M 0 = V) := HV2
        have h2a : w2.heap.size + 2 ≤ wa.heap.size := by omega
        clear hwX hX1 hXF hXT hXB hB2a hBX HT HK5 HV2 HAL HB4 HO4 HK3 hcl
        go_loopw [69] (fun i wr => ∃ z : Nat, z ≤ M + 1 ∧ i = .int .i64 z ∧ nearF cols (tgtB now ss) M z = V ∧ FnI wr (w2.heap.size + 1) w.heap.size w2.heap.size (wa.heap.size + 1) wa.heap.size w1.heap.size w2.heap.size (wa.heap.size + 2) N k D s A2 k2 cols (tgtB now ss) [] (.slice none 0 0) ∧ Ke (wa.heap.size + 2) (w2.heap.size + 1) wa.heap.size wX wr) (fun i _ => M + 1 - (intOf i).toNat)
        case atStart => exact ⟨0, Nat.zero_le _, rfl, HV5.out, HI.out, Ke.refl _ _ _ _⟩
        case round =>
          obtain ⟨z, hz, rfl, hnf, hI, hke⟩ := hrel
          obtain ⟨wb, rfl⟩ : ∃ z : World, z = wr := ⟨_, rfl⟩
          have HI6 := Lib.hid hI; have HK6 := Lib.hid hke; have HNF := Lib.hid hnf
          have f6 := hI.fn
          clear hI hke hnf HI HV5
          by_cases hlz : z < M + 1
          · have hzi : (z : Int) < ((M + 1 : Nat) : Int) := by omega
            have HNS := Lib.hid (nearF_step (cols := cols) (t := tgtB now ss) (show z ≤ M by omega))
            go_wp2_with fail
            refine (find_any (w2.heap.size + 1) w.heap.size w2.heap.size (wa.heap.size + 1) wa.heap.size w1.heap.size w2.heap.size (wa.heap.size + 2) N k D s A2 k2 cols (by omega) HC.out z 0 _ _ (tgtB now ss) [] _ _ (by omega) rfl rfl (by omega) (by simp; omega) HI6.out).mono ?_
            rintro e w7 ⟨⟨l, va, t', hV, rfl, hI7⟩ | ⟨hV, rfl, hI7⟩, hk7⟩
            · have HE : Hid (V = some (z, l)) := Lib.hid (by rw [← HNF.out, HNS.out, hV])
              have HB7 := Lib.hid (HBX.out.trans ((HK6.out.trans hk7).below (by omega) (by omega) (by omega)))
              have HL : Hid (∀ i ∈ l, i < N) := Lib.hid (fun i hi => by have := (IncF.mem (pikL_sound hV).2.1 i hi).2; rw [HCL.out] at this; exact this)
              have HND : Hid (l.Nodup) := Lib.hid (IncF.nodup (pikL_sound hV).2.1)
              have HLZ : Hid (l.length = z) := Lib.hid (pikL_sound hV).1
              have HOA := Lib.hid hI7.own; have HTK := Lib.hid hI7.tk
              have hlt7 := hI7.lt
              have HA7 := Lib.hid (HA.out.past HB7.out)
              have hz4 : z ≤ 3 := by omega
              clear hV hI7 hk7 f6 HI6 HK6 HNF HNS
              go_wp2_with fail
              refine (Clone_bool A N ca bs _ (by omega) HA7.out).mono ?_
              rintro e w8 ⟨Ax, cx, rfl, hcx, hox, hb8⟩
              have hbl : bs.length = N := by have := HA7.out.1; simpa using this
              obtain ⟨r, hr⟩ : ∃ r, r = l.reverse := ⟨_, rfl⟩
              have hoa : w7.ownsRow (wa.heap.size + 2) 3 1 va r.length ((r.map fun i : Nat => (i : Int)).map (Value.int .i64)) := by
                have := HOA.out
                rw [List.nil_append, ← hr, List.length_map] at this
                exact this
              obtain ⟨Av, cv, rfl, hcv⟩ := own_form hoa
              have t8 : w8.cell? ⟨wa.heap.size, 0, none⟩ = some (.slice Av r.length cv) := by
                rw [cell_of_row _ _ _ _ _ _ ((hb8.block _ (by have := (Array.getElem?_eq_some_iff.1 HTK.out).1; omega)).trans HTK.out)]; rfl
              have HRA := Lib.hid (Rd.own hoa)
              have HRI : Hid (∀ i ∈ r, i < N) := Lib.hid (by rw [hr]; exact fun i hi => HL.out i (by simpa using hi))
              have hrl : r.length = z := by rw [hr, List.length_reverse, HLZ.out]
              have HFR : Hid (flpB bs r = flpB bs l) := Lib.hid (by rw [hr]; exact flpB_rev (fun i hi => by rw [hbl]; exact HL.out i hi) HND.out)
              obtain ⟨gx, cpx, hvx⟩ := own_head hox (by omega)
              injection hvx with hAx _ hcx2
              subst hAx; subst hcx2
              have HOX : Hid (w8.ownsRow w7.heap.size 4 1 (.slice (some ⟨gx, 0, none⟩) N cx) N ((flpB bs []).map Value.bool)) := Lib.hid hox
              have HB8 := Lib.hid hb8
              have HBL := Lib.hid hbl
              clear hox hb8 hoa hr HOA HTK HL HND HLZ hbl
              go_wp2_with fail
              clear t8
              go_loopw [80] (fun i wr => ∃ q : Nat, q ≤ r.length ∧ i = .int .i64 q ∧ wr.ownsRow w7.heap.size 4 1 (.slice (some ⟨gx, 0, none⟩) N cx) N ((flpB bs (r.take q)).map Value.bool) ∧ Below w7.heap.size w7 wr) (fun i _ => r.length - (intOf i).toNat)
              case atStart => exact ⟨0, Nat.zero_le _, rfl, HOX.out, HB8.out⟩
              case round =>
                obtain ⟨q, hq, rfl, hox, hbw⟩ := hrel
                obtain ⟨wc, rfl⟩ : ∃ z : World, z = wr := ⟨_, rfl⟩
                have HO9 := Lib.hid hox; have HB9 := Lib.hid hbw
                clear hox hbw HOX
                by_cases hlq : q < r.length
                · have hqi : (q : Int) < (r.length : Int) := by omega
                  obtain ⟨b9, o9, hA9, hb9, hx⟩ := int_cell (HRA.out.below HB9.out) (k := q) (by rw [List.length_map]; exact hlq)
                  subst hA9
                  rw [List.getElem_map] at hx
                  have hrn := HRI.out _ (List.getElem_mem hlq)
                  have HFS : Hid (flpB bs (r.take (q + 1)) = (flpB bs (r.take q)).set r[q] (!((flpB bs (r.take q)).getD r[q] false))) := Lib.hid (by rw [take_snoc _ _ hlq, flpB_snoc])
                  generalize r[q] = p at hx hrn HFS
                  obtain ⟨cur, hcur⟩ : ∃ cur, cur = flpB bs (r.take q) := ⟨_, rfl⟩
                  have hcl : cur.length = N := by rw [hcur, flpB_len, HBL.out]
                  rw [← hcur] at HO9 HFS
                  have hpc : p < cur.length := by omega
                  have hpi : (p : Int) < (N : Int) := by omega
                  have e0 : wc.cell? ⟨gx, p, none⟩ = some (.bool (cur.getD p false)) := by
                    rw [HO9.out.cellAt p (by omega), List.getElem?_map, List.getElem?_eq_getElem hpc, getD_at _ _ hpc]; rfl
                  have f0 := HO9.out.frozenAt p
                  have hst := (HO9.out.stored p (.bool (!cur.getD p false))).1
                  rw [← List.map_set, ← HFS.out] at hst
                  have hgl := (HO9.out.lt gx rfl).1
                  have HST := Lib.hid hst; have HBS := Lib.hid (HB9.out.setCell (p := ⟨gx, p, none⟩) hgl (.bool (!cur.getD p false)))
                  generalize cur.getD p false = y at e0 HST HBS
                  clear hst hgl hpc hcl hcur hrn hb9 HFS
                  go_wp2_with fail
                  go_roundw
                  case rel => exact ⟨q + 1, hlq, by go_num, HST.out, HBS.out⟩
                  case measure => simp [intOf]; omega
                · have hqi : ¬ (q : Int) < (r.length : Int) := by omega
                  have HO10 : Hid (Rd wc wc.heap.size 1 (some ⟨gx, 0, none⟩) N ((flpB bs l).map Value.bool)) := Lib.hid (by
                    have := Rd.own HO9.out
                    rwa [List.take_of_length_le (by omega), HFR.out] at this)
                  go_wp2_with fail
                  go_ret3
                  exact ⟨.inl ⟨z, l, _, _, HE.out, rfl, hcx, HO10.out⟩, HB2.out.trans ((HB7.out.trans (HB9.out.mono HB7.out.size)).mono hwl)⟩
            · have HN2 : Hid (nearF cols (tgtB now ss) M (z + 1) = V) := Lib.hid (by rw [← HNF.out, HNS.out, hV])
              have HI7 := Lib.hid hI7; have HK7 := Lib.hid (HK6.out.trans hk7)
              clear hV hI7 hk7 f6
              go_wp2_with fail
              go_roundw
              case rel => exact ⟨z + 1, hlz, by go_num, HN2.out, HI7.out, HK7.out⟩
              case measure => simp [intOf]; omega
          · have hzi : ¬ (z : Int) < ((M + 1 : Nat) : Int) := by omega
            have HE : Hid (V = none) := Lib.hid (by rw [← HNF.out, nearF_end (by omega)])
            go_wp2_with fail
            go_ret3
            exact ⟨.inr ⟨HE.out, rfl⟩, HB2.out.trans ((HBX.out.trans (HK6.out.below (by omega) (by omega) (by omega))).mono hwl)⟩
#print axioms Nearest_ok
end Go.Proofs.Ytfinjdkcgmepfaa
