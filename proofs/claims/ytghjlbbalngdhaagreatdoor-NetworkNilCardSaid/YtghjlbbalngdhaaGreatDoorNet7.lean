/- The contract of count. Conditions: as the statement says. -/
import Derived.Test.YtghjlbbalngdhaaGreatDoorNet6
import Derived.Deep.DeepCutAuto
namespace Go.Proofs.YtghjlbbalngdhaaGreatDoor
open Go.RowKit
set_option linter.unusedVariables false
theorem info_int7 : (Tryz.prog.info? 3).map (fun i => (i.zero, i.size, i.bytes)) = some (some (.int .i64 0), 1, 8) := by kernel_rfl
theorem make_int7 (w : World) (c : Nat) (hc : c ≤ 1000000) : (Instr.makeSlice 67 (.int .i64 c) (.int .i64 c)).run Tryz.prog w = .ok (.slice (some ⟨w.heap.size, 0, none⟩) c c) (w.alloc (.cells (Array.replicate c (.int .i64 0)) 3)) := by
  obtain ⟨i, hi, hz, hs, hb⟩ := info_parts info_int7
  have h := run_make (P := Tryz.prog) w _ _ i _ Tryz.underlying67 hi hz .i64 .i64 c c (by omega) (by omega) (by rw [hb]; omega) (by omega)
  rw [hs] at h
  simpa [madeCells_one, Value.cells] using h
/-- A row of which the first places are -1. -/
def half1 (n k : Nat) : List Int := List.replicate k (-1) ++ List.replicate (n - k) 0
theorem half1_set (n k : Nat) (h : k < n) : (half1 n k).set k (-1) = half1 n (k + 1) := by
  unfold half1
  rw [List.set_append_right _ _ (by simp), List.length_replicate, Nat.sub_self, show n - k = (n - (k + 1)) + 1 by omega, List.replicate_succ, List.set_cons_zero, List.replicate_succ', List.append_assoc]; rfl
theorem half1_len (n k : Nat) (h : k ≤ n) : (half1 n k).length = n := by unfold half1; simp; omega
theorem half1_zero (n : Nat) : half1 n 0 = List.replicate n 0 := by simp [half1]
theorem half1_all (n : Nat) : half1 n n = List.replicate n (-1) := by simp [half1]
theorem IRow.zeros (w : World) (n : Nat) : IRow (w.alloc (.cells (Array.replicate n (.int .i64 0)) 3)) w.heap.size (half1 n 0) := by
  have := Bk.new w (Array.replicate n (.int .i64 0)) 3
  unfold IRow
  rw [half1_zero, List.map_replicate]
  simpa using this
def CountP (g : PG) (s t most : Nat) (w : World) (e : Ending) (w' : World) : Prop := (∃ z : Int, z = countG g s t most ∧ e = .returned (.int .i64 z)) ∧ Below w.heap.size w w'
theorem countG_lead (g : PG) (s t most z : Nat) (h : z = if g.open s t s t && decide (0 < most) then 1 else 0) : countG g s t most = z + more g s t (most - z) (List.replicate g.n (-1)) (List.replicate g.n (-1)) := by
  subst h; rfl
set_option maxRecDepth 100000 in
set_option maxHeartbeats 1000000 in
theorem count_any {w : World} {G : Nat} {ns : List Nm} {g : PG} (h : GAt w w.heap.size G ns g) (s t most : Nat) (mI : Int) (hmI : mI = most) (hm : most ≤ 1000) (hs : s < g.n) (ht : t < g.n) (hst : s ≠ t) :
    Calls Tryz.prog 100 #[.pointer (some ⟨G, 0, none⟩), .int .i64 (s : Int), .int .i64 (t : Int), .int .i64 mI] w (CountP g s t most w) := by
  have hmk := fun w => make_int7 w g.n (by have := h.nn; omega)
  obtain ⟨nA, nc, hnm, _⟩ := h.names
  have H := Lib.hid h; have HMI := Lib.hid hmI
  have hn16 := h.nn.2.2
  have m0 : 0 ≤ mI := by omega
  have m1 : mI ≤ 1000 := by omega
  clear h hmI
  go_enter Tryz.func100, Tryz.ntmps100
  go_wp2_with fail
  clear hmk
  have hI1 : IRow ((w.alloc (.cells (Array.replicate g.n (.int .i64 0)) 3)).alloc (.cells (Array.replicate g.n (.int .i64 0)) 3)) w.heap.size (half1 g.n 0) := (IRow.zeros w g.n).keepL (KeepL.alloc [] _ _) (by simp)
  have hI2 : IRow ((w.alloc (.cells (Array.replicate g.n (.int .i64 0)) 3)).alloc (.cells (Array.replicate g.n (.int .i64 0)) 3)) (w.heap.size + 1) (half1 g.n 0) := by
    have := IRow.zeros (w.alloc (.cells (Array.replicate g.n (.int .i64 0)) 3)) g.n
    rwa [World.size_alloc] at this
  have hbw : Below w.heap.size w ((w.alloc (.cells (Array.replicate g.n (.int .i64 0)) 3)).alloc (.cells (Array.replicate g.n (.int .i64 0)) 3)) := ((Below.refl _ _).alloc (Nat.le_refl _) _).alloc (by simp) _
  have HI1 := Lib.hid hI1; have HI2 := Lib.hid hI2; have HBW := Lib.hid hbw
  clear hI1 hI2 hbw
  generalize (w.alloc (.cells (Array.replicate g.n (.int .i64 0)) 3)).alloc (.cells (Array.replicate g.n (.int .i64 0)) 3) = W at HI1 HI2 HBW ⊢
  go_loopw [25] (fun i wr => ∃ k : Nat, k ≤ g.n ∧ i = .int .i64 k ∧ IRow wr w.heap.size (half1 g.n k) ∧ IRow wr (w.heap.size + 1) (half1 g.n k) ∧ Below w.heap.size w wr) (fun i _ => g.n - (intOf i).toNat)
  case atStart => exact ⟨0, Nat.zero_le _, rfl, HI1.out, HI2.out, HBW.out⟩
  case round =>
    obtain ⟨k, hk, rfl, h1, h2, hb⟩ := hrel
    obtain ⟨wa, rfl⟩ : ∃ z : World, z = wr := ⟨_, rfl⟩
    have H1 := Lib.hid h1; have H2 := Lib.hid h2; have HB := Lib.hid hb
    clear h1 h2 hb HI1 HI2 HBW
    by_cases hlt : k < g.n
    · have hki : (k : Int) < (g.n : Int) := by omega
      have c1 : wa.cell? ⟨w.heap.size, k, none⟩ = some (.int .i64 ((half1 g.n k).getD k 0)) := H1.out.cell (by rw [half1_len _ _ hk]; exact hlt)
      have f1 := H1.out.froz k
      have f2 := H2.out.froz k
      have hkp := KeepL.set wa w.heap.size k (.int .i64 (-1))
      have H2' := H2.out.keepL hkp (by simp)
      have c2 : (wa.setCell ⟨w.heap.size, k, none⟩ (.int .i64 (-1))).cell? ⟨w.heap.size + 1, k, none⟩ = some (.int .i64 ((half1 g.n k).getD k 0)) := H2'.cell (by rw [half1_len _ _ hk]; exact hlt)
      have HA := Lib.hid (H1.out.set k (-1)); have HA2 := Lib.hid (H2'.set k (-1))
      clear H2' hkp
      go_wp2_with fail
      go_roundw
      case rel => exact ⟨k + 1, by omega, by go_num, by rw [← half1_set _ _ hlt]; exact HA.out.keepL (KeepL.set _ (w.heap.size + 1) k (.int .i64 (-1))) (by simp), by rw [← half1_set _ _ hlt]; exact HA2.out, (HB.out.setCell (p := ⟨w.heap.size, k, none⟩) (Nat.le_refl _) _).setCell (p := ⟨w.heap.size + 1, k, none⟩) (Nat.le_succ _) _⟩
      case measure => simp [intOf]; omega
    · have hki : ¬ (k : Int) < (g.n : Int) := by omega
      obtain rfl : k = g.n := by omega
      have HG := Lib.hid (H.out.below HB.out)
      have hop := open_any HG.out s t s t hs ht
      have HOP := Lib.hid hop
      clear hop
      go_wp2_with fail
      refine HOP.out.mono ?_
      rintro e w' ⟨rfl, rfl⟩
      obtain ⟨op, hop⟩ : ∃ b, b = g.open s t s t := ⟨_, rfl⟩
      rw [← hop]
      have HOPV := Lib.hid hop
      clear hop
      go_upto_region 11 with fail
      go_cut [45] (fun s45 wx => s45 = .bool (op && decide (0 < most)) ∧ wa = wx)
      case first =>
        cases op
        · go_wp2_with fail
          go_meet
          case rel => exact ⟨by simp, rfl⟩
        · by_cases hp : 0 < mI
          · have hd : decide (0 < most) = true := by simp; have := HMI.out; omega
            go_wp2_with fail
            go_meet
            case rel => exact ⟨by rw [hd]; rfl, rfl⟩
          · have hd : decide (0 < most) = false := by simp; have := HMI.out; omega
            go_wp2_with fail
            go_meet
            case rel => exact ⟨by rw [hd]; rfl, rfl⟩
      case rest =>
        obtain ⟨rfl, rfl⟩ := hcut
        go_upto_if 45 with fail
        go_cut [14] (fun s14 wx => ∃ z : Nat, s14 = .int .i64 (z : Int) ∧ (z = if op && decide (0 < most) then 1 else 0) ∧ wa = wx)
        case first =>
          cases hz : (op && decide (0 < most))
          · go_wp2_with fail
            go_meet
            case rel => exact ⟨0, rfl, by rw [hz]; rfl, rfl⟩
          · go_wp2_with fail
            go_meet
            case rel => exact ⟨1, rfl, by rw [hz]; rfl, rfl⟩
        case rest =>
          obtain ⟨z, rfl, hz, rfl⟩ := hcut
          have HLEAD := Lib.hid (countG_lead g s t most z (by rw [hz, HOPV.out]))
          have hzm : z ≤ most := by
            rw [hz]
            split
            · rename_i h; simp at h; omega
            · omega
          have HR0 : Hid (RowsOK wa w.heap.size (w.heap.size + 1) g.n (List.replicate g.n (-1)) (List.replicate g.n (-1))) := Lib.hid ⟨by simp, by rw [← half1_all]; exact H1.out, by rw [← half1_all]; exact H2.out, fun i => by
            rw [List.getD_eq_getElem?_getD, List.getElem?_replicate]
            split
            · simp; omega
            · simp; omega⟩
          clear hz H1 H2
          go_wp2_with fail
          go_loopw [14] (fun fv wr => ∃ (j : Nat) (N P : List Int), fv = .int .i64 (j : Int) ∧ j ≤ most ∧ RowsOK wr w.heap.size (w.heap.size + 1) g.n N P ∧ countG g s t most = j + more g s t (most - j) N P ∧ Below w.heap.size w wr) (fun fv _ => most - (intOf fv).toNat)
          case atStart => exact ⟨z, _, _, rfl, hzm, HR0.out, HLEAD.out, HB.out⟩
          case round =>
            obtain ⟨j, N, P, rfl, hj, hr, hc, hb⟩ := hrel
            obtain ⟨wb, rfl⟩ : ∃ z : World, z = wr := ⟨_, rfl⟩
            have HR := Lib.hid hr; have HC := Lib.hid hc; have HB2 := Lib.hid hb
            clear hr hc hb HR0 HB
            by_cases hlt : j < most
            · have hki : (j : Int) < mI := by have := HMI.out; omega
              have hau := augment_any (H.out.below HB2.out) s t w.heap.size (w.heap.size + 1) N P hs ht hst ⟨Nat.le_refl _, Nat.le_succ _⟩ (by omega) HR.out
              have HAU := Lib.hid hau
              obtain ⟨m, hm2⟩ : ∃ m, most - j = m + 1 := ⟨most - j - 1, by omega⟩
              have HMORE : Hid (more g s t (most - j) N P = match augment g s t N P with | none => 0 | some r => more g s t m r.1 r.2 + 1) := Lib.hid (by rw [hm2]; rfl)
              clear hau
              go_wp2_with fail
              refine HAU.out.mono ?_
              intro e w9 h9
              unfold AugP at h9
              cases ha : augment g s t N P with
              | none =>
                rw [ha] at h9
                obtain ⟨rfl, h10, h11, h12⟩ := h9
                have HV : Hid (countG g s t most = j) := Lib.hid (by rw [HC.out, HMORE.out, ha]; rfl)
                have HB9 := Lib.hid (HB2.out.trans (h12.below HB2.out.size (by simp)))
                clear h10 h11 h12 ha
                go_wp2_with fail
                go_ret
                exact ⟨⟨(j : Int), by rw [HV.out], rfl⟩, HB9.out⟩
              | some r =>
                rw [ha] at h9
                obtain ⟨rfl, h10, h12⟩ := h9
                have HV : Hid (countG g s t most = (j + 1) + more g s t (most - (j + 1)) r.1 r.2) := Lib.hid (by rw [HC.out, HMORE.out, ha, show most - (j + 1) = m by omega]; show j + (more g s t m r.1 r.2 + 1) = j + 1 + more g s t m r.1 r.2; omega)
                have HR9 := Lib.hid h10
                have HB9 := Lib.hid (HB2.out.trans (h12.below HB2.out.size (by simp)))
                clear h10 h12 ha
                go_wp2_with fail
                go_roundw
                case rel => exact ⟨j + 1, r.1, r.2, by go_num, hlt, HR9.out, HV.out, HB9.out⟩
                case measure => simp [intOf]; omega
            · have hki : ¬ (j : Int) < mI := by have := HMI.out; omega
              have HV : Hid (countG g s t most = j) := Lib.hid (by rw [HC.out, show most - j = 0 by omega]; rfl)
              go_wp2_with fail
              go_ret
              exact ⟨⟨(j : Int), by rw [HV.out], rfl⟩, HB2.out⟩
#print axioms count_any
end Go.Proofs.YtghjlbbalngdhaaGreatDoor
/- The contract of distances. Conditions: as the statement says. -/
namespace Go.Proofs.YtghjlbbalngdhaaGreatDoor
open Go.RowKit
set_option linter.unusedVariables false
def NRow (w : World) (h : Nat) (d : List Nat) : Prop := IRow w h (d.map fun x : Nat => (x : Int))
theorem NRow.cell {w : World} {h : Nat} {d : List Nat} (k : NRow w h d) {i : Nat} (hi : i < d.length) : w.cell? ⟨h, i, none⟩ = some (.int .i64 (d.getD i 0 : Nat)) := by
  have := IRow.cell k (i := i) (by simpa using hi)
  rw [this]
  congr 2
  rw [List.getD_eq_getElem?_getD, List.getD_eq_getElem?_getD, List.getElem?_map, List.getElem?_eq_getElem hi]; rfl
theorem NRow.set {w : World} {h : Nat} {d : List Nat} (k : NRow w h d) (i x : Nat) : NRow (w.setCell ⟨h, i, none⟩ (.int .i64 (x : Int))) h (d.set i x) := by
  unfold NRow
  rw [List.map_set]
  exact IRow.set k i x
theorem NRow.keepL {L : List Nat} {w w' : World} {h : Nat} {d : List Nat} (k : NRow w h d) (hb : KeepL L w w') (hL : h ∉ L) : NRow w' h d := IRow.keepL k hb hL
theorem NRow.froz {w : World} {h : Nat} {d : List Nat} (k : NRow w h d) (i : Nat) : w.frozen? ⟨h, i, none⟩ = false := IRow.froz k i
/-- A row of which the first places are filled. -/
def halfN (x n k : Nat) : List Nat := List.replicate k x ++ List.replicate (n - k) 0
theorem halfN_set (x n k : Nat) (h : k < n) : (halfN x n k).set k x = halfN x n (k + 1) := by
  unfold halfN
  rw [List.set_append_right _ _ (by simp), List.length_replicate, Nat.sub_self, show n - k = (n - (k + 1)) + 1 by omega, List.replicate_succ, List.set_cons_zero, List.replicate_succ', List.append_assoc]; rfl
theorem halfN_len (x n k : Nat) (h : k ≤ n) : (halfN x n k).length = n := by unfold halfN; simp; omega
theorem halfN_all (x n : Nat) : halfN x n n = List.replicate n x := by simp [halfN]
theorem NRow.zeros (w : World) (x n : Nat) : NRow (w.alloc (.cells (Array.replicate n (.int .i64 0)) 3)) w.heap.size (halfN x n 0) := by
  have h := IRow.zeros w n
  unfold NRow
  have : (halfN x n 0).map (fun x : Nat => (x : Int)) = half1 n 0 := by simp [halfN, half1]
  rw [this]; exact h
theorem relax1_len (g : PG) (s t a b : Nat) (d : List Nat) : (relax1 g s t a b d).length = d.length := by unfold relax1; split <;> simp
theorem relaxB_len (g : PG) (s t a : Nat) (d : List Nat) : ∀ k, (relaxB g s t a d k).length = d.length
  | 0 => rfl
  | k + 1 => by rw [relaxB, relax1_len, relaxB_len g s t a d k]
theorem relaxA_len (g : PG) (s t : Nat) (d : List Nat) : ∀ k, (relaxA g s t d k).length = d.length
  | 0 => rfl
  | k + 1 => by rw [relaxA, relaxB_len, relaxA_len g s t d k]
theorem relaxN_len (g : PG) (s t : Nat) (d : List Nat) : ∀ k, (relaxN g s t d k).length = d.length
  | 0 => rfl
  | k + 1 => by rw [relaxN, relaxA_len, relaxN_len g s t d k]
/-- Values that stay small. -/
def smallD (n : Nat) (d : List Nat) : Prop := ∀ i, d.getD i 0 ≤ n + 1
theorem smallD.set {n : Nat} {d : List Nat} (h : smallD n d) (j : Nat) {x : Nat} (hx : x ≤ n + 1) : smallD n (d.set j x) := fun i => by
  have h2 := h i
  simp only [List.getD_eq_getElem?_getD, List.getElem?_set] at h2 ⊢
  split
  · split
    · simpa using hx
    · simp
  · exact h2
theorem relax1_small {g : PG} {s t a b n : Nat} {d : List Nat} (h : smallD n d) : smallD n (relax1 g s t a b d) := by
  unfold relax1
  split
  · exact h.set _ (by have := h a; omega)
  · exact h
theorem relaxB_small {g : PG} {s t a n : Nat} {d : List Nat} (h : smallD n d) : ∀ k, smallD n (relaxB g s t a d k)
  | 0 => h
  | k + 1 => by rw [relaxB]; exact relax1_small (relaxB_small h k)
theorem relaxA_small {g : PG} {s t n : Nat} {d : List Nat} (h : smallD n d) : ∀ k, smallD n (relaxA g s t d k)
  | 0 => h
  | k + 1 => by rw [relaxA]; exact relaxB_small (relaxA_small h k) _
theorem relaxN_small {g : PG} {s t n : Nat} {d : List Nat} (h : smallD n d) : ∀ k, smallD n (relaxN g s t d k)
  | 0 => h
  | k + 1 => by rw [relaxN]; exact relaxA_small (relaxN_small h k) _
theorem start_small (n t : Nat) : smallD n ((List.replicate n (n + 1)).set t 0) := smallD.set (fun i => by
  rw [List.getD_eq_getElem?_getD, List.getElem?_replicate]; split <;> simp) _ (by omega)
theorem distG_len (g : PG) (s t : Nat) : (distG g s t).length = g.n := by unfold distG; rw [relaxN_len]; simp
def DistP (g : PG) (s t : Nat) (w : World) (e : Ending) (w' : World) : Prop := e = .returned (.slice (some ⟨w.heap.size, 0, none⟩) g.n g.n) ∧ NRow w' w.heap.size (distG g s t) ∧ Below w.heap.size w w'
set_option maxRecDepth 100000 in
set_option maxHeartbeats 1000000 in
theorem distances_any {w : World} {G : Nat} {ns : List Nm} {g : PG} (h : GAt w w.heap.size G ns g) (s t : Nat) (hs : s < g.n) (ht : t < g.n) :
    Calls Tryz.prog 133 #[.pointer (some ⟨G, 0, none⟩), .int .i64 (s : Int), .int .i64 (t : Int)] w (DistP g s t w) := by
  have hmk := fun w => make_int7 w g.n (by have := h.nn; omega)
  obtain ⟨nA, nc, hnm, _⟩ := h.names
  have H := Lib.hid h
  have hn16 := h.nn.2.2
  have hGl := h.lt
  clear h
  go_enter Tryz.func133, Tryz.ntmps133
  go_wp2_with fail
  clear hmk
  have HI0 : Hid (NRow (w.alloc (.cells (Array.replicate g.n (.int .i64 0)) 3)) w.heap.size (halfN (g.n + 1) g.n 0)) := Lib.hid (NRow.zeros w (g.n + 1) g.n)
  have HB0 : Hid (Below w.heap.size w (w.alloc (.cells (Array.replicate g.n (.int .i64 0)) 3))) := Lib.hid ((Below.refl _ _).alloc (Nat.le_refl _) _)
  generalize w.alloc (.cells (Array.replicate g.n (.int .i64 0)) 3) = W at HI0 HB0 ⊢
  go_loopw [19] (fun i wr => ∃ k : Nat, k ≤ g.n ∧ i = .int .i64 k ∧ NRow wr w.heap.size (halfN (g.n + 1) g.n k) ∧ Below w.heap.size w wr) (fun i _ => g.n - (intOf i).toNat)
  case atStart => exact ⟨0, Nat.zero_le _, rfl, HI0.out, HB0.out⟩
  case round =>
    obtain ⟨k, hk, rfl, h1, hb⟩ := hrel
    obtain ⟨wa, rfl⟩ : ∃ z : World, z = wr := ⟨_, rfl⟩
    have H1 := Lib.hid h1; have HB := Lib.hid hb
    have cg : wa.cell? ⟨G, 0, none⟩ = some (.slice nA g.n nc) := (hb.cell (p := ⟨G, 0, none⟩) hGl).trans hnm
    clear h1 hb HI0 HB0
    by_cases hlt : k < g.n
    · have hki : (k : Int) < (g.n : Int) := by omega
      have c1 : wa.cell? ⟨w.heap.size, k, none⟩ = some (.int .i64 ((halfN (g.n + 1) g.n k).getD k 0 : Nat)) := H1.out.cell (by rw [halfN_len _ _ _ hk]; exact hlt)
      have f1 := H1.out.froz k
      have HA := Lib.hid (H1.out.set k (g.n + 1))
      go_wp2_with fail
      go_roundw
      case rel => exact ⟨k + 1, by omega, by go_num, by rw [← halfN_set _ _ _ hlt]; exact HA.out, HB.out.setCell (p := ⟨w.heap.size, k, none⟩) (Nat.le_refl _) _⟩
      case measure => simp [intOf]; omega
    · have hki : ¬ (k : Int) < (g.n : Int) := by omega
      obtain rfl : k = g.n := by omega
      have HR : Hid (NRow wa w.heap.size (List.replicate g.n (g.n + 1))) := Lib.hid (by rw [← halfN_all]; exact H1.out)
      have c1 : wa.cell? ⟨w.heap.size, t, none⟩ = some (.int .i64 ((List.replicate g.n (g.n + 1)).getD t 0 : Nat)) := HR.out.cell (by simpa using ht)
      have f1 := HR.out.froz t
      have hti : (t : Int) < (g.n : Int) := by omega
      have HA := Lib.hid (HR.out.set t 0)
      clear H1
      go_wp2_with fail
      have HD0 : Hid (NRow (wa.setCell ⟨w.heap.size, t, none⟩ (.int .i64 0)) w.heap.size ((List.replicate g.n (g.n + 1)).set t 0)) := Lib.hid HA.out
      have HBB : Hid (Below w.heap.size w (wa.setCell ⟨w.heap.size, t, none⟩ (.int .i64 0))) := Lib.hid (HB.out.setCell (p := ⟨w.heap.size, t, none⟩) (Nat.le_refl _) _)
      have HSM := Lib.hid (start_small g.n t)
      have HDL : Hid (((List.replicate g.n (g.n + 1)).set t 0).length = g.n) := Lib.hid (by simp)
      have HDG : Hid (distG g s t = relaxN g s t ((List.replicate g.n (g.n + 1)).set t 0) g.n) := Lib.hid rfl
      clear HA HR HB cg c1 f1
      generalize (List.replicate g.n (g.n + 1)).set t 0 = D at HD0 HSM HDL HDG
      generalize wa.setCell ⟨w.heap.size, t, none⟩ (.int .i64 0) = wb at HD0 HBB ⊢
      go_loopw [37] (fun i wr => ∃ r : Nat, r ≤ g.n ∧ i = .int .i64 r ∧ NRow wr w.heap.size (relaxN g s t D r) ∧ Below w.heap.size w wr) (fun i _ => g.n - (intOf i).toNat)
      case atStart => exact ⟨0, Nat.zero_le _, rfl, HD0.out, HBB.out⟩
      case round =>
        obtain ⟨r, hr, rfl, h1, hb⟩ := hrel
        obtain ⟨wc, rfl⟩ : ∃ z : World, z = wr := ⟨_, rfl⟩
        have H1 := Lib.hid h1; have HB := Lib.hid hb
        clear h1 hb HD0 HBB
        by_cases hlt2 : r < g.n
        · have hki : (r : Int) < (g.n : Int) := by omega
          go_wp2_with fail
          go_loopw [41] (fun i wr => ∃ a : Nat, a ≤ g.n ∧ i = .int .i64 a ∧ NRow wr w.heap.size (relaxA g s t (relaxN g s t D r) a) ∧ Below w.heap.size w wr) (fun i _ => g.n - (intOf i).toNat)
          case atStart => exact ⟨0, Nat.zero_le _, rfl, H1.out, HB.out⟩
          case round =>
            obtain ⟨a, ha, rfl, h1, hb⟩ := hrel
            obtain ⟨wd, rfl⟩ : ∃ z : World, z = wr := ⟨_, rfl⟩
            have H2 := Lib.hid h1; have HB2 := Lib.hid hb
            clear h1 hb H1 HB
            by_cases hlt3 : a < g.n
            · have hki3 : (a : Int) < (g.n : Int) := by omega
              go_wp2_with fail
              go_loopw [46] (fun i wr => ∃ b : Nat, b ≤ g.n ∧ i = .int .i64 b ∧ NRow wr w.heap.size (relaxB g s t a (relaxA g s t (relaxN g s t D r) a) b) ∧ Below w.heap.size w wr) (fun i _ => g.n - (intOf i).toNat)
              case atStart => exact ⟨0, Nat.zero_le _, rfl, H2.out, HB2.out⟩
              case round =>
                obtain ⟨b, hb', rfl, h1, hb⟩ := hrel
                obtain ⟨we, rfl⟩ : ∃ z : World, z = wr := ⟨_, rfl⟩
                have HB3 := Lib.hid hb
                have hll : (relaxB g s t a (relaxA g s t (relaxN g s t D r) a) b).length = g.n := by rw [relaxB_len, relaxA_len, relaxN_len, HDL.out]
                have hsm : smallD g.n (relaxB g s t a (relaxA g s t (relaxN g s t D r) a) b) := relaxB_small (relaxA_small (relaxN_small HSM.out _) _) _
                have HST : Hid (relaxB g s t a (relaxA g s t (relaxN g s t D r) a) (b + 1) = relax1 g s t a b (relaxB g s t a (relaxA g s t (relaxN g s t D r) a) b)) := Lib.hid rfl
                clear H2 HB2 hb
                by_cases hlt4 : b < g.n
                · have hki4 : (b : Int) < (g.n : Int) := by omega
                  have hop := open_any (H.out.below HB3.out) a b s t hlt3 hlt4
                  have HOP := Lib.hid hop
                  clear hop
                  generalize hE : relaxB g s t a (relaxA g s t (relaxN g s t D r) a) b = E at h1 hll hsm HST
                  have H3 := Lib.hid h1
                  clear h1 hE
                  have ca : we.cell? ⟨w.heap.size, a, none⟩ = some (.int .i64 (E.getD a 0 : Nat)) := H3.out.cell (by omega)
                  have cb : we.cell? ⟨w.heap.size, b, none⟩ = some (.int .i64 (E.getD b 0 : Nat)) := H3.out.cell (by omega)
                  have fa := H3.out.froz a
                  have va := hsm a; have vb := hsm b
                  have HSM2 := Lib.hid hsm
                  clear hsm
                  go_wp2_with fail
                  refine HOP.out.mono ?_
                  rintro e w' ⟨rfl, rfl⟩
                  cases ho : g.open a b s t
                  · have HV : Hid (relax1 g s t a b E = E) := Lib.hid (by unfold relax1; rw [ho]; rfl)
                    clear ho
                    go_wp2_with fail
                    go_roundw
                    case rel => exact ⟨b + 1, by omega, by go_num, by rw [HST.out, HV.out]; exact H3.out, HB3.out⟩
                    case measure => simp [intOf]; omega
                  · have HV : Hid (relax1 g s t a b E = E.set a (min (E.getD a 0) (E.getD b 0 + 1))) := Lib.hid (by unfold relax1; rw [ho]; rfl)
                    clear ho
                    generalize E.getD a 0 = x at ca va HV
                    generalize E.getD b 0 = y at cb vb HV
                    have hw1 : IntKind.i64.wrap ((y : Int) + 1) = (y : Int) + 1 := by rw [IntKind.wrap_i64]; omega
                    rcases (by omega : x < y + 1 ∨ y + 1 < x ∨ x = y + 1) with hxy | hxy | hxy
                    · have z1 : (x : Int) < (y : Int) + 1 := by omega
                      have z2 : ¬ (y : Int) + 1 < (x : Int) := by omega
                      go_wp2_with fail
                      refine wp_region_quiet_tail 13 (by kernel_rfl) (by kernel_rfl) ?_
                      simp only [List.take_succ_cons, List.take_zero, List.drop_succ_cons, List.drop_zero]
                      repeat (quiet_step (fail))
                      refine wpQuiet_nil ?_
                      intro _ hw'
                      obtain ⟨nq, hw''⟩ := hw'
                      subst hw''
                      have hqw : Qw we (we.drewN nq) := ⟨nq, rfl⟩
                      have H4 := Lib.hid (H3.out.keepL (KeepL.q (L := []) hqw) (by simp)); have HB4 := Lib.hid (HB3.out.trans (hqw.below _))
                      clear hqw ca cb fa
                      generalize we.drewN nq = wf at H4 HB4 ⊢
                      have ca : wf.cell? ⟨w.heap.size, a, none⟩ = some (.int .i64 (E.getD a 0 : Nat)) := H4.out.cell (by omega)
                      have fa := H4.out.froz a
                      go_wp2_with fail
                      go_roundw
                      case rel => exact ⟨b + 1, by omega, by go_num, by rw [HST.out, HV.out, show min x (y + 1) = x by omega]; exact H4.out.set a _, HB4.out.setCell (p := ⟨w.heap.size, a, none⟩) (Nat.le_refl _) _⟩
                      case measure => simp [intOf]; omega
                    · have z1 : ¬ (x : Int) < (y : Int) + 1 := by omega
                      have z2 : (y : Int) + 1 < (x : Int) := by omega
                      go_wp2_with fail
                      refine wp_region_quiet_tail 13 (by kernel_rfl) (by kernel_rfl) ?_
                      simp only [List.take_succ_cons, List.take_zero, List.drop_succ_cons, List.drop_zero]
                      repeat (quiet_step (fail))
                      refine wpQuiet_nil ?_
                      intro _ hw'
                      obtain ⟨nq, hw''⟩ := hw'
                      subst hw''
                      have hqw : Qw we (we.drewN nq) := ⟨nq, rfl⟩
                      have H4 := Lib.hid (H3.out.keepL (KeepL.q (L := []) hqw) (by simp)); have HB4 := Lib.hid (HB3.out.trans (hqw.below _))
                      clear hqw ca cb fa
                      generalize we.drewN nq = wf at H4 HB4 ⊢
                      have ca : wf.cell? ⟨w.heap.size, a, none⟩ = some (.int .i64 (E.getD a 0 : Nat)) := H4.out.cell (by omega)
                      have fa := H4.out.froz a
                      go_wp2_with fail
                      go_roundw
                      case rel => exact ⟨b + 1, by omega, by go_num, by rw [HST.out, HV.out, show min x (y + 1) = y + 1 by omega]; exact H4.out.set a _, HB4.out.setCell (p := ⟨w.heap.size, a, none⟩) (Nat.le_refl _) _⟩
                      case measure => simp [intOf]; omega
                    · have z1 : ¬ (x : Int) < (y : Int) + 1 := by omega
                      have z2 : ¬ (y : Int) + 1 < (x : Int) := by omega
                      go_wp2_with fail
                      refine wp_region_quiet_tail 13 (by kernel_rfl) (by kernel_rfl) ?_
                      simp only [List.take_succ_cons, List.take_zero, List.drop_succ_cons, List.drop_zero]
                      repeat (quiet_step (fail))
                      refine wpQuiet_nil ?_
                      intro _ hw'
                      obtain ⟨nq, hw''⟩ := hw'
                      subst hw''
                      have hqw : Qw we (we.drewN nq) := ⟨nq, rfl⟩
                      have H4 := Lib.hid (H3.out.keepL (KeepL.q (L := []) hqw) (by simp)); have HB4 := Lib.hid (HB3.out.trans (hqw.below _))
                      clear hqw ca cb fa
                      generalize we.drewN nq = wf at H4 HB4 ⊢
                      have ca : wf.cell? ⟨w.heap.size, a, none⟩ = some (.int .i64 (E.getD a 0 : Nat)) := H4.out.cell (by omega)
                      have fa := H4.out.froz a
                      go_wp2_with fail
                      go_roundw
                      case rel => exact ⟨b + 1, by omega, by go_num, by rw [HST.out, HV.out, show min x (y + 1) = y + 1 by omega]; exact H4.out.set a _, HB4.out.setCell (p := ⟨w.heap.size, a, none⟩) (Nat.le_refl _) _⟩
                      case measure => simp [intOf]; omega
                · have hki4 : ¬ (b : Int) < (g.n : Int) := by omega
                  obtain rfl : b = g.n := by omega
                  have H3 := Lib.hid h1
                  clear h1
                  go_wp2_with fail
                  go_roundw
                  case rel => exact ⟨a + 1, by omega, by go_num, H3.out, HB3.out⟩
                  case measure => simp [intOf]; omega
            · have hki3 : ¬ (a : Int) < (g.n : Int) := by omega
              obtain rfl : a = g.n := by omega
              go_wp2_with fail
              go_roundw
              case rel => exact ⟨r + 1, by omega, by go_num, H2.out, HB2.out⟩
              case measure => simp [intOf]; omega
        · have hki : ¬ (r : Int) < (g.n : Int) := by omega
          obtain rfl : r = g.n := by omega
          go_wp2_with fail
          go_ret
          exact ⟨rfl, by rw [HDG.out]; exact H1.out, HB.out⟩
#print axioms distances_any
end Go.Proofs.YtghjlbbalngdhaaGreatDoor
/- Paths in memory: the contracts of slices.Index, slices.Contains, slices.Clone at a path. Conditions: as each statement says. -/
namespace Go.Proofs.YtghjlbbalngdhaaGreatDoor
open Go.RowKit
set_option linter.unusedVariables false
def natsV (p : List Nat) : List Value := p.map fun x : Nat => .int .i64 x
/-- A path in memory, in a block known whole. -/
def PathV (w : World) (v : Value) (p : List Nat) : Prop := ∃ h c cs, v = .slice (some ⟨h, 0, none⟩) p.length c ∧ p.length ≤ c ∧ Bk w h cs 3 ∧ ∀ i, i < p.length → cs[i]? = some (.int .i64 (p.getD i 0 : Nat))
theorem contains_of_at {p : List Nat} {x k : Nat} (hk : k < p.length) (h : p.getD k 0 = x) : p.contains x = true := by
  rw [List.contains_iff_mem]; subst h; rw [List.getD_eq_getElem?_getD, List.getElem?_eq_getElem hk]; exact List.getElem_mem _
theorem contains_of_none {p : List Nat} {x : Nat} (h : ∀ j, j < p.length → p.getD j 0 ≠ x) : p.contains x = false := by
  rw [← Bool.not_eq_true, List.contains_iff_mem]
  intro hm
  obtain ⟨j, hj, e⟩ := List.getElem_of_mem hm
  exact h j hj (by rw [List.getD_eq_getElem?_getD, List.getElem?_eq_getElem hj]; exact e)
def IdxP (p : List Nat) (x : Nat) (w : World) (e : Ending) (w' : World) : Prop := (∃ r : Int, e = .returned (.int .i64 r) ∧ decide (0 ≤ r) = p.contains x) ∧ w = w'
set_option maxHeartbeats 1000000 in
theorem index_path (h c : Nat) (p : List Nat) (x : Nat) (w : World) (hl : p.length ≤ 1000000) (hc : ∀ i, i < p.length → w.cell? ⟨h, i, none⟩ = some (.int .i64 (p.getD i 0 : Nat))) :
    Calls Tryz.prog 182 #[.slice (some ⟨h, 0, none⟩) p.length c, .int .i64 (x : Int)] w (IdxP p x w) := by
  go_enter Tryz.func182, Tryz.ntmps182
  go_wp2_with fail
  go_loopw [8] (fun i wr => ∃ k : Nat, k ≤ p.length ∧ i = .int .i64 k ∧ w = wr ∧ ∀ j, j < k → p.getD j 0 ≠ x) (fun i _ => p.length - (intOf i).toNat)
  case atStart => exact ⟨0, Nat.zero_le _, rfl, rfl, fun j hj => absurd hj (Nat.not_lt_zero _)⟩
  case round =>
    obtain ⟨k, hk, rfl, rfl, hne⟩ := hrel
    have HNE := Lib.hid hne; clear hne
    by_cases hlt : k < p.length
    · have hki : (k : Int) < (p.length : Int) := by omega
      have hcell := hc k hlt
      have HC := Lib.hid hc; clear hc
      by_cases he : x = p.getD k 0
      · have HK := Lib.hid (contains_of_at hlt he.symm)
        generalize p.getD k 0 = y at hcell he
        subst he
        have e1 : ((x : Int) == (x : Int)) = true := by simp
        go_wp2_with fail
        go_ret
        exact ⟨⟨_, rfl, by rw [HK.out]; simp⟩, rfl⟩
      · have HE : Hid (∀ j, j < k + 1 → p.getD j 0 ≠ x) := Lib.hid (fun j hj => by
          rcases Nat.lt_or_ge j k with h2 | h2
          · exact HNE.out j h2
          · obtain rfl : j = k := by omega
            exact fun h3 => he h3.symm)
        generalize p.getD k 0 = y at hcell he
        have e1 : ((x : Int) == (y : Int)) = false := by simp; omega
        have e2 : ¬ (x : Int) = (y : Int) := by omega
        go_wp2_with fail
        go_roundw
        case rel => exact ⟨k + 1, by omega, by go_num, trivial, HE.out⟩
        case measure => simp [intOf]; omega
    · have hki : ¬ (k : Int) < (p.length : Int) := by omega
      obtain rfl : k = p.length := by omega
      have HC := Lib.hid hc; clear hc
      go_wp2_with fail
      go_ret
      exact ⟨⟨_, rfl, by rw [contains_of_none HNE.out]; rfl⟩, rfl⟩
theorem contains_path (h c : Nat) (p : List Nat) (x : Nat) (w : World) (hl : p.length ≤ 1000000) (hc : ∀ i, i < p.length → w.cell? ⟨h, i, none⟩ = some (.int .i64 (p.getD i 0 : Nat))) :
    Calls Tryz.prog 168 #[.slice (some ⟨h, 0, none⟩) p.length c, .int .i64 (x : Int)] w fun e w' => e = .returned (.bool (p.contains x)) ∧ w = w' := by
  have H := Lib.hid (index_path h c p x w hl hc)
  clear hc
  go_enter Tryz.func168, Tryz.ntmps168
  go_wp2_with fail
  refine H.out.mono ?_
  rintro e w' ⟨⟨r, rfl, hr⟩, rfl⟩
  have HR := Lib.hid hr
  clear hr
  go_wp2_with fail
  go_ret
  refine ⟨?_, rfl⟩
  rw [← HR.out]
  rfl
theorem PathV.rd {w : World} {h c : Nat} {cs : Array Value} {t : TypeId} {p : List Nat} (hb : Bk w h cs t) (hcs : ∀ i, i < p.length → cs[i]? = some (.int .i64 (p.getD i 0 : Nat))) : Rd w w.heap.size 1 (some ⟨h, 0, none⟩) p.length (natsV p) := by
  refine ⟨by simp [natsV], fun _ => ⟨h, 0, rfl, hb.lt, fun j u hu => ?_⟩⟩
  rw [Nat.zero_add, hb.cell]
  unfold natsV at hu
  rw [List.getElem?_map, Option.map_eq_some_iff] at hu
  obtain ⟨x, hx, rfl⟩ := hu
  have hj : j < p.length := (List.getElem?_eq_some_iff.1 hx).1
  rw [hcs j hj, List.getD_eq_getElem?_getD, hx]; rfl
set_option maxRecDepth 100000 in
theorem clone_path {w : World} {v : Value} {p : List Nat} (h : PathV w v p) (hn : p.length ≤ 1000000) :
    Calls Tryz.prog 169 #[v] w fun e w' => (∃ v', e = .returned v' ∧ w'.ownsRow w.heap.size 3 1 v' p.length (natsV p)) ∧ Below w.heap.size w w' := by
  obtain ⟨hh, c, cs, rfl, hc, hb, hcs⟩ := h
  have H := Lib.hid (PathV.rd (c := c) hb hcs)
  clear hb hcs
  obtain ⟨i0, hi0, hz0, hz1, hz2⟩ := info_parts info_int7
  have HI0 := Lib.hid hi0; have HZ0 := Lib.hid hz0; have HZ1 := Lib.hid hz1; have HZ2 := Lib.hid hz2
  clear hi0 hz0 hz1 hz2
  have q : ∀ (w : World) (a : Option Addr) (n c n' c' : Nat), (binOp .eql 67 (.slice a n c) (.slice none n' c')).run Tryz.prog w = .ok (.bool a.isNone) w := fun w a n c n' c' => Lib.run_eql_slice_nil w _ _ a n c n' c' Tryz.underlying67
  go_enter Tryz.func169, Tryz.ntmps169
  go_wp2_with (at_builtin; refine wpList_append_rd _ rfl (.tmp 5) (.tmp 6) _ rfl w.heap.size 3 i0 _ 1 8 Tryz.underlying67 HI0.out HZ0.out HZ1.out HZ2.out rfl (by decide) _ 0 [] rfl (World.ownsRow_made w #[] 0 (Nat.le_refl _) (by simp [maxLen]) (by simp)) _ (some ⟨hh, 0, none⟩) p.length c _ rfl (H.out.alloc (Nat.le_refl _) _) (by intro u hu; unfold natsV at hu; obtain ⟨_, _, rfl⟩ := List.mem_map.1 hu; rfl) (by unfold maxLen; omega) (by omega) (by simp) ?_; intro v1 w1 hown1 hg1)
  rw [Nat.zero_add, List.nil_append] at hown1
  obtain ⟨A', c', rfl, hc'⟩ := own_form hown1
  go_ret
  exact ⟨⟨_, rfl, hown1⟩, (((Below.refl _ _).alloc (Nat.le_refl _) _).grown hg1 (by simp) (fun g hg => by cases hg; exact Nat.le_refl _))⟩
theorem PathV.own {w : World} {base n : Nat} {v : Value} {p : List Nat} (h : w.ownsRow base 3 1 v n (natsV p)) (hp : 1 ≤ p.length) : PathV w v p ∧ ∀ g, v.ownBlock = some g → base ≤ g := by
  have h1 := h.1
  obtain rfl : n = p.length := by simpa [natsV] using h1.symm
  rcases h.2 with ⟨_, h2⟩ | ⟨g, cap, cur, rfl, hg, hh, hcap, _, _, htk⟩
  · omega
  · refine ⟨⟨g, cap, cur, rfl, hcap, hh, fun i hi => ?_⟩, fun g' hg' => by cases hg'; exact hg⟩
    have e : (natsV p)[i]? = some (.int .i64 (p.getD i 0 : Nat)) := by
      unfold natsV
      rw [List.getElem?_map, List.getD_eq_getElem?_getD, List.getElem?_eq_getElem hi]; rfl
    rw [← htk, List.getElem?_take, if_pos (by omega), Array.getElem?_toList] at e
    exact e
theorem natsV_snoc (p : List Nat) (k : Nat) : natsV p ++ [.int .i64 (k : Int)] = natsV (p ++ [k]) := by simp [natsV]
#print axioms clone_path
end Go.Proofs.YtghjlbbalngdhaaGreatDoor
