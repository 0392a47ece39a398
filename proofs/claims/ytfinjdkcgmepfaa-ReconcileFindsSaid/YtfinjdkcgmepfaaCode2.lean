/- The contract of the program's columns, and lists of lists of numbers. Conditions: as each statement says. -/
import Derived.Test.YtfinjdkcgmepfaaRecNewA
import Derived.Test.YtfinjdkcgmepfaaSample
namespace Go.Proofs.Ytfinjdkcgmepfaa
open Go.RowKit
set_option linter.unusedVariables false
theorem make_ll (w : World) (c : Nat) (hc : c ≤ 1000000) : (Instr.makeSlice 34 (.int .i64 c) (.int .i64 c)).run Try.prog w = .ok (.slice (some ⟨w.heap.size, 0, none⟩) c c) (w.alloc (.cells (Array.replicate c (.slice none 0 0)) 38)) := by
  obtain ⟨i, hi, hz, hs, hb⟩ := info_parts info_ints
  have h := run_make (P := Try.prog) w _ _ i _ Try.underlying34 hi hz .i64 .i64 c c (by omega) (by omega) (by rw [hb]; omega) (by omega)
  rw [hs] at h
  simpa [madeCells_one, Value.cells] using h
/-- A list of lists of numbers, to be read: its blocks lie from L on. -/
structure LL (w : World) (L B : Nat) (A : Option Addr) (n : Nat) (rows : List (List Int)) : Prop where
  len : rows.length = n
  row : ∀ i (h : i < rows.length), ∃ b off Ai ci, A = some ⟨b, off, none⟩ ∧ (L ≤ b ∧ b < B) ∧ w.cell? ⟨b, off + i, none⟩ = some (.slice Ai (rows[i]).length ci) ∧ (rows[i]).length ≤ ci ∧ Rd w B 1 Ai (rows[i]).length ((rows[i]).map (Value.int .i64)) ∧ ∀ p, Ai = some p → L ≤ p.block
theorem LL.keep {w w' : World} {L B n : Nat} {A : Option Addr} {rows : List (List Int)} (h : LL w L B A n rows) (hk : ∀ b o, L ≤ b → b < B → w'.cell? ⟨b, o, none⟩ = w.cell? ⟨b, o, none⟩) : LL w' L B A n rows :=
  ⟨h.len, fun i hi => by
    obtain ⟨b, off, Ai, ci, hA, hB, hc, hl, hr, hlo⟩ := h.row i hi
    refine ⟨b, off, Ai, ci, hA, hB, (hk b _ hB.1 hB.2).trans hc, hl, ⟨hr.1, fun hn => ?_⟩, hlo⟩
    obtain ⟨b2, o2, e, hb2, hc2⟩ := hr.2 hn
    exact ⟨b2, o2, e, hb2, fun j u hu => (hk b2 _ (hlo _ e) hb2).trans (hc2 j u hu)⟩⟩
theorem LL.below {w w' : World} {L B n : Nat} {A : Option Addr} {rows : List (List Int)} (h : LL w L B A n rows) (hb : Below B w w') : LL w' L B A n rows :=
  h.keep fun b o _ hB => hb.cell (p := ⟨b, o, none⟩) hB
theorem LL.mono {w : World} {L B B' n : Nat} {A : Option Addr} {rows : List (List Int)} (h : LL w L B A n rows) (hB : B ≤ B') : LL w L B' A n rows :=
  ⟨h.len, fun i hi => by
    obtain ⟨b, off, Ai, ci, hA, hb, hc, hl, hr, hlo⟩ := h.row i hi
    exact ⟨b, off, Ai, ci, hA, ⟨hb.1, Nat.lt_of_lt_of_le hb.2 hB⟩, hc, hl, hr.mono hB, hlo⟩⟩
theorem LL.low {w : World} {L L' B n : Nat} {A : Option Addr} {rows : List (List Int)} (h : LL w L B A n rows) (hL : L' ≤ L) : LL w L' B A n rows :=
  ⟨h.len, fun i hi => by
    obtain ⟨b, off, Ai, ci, hA, hb, hc, hl, hr, hlo⟩ := h.row i hi
    exact ⟨b, off, Ai, ci, hA, ⟨Nat.le_trans hL hb.1, hb.2⟩, hc, hl, hr, fun p hp => Nat.le_trans hL (hlo p hp)⟩⟩
theorem LL.past {w w' : World} {L n : Nat} {A : Option Addr} {rows : List (List Int)} (h : LL w L w.heap.size A n rows) (hb : Below w.heap.size w w') : LL w' L w'.heap.size A n rows := (h.below hb).mono hb.size
theorem LL.q {w w' : World} {L B n : Nat} {A : Option Addr} {rows : List (List Int)} (h : LL w L B A n rows) (hq : Qw w w') : LL w' L B A n rows := h.keep fun _ _ _ _ => hq.cell _
/-- What columns returns. -/
def ColP (C D s N : Nat) (w : World) (e : Ending) (w' : World) : Prop := ∃ A c rows, e = .returned (.slice A N c) ∧ N ≤ c ∧ rows = colsL C D s N ∧ LL w' w.heap.size w'.heap.size A N rows ∧ Below w.heap.size w w'
/-- What holds at each round of columns. -/
structure ColI (w0 w : World) (g b N C D s i : Nat) (vs : List (Option Addr × Nat)) (rows : List (List Int)) : Prop where
  bl : Below w0.heap.size w0 w
  cd : CodeAt w w0.heap.size N C D s
  dr : ∃ S, S = stP C s i ∧ DrawAt w b S
  blk : w.heap[g]? = some (.cells (vs.map (fun a : Option Addr × Nat => Value.slice a.1 D a.2) ++ List.replicate (N - i) (Value.slice none 0 0)).toArray 38 (0, 0))
  len : vs.length = i ∧ rows.length = i
  row : ∀ (j : Nat) A c r, vs[j]? = some (A, c) → rows[j]? = some r → r.length = D ∧ D ≤ c ∧ w.ownsRow (g + 1) 3 1 (.slice A D c) D (r.map (Value.int .i64))
theorem ColI.LL {w0 w : World} {g b N C D s i : Nat} {vs : List (Option Addr × Nat)} {rows : List (List Int)} (h : ColI w0 w g b N C D s i vs rows) (hg : w0.heap.size ≤ g) : LL w w0.heap.size w.heap.size (some ⟨g, 0, none⟩) i rows :=
  ⟨h.len.2, fun j hj => by
    have hv : j < vs.length := by rw [h.len.1, ← h.len.2]; exact hj
    obtain ⟨h1, h2, h3⟩ := h.row j (vs[j]).1 (vs[j]).2 rows[j] (List.getElem?_eq_getElem hv) (List.getElem?_eq_getElem hj)
    refine ⟨g, 0, (vs[j]).1, (vs[j]).2, rfl, ⟨hg, (Array.getElem?_eq_some_iff.1 h.blk).1⟩, ?_, by rw [h1]; exact h2, by rw [h1]; exact Rd.own h3, fun p hp => by
      have := (h3.lt p.block (by rw [hp]; rfl)).1
      omega⟩
    rw [cell_of_row _ _ _ _ _ _ h.blk, Nat.zero_add, h1]
    simp [List.getElem?_append_left, hv]⟩
theorem ColI.step {w0 w w1 : World} {g b N C D s i c S : Nat} {A : Option Addr} {vs : List (Option Addr × Nat)} {rows : List (List Int)} {r : List Int} (h : ColI w0 w g b N C D s i vs rows) (hi : i < N) (h0 : w0.heap.size < b) (hb : b < g) (hS : S = stP C s (i + 1))
    (hu : Upd w.heap.size b S w w1) (hrl : r.length = D) (hc : D ≤ c) (ho : w1.ownsRow w.heap.size 3 1 (.slice A D c) D (r.map (Value.int .i64))) :
    ColI w0 (w1.setCell ⟨g, i, none⟩ (.slice A D c)) g b N C D s (i + 1) (vs ++ [(A, c)]) (rows ++ [r]) := by
  have hg := (Array.getElem?_eq_some_iff.1 h.blk).1
  obtain ⟨S0, _, hd⟩ := h.dr
  have hbw := hd.lt
  have hbl : Below w0.heap.size w0 w1 := h.bl.trans (hu.to (Nat.le_of_lt h0) h.bl.size)
  refine ⟨hbl.setCell (p := ⟨g, i, none⟩) (by simp only; omega) _, ⟨?_⟩, ⟨S, hS, ?_⟩, ?_, ⟨by simp [h.len.1], by simp [h.len.2]⟩, ?_⟩
  · exact (Below.heap_setCell _ _ _ _ (by simp only; omega)).trans ((hu.heap h.cd.lt (by omega)).trans h.cd.blk)
  · exact (hu.at hd hbw).setOther (p := ⟨g, i, none⟩) (by simp only; omega) _
  · have e1 : w1.heap[g]? = some (.cells (vs.map (fun a : Option Addr × Nat => Value.slice a.1 D a.2) ++ List.replicate (N - (i + 1) + 1) (Value.slice none 0 0)).toArray 38 (0, 0)) := by
      rw [show N - (i + 1) + 1 = N - i by omega]; exact (hu.heap hg (by omega)).trans h.blk
    have := row_fill (h := g) (j := i) (u := .slice A D c) e1 (by rw [List.length_map]; exact h.len.1)
    rw [this]; simp
  · intro j A' c' r' h1 h2
    by_cases hj : j < i
    · rw [List.getElem?_append_left (by rw [h.len.1]; exact hj)] at h1
      rw [List.getElem?_append_left (by rw [h.len.2]; exact hj)] at h2
      obtain ⟨g1, g2, g3⟩ := h.row j A' c' r' h1 h2
      refine ⟨g1, g2, ownsRow_setCell_other (ownsRow_upd g3 hu (by omega)) ?_ _⟩
      intro e
      have := (g3.lt g e).1
      omega
    · have hj2 := (List.getElem?_eq_some_iff.1 h2).1
      have hje : j = i := by simp [h.len.2] at hj2; omega
      subst hje
      rw [List.getElem?_append_right (by rw [h.len.1]; exact Nat.le_refl _), h.len.1, Nat.sub_self] at h1
      rw [List.getElem?_append_right (by rw [h.len.2]; exact Nat.le_refl _), h.len.2, Nat.sub_self] at h2
      simp only [List.getElem?_cons_zero, Option.some.injEq, Prod.mk.injEq] at h1 h2
      obtain ⟨rfl, rfl⟩ := h1
      subst h2
      refine ⟨hrl, hc, ownsRow_setCell_other (ownsRow_base ho (by omega)) ?_ _⟩
      intro e
      have := (ho.lt g e).1
      omega
theorem New_ex (s : Nat) (w : World) :
    Calls Try.prog 38 #[.int .u64 s] w fun e w' => e = .returned (.pointer (some ⟨w.heap.size, 0, none⟩)) ∧ DrawAt w' w.heap.size s ∧ w'.heap.size = w.heap.size + 1 ∧ Below w.heap.size w w' :=
  (New_any s w).mono fun e w' ⟨he, hw⟩ => by subst hw; exact ⟨he, DrawAt.new w s, by simp, (Below.refl _ _).alloc (Nat.le_refl _) _⟩
theorem Sample_ex (b s n k : Nat) (w : World) (hd : DrawAt w b s) (hn : n ≤ 65536) (hk : k ≤ n) :
    Calls Try.prog 39 #[.pointer (some ⟨b, 0, none⟩), .int .i64 n, .int .i64 k] w fun e w' => ∃ A c X T, e = .returned (.tuple #[.slice A k c, .int .i64 0]) ∧ X = sampL s n k ∧ T = permS s n ∧ k ≤ c ∧ w'.ownsRow w.heap.size 3 1 (.slice A k c) k (X.map (Value.int .i64)) ∧ Upd w.heap.size b T w w' :=
  (Sample_any b s n k w hd hn hk).mono fun e w' ⟨A, c, he, ho, hu⟩ => by
    obtain ⟨A', c', e1, e2⟩ := own_form ho
    injection e1 with _ _ e1
    subst e1
    exact ⟨A, c, _, _, he, rfl, rfl, e2, ho, hu⟩
set_option maxRecDepth 100000 in
set_option maxHeartbeats 2000000 in
theorem columns_any (N C D s : Nat) (w : World) (h : codeE N C D = 0) (hs : s < two64) :
    Calls Try.prog 25 #[codV N C D s] w (ColP C D s N w) := by
  obtain ⟨h1, h2, h3, h4, h5, h6, h7⟩ := codeE_ok.1 h
  have hmk := fun w => make_ll w N (by omega)
  have HS := Lib.hid hs
  clear hs h
  go_enter Try.func25, Try.ntmps25
  go_wp2_with fail
  refine (New_ex s _).mono ?_
  rintro e w1 ⟨rfl, hd1, hz1, hb1⟩
  have hcd := (CodeAt.new w N C D s).below hb1 (Nat.le_refl _)
  have hbl : Below w.heap.size w w1 := ((Below.refl _ _).alloc (Nat.le_refl _) _).trans (hb1.mono (by simp))
  have c0 := hcd.c0
  have h0 : w.heap.size < (w.alloc (.cells (codC N C D s) 25)).heap.size := by simp
  obtain ⟨b, hb⟩ : ∃ b, b = (w.alloc (.cells (codC N C D s) 25)).heap.size := ⟨_, rfl⟩
  rw [← hb] at hd1 hz1 h0 ⊢
  obtain ⟨g, hg⟩ : ∃ g, g = w1.heap.size := ⟨_, rfl⟩
  have hI : ColI w (w1.alloc (.cells (Array.replicate N (.slice none 0 0)) 38)) g b N C D s 0 [] [] := by
    refine ⟨hbl.alloc hbl.size _, hcd.past ((Below.refl _ _).alloc (Nat.le_refl _) _) hcd.lt, ⟨s, rfl, hd1.below ((Below.refl w1.heap.size _).alloc (Nat.le_refl _) _) hd1.lt⟩, ?_, ⟨rfl, rfl⟩, fun j A c r h => by simp at h⟩
    rw [hg, heap_alloc_new]; simp
  have HI := Lib.hid hI
  have HB0 := Lib.hid h0
  have hbg : b < g := by omega
  have HBG := Lib.hid hbg
  clear hI hd1 hz1 hb1 hcd hbl h0 hb hbg
  go_wp2_with fail
  clear hmk c0
  rw [← hg]
  clear hg
  go_loopw [14] (fun i wr => ∃ (k : Nat) (vs : List (Option Addr × Nat)) (rows : List (List Int)), k ≤ N ∧ i = .int .i64 k ∧ rows = colsL C D s k ∧ ColI w wr g b N C D s k vs rows) (fun i _ => N - (intOf i).toNat)
  case atStart => exact ⟨0, [], [], Nat.zero_le _, rfl, rfl, HI.out⟩
  case round =>
    obtain ⟨k, vs, rows, hk, rfl, hrows, hI⟩ := hrel
    obtain ⟨wa, rfl⟩ : ∃ z : World, z = wr := ⟨_, rfl⟩
    have HR := Lib.hid hrows
    clear hrows HI
    by_cases hlt : k < N
    · have hki : (k : Int) < (N : Int) := by omega
      have c1 := hI.cd.c1; have c2 := hI.cd.c2
      have hgw := (Array.getElem?_eq_some_iff.1 hI.blk).1
      obtain ⟨S, hS, hd⟩ := hI.dr
      have HI := Lib.hid hI; have HD := Lib.hid hd; have HSS := Lib.hid hS
      have hgb := HBG.out
      clear hI hd hS
      go_wp2_with fail
      refine (Sample_ex b S C D _ HD.out (by omega) (by omega)).mono ?_
      rintro e w2 ⟨A, c, X, T, rfl, hX, hT, hcc, hown, hu⟩
      have HST : Hid (ColI w (w2.setCell ⟨g, k, none⟩ (.slice A D c)) g b N C D s (k + 1) (vs ++ [(A, c)]) (rows ++ [X])) := Lib.hid (HI.out.step hlt HB0.out hgb (by rw [hT, HSS.out]; rfl) hu (by rw [hX]; exact sampL_len _ _ _ (by omega)) hcc hown)
      have HRS : Hid (rows ++ [X] = colsL C D s (k + 1)) := Lib.hid (by rw [colsL_snoc, ← HR.out, hX, HSS.out])
      have e0 : w2.cell? ⟨g, k, none⟩ = some (.slice none 0 0) := by
        rw [hu.cell (p := ⟨g, k, none⟩) hgw (by simp only; omega), cell_of_row _ _ _ _ _ _ HI.out.blk]
        have := HI.out.len.1
        rw [List.getElem?_toArray, List.getElem?_append_right (by rw [List.length_map, this]; exact Nat.le_refl _), List.length_map, this, Nat.sub_self, List.getElem?_replicate, if_pos (by omega)]
      have f0 : w2.frozen? ⟨g, k, none⟩ = false := by
        rw [hu.frozen (p := ⟨g, k, none⟩) hgw]
        exact frozen_of_row _ _ _ _ _ HI.out.blk
      clear hX hT hcc hown hu c1 c2
      go_wp2_with fail
      go_roundw
      case rel => exact ⟨k + 1, _, _, hlt, by go_num, HRS.out, HST.out⟩
      case measure => simp [intOf]; omega
    · have hki : ¬ (k : Int) < (N : Int) := by omega
      obtain rfl : k = N := by omega
      have HI := Lib.hid hI
      clear hI
      go_wp2_with fail
      go_ret
      exact ⟨_, _, rows, rfl, Nat.le_refl _, HR.out, HI.out.LL (by have := HB0.out; have := HBG.out; omega), HI.out.bl⟩
end Go.Proofs.Ytfinjdkcgmepfaa
/- The contracts of the program's syndrome and Syndrome. Conditions: as each statement says. -/
namespace Go.Proofs.Ytfinjdkcgmepfaa
open Go.RowKit
set_option linter.unusedVariables false
theorem synL_take {C : Nat} {b : List Bool} {rows : List (List Int)} {k : Nat} (h : k < rows.length) : synL C b (rows.take (k + 1)) = if b.getD k false = true then synCol (synL C b (rows.take k)) rows[k] else synL C b (rows.take k) := by
  rw [take_snoc _ _ h, synL_snoc, List.length_take, Nat.min_eq_left (by omega)]
theorem bnextQ {w0 w w1 w' : World} (h : Below w0.heap.size w0 w) (hq : Qw w w1) (hb : Below w1.heap.size w1 w') : Below w0.heap.size w0 w' := bnext (h.trans (hq.below _)) hb
theorem getD_at (l : List Bool) (k : Nat) (h : k < l.length) : l.getD k false = l[k] := by simp [List.getD_eq_getElem?_getD, h]
theorem bool_cell {w : World} {B n : Nat} {A : Option Addr} {bs : List Bool} (h : Rd w B 1 A n (bs.map Value.bool)) {k : Nat} (hk : k < n) : ∃ b off, A = some ⟨b, off, none⟩ ∧ b < B ∧ w.cell? ⟨b, off + k, none⟩ = some (.bool (bs.getD k false)) := by
  obtain ⟨b, off, hA, hb, hc⟩ := h.2 (by omega)
  have hl : k < bs.length := by have := h.1; simp at this; omega
  exact ⟨b, off, hA, hb, hc k _ (by rw [List.getElem?_map, List.getElem?_eq_getElem hl, getD_at _ _ hl]; rfl)⟩
theorem int_cell {w : World} {B n : Nat} {A : Option Addr} {l : List Int} (h : Rd w B 1 A n (l.map (Value.int .i64))) {k : Nat} (hk : k < l.length) : ∃ b off, A = some ⟨b, off, none⟩ ∧ b < B ∧ w.cell? ⟨b, off + k, none⟩ = some (.int .i64 l[k]) := by
  obtain ⟨b, off, hA, hb, hc⟩ := h.2 (by have := h.1; simp at this; omega)
  exact ⟨b, off, hA, hb, hc k _ (by rw [List.getElem?_map, List.getElem?_eq_getElem hk]; rfl)⟩
set_option maxRecDepth 100000 in
set_option maxHeartbeats 4000000 in
theorem syndrome_any (N C D s : Nat) (A A' : Option Addr) (ca cb m L B : Nat) (rows : List (List Int)) (bs : List Bool) (w : World) (hN : N ≤ 512) (hC : C ≤ 256) (hr : ∀ l ∈ rows, l.length ≤ 256 ∧ ∀ x ∈ l, 0 ≤ x ∧ x < C) (hm : N ≤ m) (hB : B ≤ w.heap.size)
    (h : LL w L B A N rows) (h' : Rd w B 1 A' m (bs.map Value.bool)) :
    Calls Try.prog 24 #[codV N C D s, .slice A N ca, .slice A' m cb] w (RetOwn w 4 1 C ((synL C bs rows).map Value.bool) id) := by
  have hmk := fun w => make_bool w C (by omega)
  have H := Lib.hid h; have H' := Lib.hid h'; have HR := Lib.hid hr; have HM := Lib.hid hm; have HBW := Lib.hid hB
  clear h h' hr hm hB
  go_enter Try.func24, Try.ntmps24
  go_wp2_with fail
  clear hmk
  have hb0 : Below w.heap.size w ((w.alloc (.cells (codC N C D s) 25)).alloc (.cells (Array.replicate C (.bool false)) 4)) := ((Below.refl _ _).alloc (Nat.le_refl _) _).alloc (by simp) _
  have hown := own_new (w.alloc (.cells (codC N C D s) 25)) (Array.replicate C (.bool false)) 4 C (by simp) (by omega)
  have HB0 := Lib.hid hb0
  have HO0 : Hid (((w.alloc (.cells (codC N C D s) 25)).alloc (.cells (Array.replicate C (.bool false)) 4)).ownsRow w.heap.size 4 1 (.slice (some ⟨w.heap.size + 1, 0, none⟩) C C) C ((synL C bs []).map Value.bool)) := Lib.hid (by
    have := ownsRow_base hown (show w.heap.size ≤ (w.alloc (.cells (codC N C D s) 25)).heap.size by simp)
    simpa [synL] using this)
  clear hb0 hown
  obtain ⟨w1, hw1⟩ : ∃ z, z = (w.alloc (.cells (codC N C D s) 25)).alloc (.cells (Array.replicate C (.bool false)) 4) := ⟨_, rfl⟩
  rw [← hw1] at HB0 HO0 ⊢
  clear hw1
  go_loopw [17] (fun i wr => ∃ k : Nat, k ≤ N ∧ i = .int .i64 k ∧ wr.ownsRow w.heap.size 4 1 (.slice (some ⟨w.heap.size + 1, 0, none⟩) C C) C ((synL C bs (rows.take k)).map Value.bool) ∧ Below w.heap.size w wr) (fun i _ => N - (intOf i).toNat)
  case atStart => exact ⟨0, Nat.zero_le _, rfl, HO0.out, HB0.out⟩
  case round =>
    obtain ⟨k, hk, rfl, hown, hbl⟩ := hrel
    obtain ⟨wa, rfl⟩ : ∃ z : World, z = wr := ⟨_, rfl⟩
    have HO := Lib.hid hown; have HBL := Lib.hid hbl
    clear hown hbl HO0 HB0
    by_cases hlt : k < N
    · have hki : (k : Int) < (N : Int) := by omega
      have hkr : k < rows.length := by rw [H.out.len]; exact hlt
      have hbB := HBL.out.mono HBW.out
      obtain ⟨bo, off, Ai, ci, rfl, ⟨_, hbo⟩, hcell, hle, hrd, _⟩ := H.out.row k hkr
      have hrow := HR.out _ (List.getElem_mem hkr)
      have HST := Lib.hid (synL_take (C := C) (b := bs) hkr)
      obtain ⟨l, hl⟩ : ∃ l, l = rows[k] := ⟨_, rfl⟩
      rw [← hl] at hcell hle hrd hrow HST
      have hcell := (hbB.cell (p := ⟨bo, off + k, none⟩) hbo).trans hcell
      obtain ⟨b2, o2, rfl, hb2, hbit⟩ := bool_cell (H'.out.below hbB) (k := k) (by have := HM.out; omega)
      have hkm : (k : Int) < (m : Int) := by have := HM.out; omega
      have HRD := Lib.hid hrd; have HRW := Lib.hid hrow
      clear hl hrd hrow hbB hbo hb2 hkr
      by_cases hbt : bs.getD k false = true
      · rw [hbt] at hbit
        have HS2 : Hid (synL C bs (rows.take (k + 1)) = synCol (synL C bs (rows.take k)) l) := Lib.hid (by rw [HST.out, if_pos hbt])
        clear HST hbt
        obtain ⟨o, ho⟩ : ∃ o, o = synL C bs (rows.take k) := ⟨_, rfl⟩
        rw [← ho] at HO HS2
        have HOL : Hid (o.length = C) := Lib.hid (by rw [ho, synL_len])
        clear ho
        go_wp2_with fail
        clear hcell hbit
        go_loopw [28] (fun i wr => ∃ j : Nat, j ≤ l.length ∧ i = .int .i64 j ∧ wr.ownsRow w.heap.size 4 1 (.slice (some ⟨w.heap.size + 1, 0, none⟩) C C) C ((synCol o (l.take j)).map Value.bool) ∧ Below w.heap.size w wr) (fun i _ => l.length - (intOf i).toNat)
        case atStart => exact ⟨0, Nat.zero_le _, rfl, HO.out, HBL.out⟩
        case round =>
          obtain ⟨j, hj, rfl, hown, hbl⟩ := hrel
          obtain ⟨wb, rfl⟩ : ∃ z : World, z = wr := ⟨_, rfl⟩
          have HO2 := Lib.hid hown; have HB2 := Lib.hid hbl
          have hl256 := HRW.out.1
          clear hown hbl
          by_cases hlj : j < l.length
          · have hji : (j : Int) < (l.length : Int) := by omega
            obtain ⟨b3, o3, rfl, hb3, hx⟩ := int_cell (HRD.out.below (HB2.out.mono HBW.out)) hlj
            have hxr := HRW.out.2 _ (List.getElem_mem hlj)
            have HS3 : Hid (synCol o (l.take (j + 1)) = flipK (synCol o (l.take j)) l[j]) := Lib.hid (by rw [take_snoc _ _ hlj, synCol_snoc])
            generalize l[j] = x at hx hxr HS3
            obtain ⟨q, rfl⟩ := Int.eq_ofNat_of_zero_le hxr.1
            have hq : q < C := by omega
            have hqi : (q : Int) < (C : Int) := hxr.2
            obtain ⟨cur, hcur⟩ : ∃ z, z = synCol o (l.take j) := ⟨_, rfl⟩
            have hcl : cur.length = C := by rw [hcur, synCol_len, HOL.out]
            rw [← hcur] at HO2 HS3
            have hqc : q < cur.length := by omega
            have e0 : wb.cell? ⟨w.heap.size + 1, q, none⟩ = some (.bool (cur.getD q false)) := by
              rw [HO2.out.cellAt q (by omega), List.getElem?_map, List.getElem?_eq_getElem hqc, getD_at _ _ hqc]; rfl
            have f0 := HO2.out.frozenAt q
            have hst := (HO2.out.stored q (.bool (!cur.getD q false))).1
            rw [← List.map_set] at hst
            have e3 : flipK cur (q : Int) = cur.set q (!cur.getD q false) := rfl
            rw [← e3, ← HS3.out] at hst
            have hbs := HB2.out.setCell (p := ⟨w.heap.size + 1, q, none⟩) (by simp) (.bool (!cur.getD q false))
            have HST2 := Lib.hid hst; have HBS := Lib.hid hbs
            generalize cur.getD q false = y at e0 HST2 HBS
            clear hst hbs e3 hxr hb3 hcur hcl hqc HS3
            go_wp2_with fail
            go_roundw
            case rel => exact ⟨j + 1, hlj, by go_num, HST2.out, HBS.out⟩
            case measure => simp [intOf]; omega
          · have hji : ¬ (j : Int) < (l.length : Int) := by omega
            have HE : Hid (wb.ownsRow w.heap.size 4 1 (.slice (some ⟨w.heap.size + 1, 0, none⟩) C C) C ((synL C bs (rows.take (k + 1))).map Value.bool)) := Lib.hid (by
              have := HO2.out
              rw [List.take_of_length_le (by omega)] at this
              rw [HS2.out]; exact this)
            go_wp2_with fail
            go_roundw
            case rel => exact ⟨k + 1, hlt, by go_num, HE.out, HB2.out⟩
            case measure => simp [intOf]; omega
      · have hbf : bs.getD k false = false := by simpa using hbt
        rw [hbf] at hbit
        have HS2 : Hid (synL C bs (rows.take (k + 1)) = synL C bs (rows.take k)) := Lib.hid (by rw [HST.out, if_neg hbt])
        clear HST hbt hbf
        go_wp2_with fail
        go_roundw
        case rel => exact ⟨k + 1, hlt, by go_num, by rw [HS2.out]; exact HO.out, HBL.out⟩
        case measure => simp [intOf]; omega
    · have hki : ¬ (k : Int) < (N : Int) := by omega
      obtain rfl : k = N := by omega
      go_wp2_with fail
      go_ret
      have ho := HO.out
      rw [List.take_of_length_le (by rw [H.out.len]; exact Nat.le_refl _)] at ho
      exact RetOwn.of (mk := id) ho HBL.out
set_option maxRecDepth 100000 in
set_option maxHeartbeats 4000000 in
/-- Syndrome, of a valid code and a string that fits. -/
theorem Syndrome_ok (N C D s : Nat) (A : Option Addr) (c : Nat) (bs : List Bool) (w : World) (h0 : codeE N C D = 0) (hs : s < two64) (h : Rd w w.heap.size 1 A N (bs.map Value.bool)) :
    Calls Try.prog 10 #[codV N C D s, .slice A N c] w (RetOwn w 4 1 C ((synL C bs (colsL C D s N)).map Value.bool) (fun v => .tuple #[v, .int .i64 0])) := by
  obtain ⟨h1, h2, h3, h4, h5, h6, h7⟩ := codeE_ok.1 h0
  have hm := colsL_mem (C := C) (D := D) (s := s) (n := N) (by omega)
  have HM := Lib.hid hm
  have H := Lib.hid h; have H0 := Lib.hid h0; have HS := Lib.hid hs
  clear h h0 hs hm
  go_enter Try.func10, Try.ntmps10
  go_wp2_with fail
  refine (CheckCode_ex _ _ _ _ _).mono ?_
  rintro e w1 ⟨⟨E, hE, rfl⟩, hb⟩
  obtain rfl : E = 0 := by rw [hE]; exact H0.out
  have hcc := (CodeAt.new w N C D s).below hb (Nat.le_refl _)
  have HB : Hid (Below w.heap.size w w1) := Lib.hid (((Below.refl _ _).alloc (Nat.le_refl _) _).trans (hb.mono (by simp)))
  have HCC := Lib.hid hcc
  have c0 := hcc.c0; have c1 := hcc.c1; have c2 := hcc.c2; have c3 := hcc.c3
  clear hb hcc hE
  go_wp2_with fail
  go_region_held3 (fun w' => w'.cell? ⟨w.heap.size, 0, none⟩ = some (.int .i64 N) ∧ w'.cell? ⟨w.heap.size, 1, none⟩ = some (.int .i64 C) ∧ w'.cell? ⟨w.heap.size, 2, none⟩ = some (.int .i64 D) ∧ w'.cell? ⟨w.heap.size, 3, none⟩ = some (.int .u64 s)) (first | exact ⟨c0, c1, c2, c3⟩ | exact ⟨d0, d1, d2, d3⟩ | exact ⟨f0, f1, f2, f3⟩)
    ((first
      | (go_at_call 25
         refine (columns_any N C D s _ H0.out HS.out).mono ?_
         rintro e w2 ⟨A2, c2', rows, rfl, hc2, hrows, hll, hb2⟩
         have hcd := (HCC.out.q (w' := w1.drew) ⟨1, rfl⟩).past hb2 HCC.out.lt
         have d0 := hcd.c0; have d1 := hcd.c1; have d2 := hcd.c2; have d3 := hcd.c3
         have HLL := Lib.hid hll; have HB2 := Lib.hid hb2; have HRW := Lib.hid hrows
         clear hll hb2 hrows hcd)
      | (go_at_call 24
         refine (syndrome_any N C D s A2 A c2' c N _ _ rows bs _ (by omega) (by omega) (fun l hl => by rw [HRW.out] at hl; have := HM.out l hl; exact ⟨by omega, this.2⟩) (Nat.le_refl _) (Nat.le_refl _) HLL.out (((H.out.past HB.out).q (w' := w1.drew) ⟨1, rfl⟩).past HB2.out)).mono ?_
         rintro e w3 ⟨A3, c3', rfl, hc3, hown, hb3⟩
         have hb23 := HB2.out.trans (hb3.mono HB2.out.size)
         have hcd := (HCC.out.q (w' := w1.drew) ⟨1, rfl⟩).past hb23 HCC.out.lt
         have f0 := hcd.c0; have f1 := hcd.c1; have f2 := hcd.c2; have f3 := hcd.c3
         have HB3 := Lib.hid (bnextQ HB.out (w1 := w1.drew) ⟨1, rfl⟩ hb23); have HO3 := Lib.hid hown
         clear hown hb3 hb23 hcd)))
  go_wp2_with fail
  go_ret2
  refine ⟨A3, c3', rfl, hc3, ?_, HB3.out⟩
  have := ownsRow_base HO3.out (show w.heap.size ≤ w2.heap.size by have h1 := HB.out.size; have h2 := HB2.out.size; simp at h2; omega)
  rw [HRW.out] at this
  exact this
#print axioms Syndrome_ok
end Go.Proofs.Ytfinjdkcgmepfaa
/- Lists of lists that are appended to, and the contract of the program's Matrix. Conditions: as each statement says. -/
namespace Go.Proofs.Ytfinjdkcgmepfaa
open Go.RowKit
set_option linter.unusedVariables false
/-- A list of own lists of numbers: the block of the list, and each list's row. -/
structure MatAt (w : World) (B g C : Nat) (vs : List Value) (rows : List (List Int)) : Prop where
  blk : w.heap[g]? = some (.cells vs.toArray 38 (0, 0))
  len : vs.length = C ∧ rows.length = C
  row : ∀ (i : Nat) (v : Value) (r : List Int), vs[i]? = some v → rows[i]? = some r → w.ownsRow B 3 1 v r.length (r.map (Value.int .i64))
  apart : ∀ (i j : Nat) (v v' : Value), i ≠ j → vs[i]? = some v → vs[j]? = some v' → Apart v v'
theorem MatAt.gl {w : World} {B g C : Nat} {vs : List Value} {rows : List (List Int)} (h : MatAt w B g C vs rows) : g < w.heap.size := (Array.getElem?_eq_some_iff.1 h.blk).1
theorem MatAt.cell {w : World} {B g C k : Nat} {vs : List Value} {rows : List (List Int)} (h : MatAt w B g C vs rows) (hk : k < C) : ∃ v, vs[k]? = some v ∧ w.cell? ⟨g, k, none⟩ = some v ∧ w.ownsRow B 3 1 v (rows.getD k []).length ((rows.getD k []).map (Value.int .i64)) ∧ rows[k]? = some (rows.getD k []) := by
  have h1 : k < vs.length := by rw [h.len.1]; exact hk
  have h2 : k < rows.length := by rw [h.len.2]; exact hk
  have e : rows[k]? = some (rows.getD k []) := by rw [List.getElem?_eq_getElem h2]; simp [List.getD_eq_getElem?_getD, h2]
  refine ⟨vs[k], List.getElem?_eq_getElem h1, ?_, h.row k _ _ (List.getElem?_eq_getElem h1) e, e⟩
  rw [cell_of_row _ _ _ _ _ _ h.blk]; simp [h1]
theorem MatAt.other {w : World} {B g C k : Nat} {vs : List Value} {rows : List (List Int)} (h : MatAt w B g C vs rows) {v : Value} (hv : vs[k]? = some v) : v.ownBlock ≠ some g := by
  intro e
  have hk : k < rows.length := by rw [h.len.2, ← h.len.1]; exact (List.getElem?_eq_some_iff.1 hv).1
  rcases (h.row k v _ hv (List.getElem?_eq_getElem hk)).2 with ⟨rfl, _⟩ | ⟨g', cap, cur, rfl, _, hg, _⟩
  · cases e
  · simp only [Value.ownBlock, Option.some.injEq] at e
    subst e
    have := hg.symm.trans h.blk
    injection this with this
    injection this with _ e _
    exact absurd e (by decide)
/-- One element more in one of the lists. -/
theorem MatAt.push {w w1 : World} {B g C k n H : Nat} {vs : List Value} {rows : List (List Int)} {v v' : Value} {r : List Int} {x : Int} (h : MatAt w B g C vs rows) (hv : vs[k]? = some v) (hr : rows[k]? = some r) (hn : n = r.length + 1)
    (hown : w1.ownsRow B 3 1 v' n (r.map (Value.int .i64) ++ [.int .i64 x])) (hg : w.grownBy w1 v.ownBlock) (hl : Lies v v' H) (hH : w.heap.size ≤ H) : MatAt (w1.setCell ⟨g, k, none⟩ v') B g C (vs.set k v') (rows.set k (r ++ [x])) := by
  have hb1 : w1.heap[g]? = some (.cells vs.toArray 38 (0, 0)) := (hg.block g h.gl (fun e => h.other hv e.symm)).trans h.blk
  have hv' : v'.ownBlock ≠ some g := by
    rcases hl with e | e
    · rw [e]; exact h.other hv
    · rw [e]; intro e2; injection e2 with e2; have := h.gl; omega
  have ap : ∀ j u, j ≠ k → vs[j]? = some u → Apart v' u := fun j u hj hu => by
    have hjr : j < rows.length := by rw [h.len.2, ← h.len.1]; exact (List.getElem?_eq_some_iff.1 hu).1
    exact (h.apart k j v u (fun e => hj e.symm) hv hu).lies hl (h.row j u _ hu (List.getElem?_eq_getElem hjr)) hH
  refine ⟨?_, ⟨by rw [List.length_set]; exact h.len.1, by rw [List.length_set]; exact h.len.2⟩, ?_, ?_⟩
  · have := blk_setR (o := k) hb1 v'
    rw [this]; simp
  · intro i u q hu hq
    rw [List.getElem?_set] at hu hq
    by_cases e : k = i
    · subst e
      rw [if_pos rfl] at hu hq
      split at hu
      · split at hq
        · simp only [Option.some.injEq] at hu hq
          subst hu; subst hq
          refine ownsRow_setCell_other ?_ hv' _
          rw [List.length_append, List.map_append]; subst hn; exact hown
        · cases hq
      · cases hu
    · rw [if_neg e] at hu hq
      refine ownsRow_setCell_other (ownsRow_grown (h.row i u q hu hq) hg ?_) (h.other hu) _
      intro b hb e2
      exact h.apart i k u v (fun e3 => e e3.symm) hu hv b hb e2.symm
  · intro i j u u' hij hu hu'
    rw [List.getElem?_set] at hu hu'
    by_cases e : k = i
    · subst e
      rw [if_pos rfl] at hu
      rw [if_neg hij] at hu'
      split at hu
      · simp only [Option.some.injEq] at hu
        subst hu
        exact ap j u' (fun e => hij e.symm) hu'
      · cases hu
    · rw [if_neg e] at hu
      by_cases e' : k = j
      · subst e'
        rw [if_pos rfl] at hu'
        split at hu'
        · simp only [Option.some.injEq] at hu'
          subst hu'
          exact (ap i u (fun e2 => e e2.symm) hu).symm
        · cases hu'
      · rw [if_neg e'] at hu'
        exact h.apart i j u u' hij hu hu'
theorem MatAt.new (w : World) (C : Nat) : MatAt (w.alloc (.cells (Array.replicate C (.slice none 0 0)) 38)) (w.heap.size + 1) w.heap.size C (List.replicate C (.slice none 0 0)) (List.replicate C []) := by
  refine ⟨by rw [heap_alloc_new]; simp, by simp, ?_, ?_⟩
  · intro i v r hv hr
    rw [List.getElem?_replicate] at hv hr
    split at hv
    · rw [if_pos (by assumption)] at hr
      injection hv with hv; injection hr with hr
      subst hv; subst hr
      exact World.ownsRow_nil _ _ _ _
    · cases hv
  · intro i j v v' _ hv _
    rw [List.getElem?_replicate] at hv
    split at hv
    · injection hv with hv; subst hv; exact Apart.none _
    · cases hv
theorem MatAt.LL {w : World} {B g C : Nat} {vs : List Value} {rows : List (List Int)} (h : MatAt w B g C vs rows) (hB : g ≤ B) : LL w g w.heap.size (some ⟨g, 0, none⟩) C rows :=
  ⟨h.len.2, fun i hi => by
    obtain ⟨v, hv, hc, ho, hr⟩ := h.cell (k := i) (by rw [← h.len.2]; exact hi)
    have e : rows.getD i [] = rows[i] := by simp [List.getD_eq_getElem?_getD, hi]
    rw [e] at ho
    obtain ⟨Ai, ci, rfl, hcc⟩ := own_form ho
    refine ⟨g, 0, Ai, ci, rfl, ⟨Nat.le_refl _, h.gl⟩, by rw [Nat.zero_add]; exact hc, hcc, Rd.own ho, fun p hp => ?_⟩
    have := (ho.lt p.block (by rw [hp]; rfl)).1
    omega⟩
/-- What Matrix returns. -/
def MatP (N C D s : Nat) (w : World) (e : Ending) (w' : World) : Prop := ∃ A c rows, e = .returned (.tuple #[.slice A C c, .int .i64 0]) ∧ C ≤ c ∧ rows = matL C (colsL C D s N) ∧ LL w' w.heap.size w'.heap.size A C rows ∧ Below w.heap.size w w'
theorem matL_take {C : Nat} {cols : List (List Int)} {k : Nat} (h : k < cols.length) : matL C (cols.take (k + 1)) = addCol k (matL C (cols.take k)) cols[k] := by
  rw [take_snoc _ _ h, matL_snoc, List.length_take, Nat.min_eq_left (by omega)]
/-- What holds at each round of the program's Matrix. -/
structure PmI (w0 w2 w : World) (g C : Nat) (vs : List Value) (rows : List (List Int)) : Prop where
  bl : Below w0.heap.size w0 w
  sz : w2.heap.size ≤ w.heap.size
  kp : ∀ b o, g < b → b < w2.heap.size → w.cell? ⟨b, o, none⟩ = w2.cell? ⟨b, o, none⟩
  mt : MatAt w w2.heap.size g C vs rows
theorem PmI.step {w0 w2 w w1 : World} {g C k n H : Nat} {vs : List Value} {rows : List (List Int)} {v v' : Value} {r : List Int} {x : Int} (h : PmI w0 w2 w g C vs rows) (h0 : w0.heap.size ≤ g) (hv : vs[k]? = some v) (hr : rows[k]? = some r) (hn : n = r.length + 1)
    (hown : w1.ownsRow w2.heap.size 3 1 v' n (r.map (Value.int .i64) ++ [.int .i64 x])) (hb : Below w2.heap.size w w1) (hg : w.grownBy w1 v.ownBlock) (hl : Lies v v' H) (hH : w.heap.size ≤ H) (hgb : g < w2.heap.size) :
    PmI w0 w2 (w1.setCell ⟨g, k, none⟩ v') g C (vs.set k v') (rows.set k (r ++ [x])) :=
  ⟨(h.bl.trans (hb.mono (by omega))).setCell (p := ⟨g, k, none⟩) h0 _, by rw [size_setCell]; exact Nat.le_trans h.sz hb.size, fun b o h1 h2 => by
    rw [World.cell?_setCell_other _ _ _ _ (fun e => by injection e with e _; omega)]
    exact (hb.cell (p := ⟨b, o, none⟩) h2).trans (h.kp b o h1 h2), h.mt.push hv hr hn hown hg hl hH⟩
end Go.Proofs.Ytfinjdkcgmepfaa
/- The contract of the program's Matrix. Conditions: as each statement says. -/
namespace Go.Proofs.Ytfinjdkcgmepfaa
open Go.RowKit
set_option linter.unusedVariables false
theorem MatAt.start {w : World} {B g C : Nat} (h : w.heap[g]? = some (.cells (List.replicate C (Value.slice none 0 0)).toArray 38 (0, 0))) : MatAt w B g C (List.replicate C (.slice none 0 0)) (List.replicate C []) := by
  refine ⟨h, by simp, ?_, ?_⟩
  · intro i v r hv hr
    rw [List.getElem?_replicate] at hv hr
    split at hv
    · rw [if_pos (by assumption)] at hr
      injection hv with hv; injection hr with hr
      subst hv; subst hr
      exact World.ownsRow_nil _ _ _ _
    · cases hv
  · intro i j v v' _ hv _
    rw [List.getElem?_replicate] at hv
    split at hv
    · injection hv with hv; subst hv; exact Apart.none _
    · cases hv
set_option maxRecDepth 100000 in
set_option maxHeartbeats 4000000 in
theorem Matrix_ok (N C D s : Nat) (w : World) (h0 : codeE N C D = 0) (hs : s < two64) :
    Calls Try.prog 14 #[codV N C D s] w (MatP N C D s w) := by
  obtain ⟨h1, h2, h3, h4, h5, h6, h7⟩ := codeE_ok.1 h0
  have hmk := fun w => make_ll w C (by omega)
  have HM := Lib.hid (colsL_mem (C := C) (D := D) (s := s) (n := N) (by omega))
  have H0 := Lib.hid h0; have HS := Lib.hid hs
  clear h0 hs
  go_enter Try.func14, Try.ntmps14
  go_wp2_with fail
  refine (CheckCode_ex _ _ _ _ _).mono ?_
  rintro e w1 ⟨⟨E, hE, rfl⟩, hb⟩
  obtain rfl : E = 0 := by rw [hE]; exact H0.out
  have hcc := (CodeAt.new w N C D s).below hb (Nat.le_refl _)
  have HB : Hid (Below w.heap.size w w1) := Lib.hid (((Below.refl _ _).alloc (Nat.le_refl _) _).trans (hb.mono (by simp)))
  have HCC := Lib.hid (hcc.past ((Below.refl _ _).alloc (Nat.le_refl _) (.cells (Array.replicate C (.slice none 0 0)) 38)) hcc.lt)
  have c0 := hcc.c0; have c1 := hcc.c1; have c2 := hcc.c2; have c3 := hcc.c3
  have d0 := HCC.out.c0; have d1 := HCC.out.c1; have d2 := HCC.out.c2; have d3 := HCC.out.c3
  clear hb hcc hE
  go_wp2_with fail
  refine (columns_any N C D s _ H0.out HS.out).mono ?_
  rintro e w2 ⟨A2, k2, cols, rfl, hk2, hcols, hll, hb2⟩
  obtain ⟨g, hg⟩ : ∃ g, g = w1.heap.size := ⟨_, rfl⟩
  have HLL : Hid (LL w2 (g + 1) w2.heap.size A2 N cols) := Lib.hid (by rw [hg]; simpa using hll)
  have hgw : w.heap.size ≤ g := by rw [hg]; exact HB.out.size
  have hg2 : g < w2.heap.size := by have := hb2.size; simp at this; omega
  have hI : PmI w w2 w2 g C (List.replicate C (.slice none 0 0)) (List.replicate C []) := by
    refine ⟨bnext (HB.out.alloc HB.out.size _) hb2, Nat.le_refl _, fun _ _ _ _ => rfl, MatAt.start ?_⟩
    rw [hg, hb2.block _ (by simp), heap_alloc_new]; simp
  have HI := Lib.hid hI; have HGW := Lib.hid hgw
  have HC : Hid (∀ l ∈ cols, l.length ≤ 4 ∧ ∀ x ∈ l, 0 ≤ x ∧ x < C) := Lib.hid (fun l hl => by rw [hcols] at hl; have := HM.out l hl; exact ⟨by omega, this.2⟩)
  have HCE := Lib.hid hcols
  have HCL : Hid (cols.length = N) := Lib.hid HLL.out.len
  clear hcols hll hb2 hI hgw c0 c1 c2 c3 d0 d1 d2 d3 hmk
  rw [← hg]
  clear hg
  go_wp2_with fail
  go_loopw [21] (fun i wr => ∃ (k : Nat) (vs : List Value) (rows : List (List Int)), k ≤ N ∧ i = .int .i64 k ∧ rows = matL C (cols.take k) ∧ PmI w w2 wr g C vs rows) (fun i _ => N - (intOf i).toNat)
  case atStart => exact ⟨0, _, _, Nat.zero_le _, rfl, rfl, HI.out⟩
  case round =>
    obtain ⟨k, vs, rows, hk, rfl, hrows, hI⟩ := hrel
    obtain ⟨wa, rfl⟩ : ∃ z : World, z = wr := ⟨_, rfl⟩
    have HI1 := Lib.hid hI; have HR := Lib.hid hrows
    clear hI hrows HI
    by_cases hlt : k < N
    · have hki : (k : Int) < (N : Int) := by omega
      have hkc : k < cols.length := by rw [HCL.out]; exact hlt
      have hlla := HLL.out.keep (w' := wa) (fun b o h1 h2 => HI1.out.kp b o (by omega) h2)
      obtain ⟨b1, o1, Ai, ci, rfl, hb1, hcell, hle, hrd, hlo⟩ := hlla.row k hkc
      have hrow := HC.out _ (List.getElem_mem hkc)
      have HST : Hid (matL C (cols.take (k + 1)) = addCol k (matL C (cols.take k)) cols[k]) := Lib.hid (matL_take hkc)
      rw [← HR.out] at HST
      obtain ⟨l, hl⟩ : ∃ l, l = cols[k] := ⟨_, rfl⟩
      rw [← hl] at hcell hle hrd hrow HST
      have HRD := Lib.hid hrd; have HRW := Lib.hid hrow; have HLO := Lib.hid hlo
      have hl4 := HRW.out.1
      have HRL : Hid (rows.length = C) := Lib.hid HI1.out.mt.len.2
      clear hl hrd hrow hlo hb1 hkc
      go_wp2_with fail
      clear hcell
      go_loopw [28] (fun i wr => ∃ (j : Nat) (vs2 : List Value) (rows2 : List (List Int)), j ≤ l.length ∧ i = .int .i64 j ∧ rows2 = addCol k rows (l.take j) ∧ PmI w w2 wr g C vs2 rows2) (fun i _ => l.length - (intOf i).toNat)
      case atStart => exact ⟨0, vs, rows, Nat.zero_le _, rfl, rfl, HI1.out⟩
      case round =>
        obtain ⟨j, vs2, rows2, hj, rfl, hrows2, hI⟩ := hrel
        obtain ⟨wb, rfl⟩ : ∃ z : World, z = wr := ⟨_, rfl⟩
        have HI2 := Lib.hid hI; have HR2 := Lib.hid hrows2
        clear hI hrows2
        by_cases hlj : j < l.length
        · have hji : (j : Int) < (l.length : Int) := by omega
          obtain ⟨b3, o3, hA, hb3, hx⟩ := int_cell HRD.out hlj
          have hlo := HLO.out _ hA
          subst hA
          have hx : wb.cell? ⟨b3, o3 + j, none⟩ = some (.int .i64 l[j]) := (HI2.out.kp b3 _ (by simp only at hlo; omega) hb3).trans ((HI1.out.kp b3 _ (by simp only at hlo; omega) hb3).symm.trans hx)
          have hxr := HRW.out.2 _ (List.getElem_mem hlj)
          have HS3 : Hid (addCol k rows (l.take (j + 1)) = addM k rows2 l[j]) := Lib.hid (by rw [take_snoc _ _ hlj, addCol_snoc, HR2.out])
          generalize l[j] = x at hx hxr HS3
          obtain ⟨q, rfl⟩ := Int.eq_ofNat_of_zero_le hxr.1
          have hq : q < C := by omega
          have hqi : (q : Int) < (C : Int) := hxr.2
          obtain ⟨v, hv, hcv, hov, hrv⟩ := HI2.out.mt.cell hq
          have HRS : Hid ((rows2.getD q []).length ≤ 1000000) := Lib.hid (by
            have h1 := matL_short C 4 (cols.take k) (fun l hl => (HC.out l (List.mem_of_mem_take hl)).1)
            rw [← HR.out] at h1
            have h2 := addCol_short (i := k) (l.take j) h1
            rw [← HR2.out] at h2
            have h3 : (cols.take k).length ≤ 512 := by rw [List.length_take]; omega
            have h4 : (l.take j).length ≤ 4 := by rw [List.length_take]; omega
            rw [List.getD_eq_getElem?_getD, hrv]
            have h5 := h2 _ (List.mem_of_getElem? hrv)
            simp only [Option.getD_some]
            omega)
          have hrl := HRS.out
          obtain ⟨Av, cv, rfl, hcv2⟩ := own_form hov
          have HOV := Lib.hid hov; have HV := Lib.hid hv; have HRV := Lib.hid hrv
          clear hov hv hrv hxr hlo hb3
          go_wp2_with (at_builtin; refine wpList_pushL elB_i5 (.tmp 37) (.tmp 39) rfl rfl w2.heap.size _ _ rfl HOV.out rfl rfl (one_cell1 rfl) (by omega) (by decide) HI2.out.sz ?_; intro v8 w8 hown8 hb8 hg8 hL8; obtain ⟨A8, d8, rfl, hd8⟩ := own_form hown8; have hk8 := (hg8.block g HI2.out.mt.gl (fun e => HI2.out.mt.other HV.out e.symm)).trans HI2.out.mt.blk; have f8 : w8.frozen? ⟨g, q, none⟩ = false := frozen_of_row _ _ _ _ _ hk8; have c8 := (cell_of_row _ _ _ _ _ _ hk8 : w8.cell? ⟨g, q, none⟩ = _); rw [List.getElem?_toArray, HV.out] at c8; have HS8 := Lib.hid (HI2.out.step HGW.out HV.out HRV.out rfl hown8 hb8 hg8 hL8 (Nat.le_succ _) hg2); clear hown8 hb8 hg8 hL8 hk8)
          go_roundw
          case rel => exact ⟨j + 1, _, _, hlj, by go_num, by rw [HS3.out]; rfl, HS8.out⟩
          case measure => simp [intOf]; omega
        · have hji : ¬ (j : Int) < (l.length : Int) := by omega
          have HE : Hid (rows2 = matL C (cols.take (k + 1))) := Lib.hid (by rw [HST.out, HR2.out, List.take_of_length_le (by omega)])
          go_wp2_with fail
          go_roundw
          case rel => exact ⟨k + 1, _, _, hlt, by go_num, HE.out, HI2.out⟩
          case measure => simp [intOf]; omega
    · have hki : ¬ (k : Int) < (N : Int) := by omega
      obtain rfl : k = N := by omega
      go_wp2_with fail
      go_ret2
      have hr := HR.out
      rw [List.take_of_length_le (by rw [HCL.out]; exact Nat.le_refl _), HCE.out] at hr
      exact ⟨_, _, rows, rfl, Nat.le_refl _, hr, (HI1.out.mt.LL (by omega)).low HGW.out, HI1.out.bl⟩
#print axioms Matrix_ok
end Go.Proofs.Ytfinjdkcgmepfaa
