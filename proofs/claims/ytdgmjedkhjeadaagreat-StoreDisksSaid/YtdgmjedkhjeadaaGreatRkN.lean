/- The definition's disk: DiskOf at sectors of zeroes, NewDisk. Conditions: as each statement says. -/
import Derived.Test.YtdgmjedkhjeadaaGreatFre8
import Derived.Lib.UnsafeStr
namespace Go.Proofs.YtdgmjedkhjeadaaGreat
open List (setIfInBounds_toArray set_cons_zero set_cons_succ)
open Go.RowKit
set_option linter.unusedVariables false
set_option linter.unusedSimpArgs false
theorem elB_rs : ElemB Tryz.prog 97 31 1 24 := ElemB.of (z := .slice none 0 0) Tryz.underlying97 (by kernel_rfl) rfl (by decide)
theorem elB_ro : ElemB Tryz.prog 48 4 1 1 := ElemB.of (z := .bool false) Tryz.underlying48 (by kernel_rfl) rfl (by decide)
theorem KeepL.grownV {w w' : World} {v : Value} (h : w.grownBy w' v.ownBlock) : KeepL (ob v) w w' := KeepL.grown h fun k e _ => mem_ob.2 e
/-- What DiskOf has made: a disk of so many sectors. -/
structure DoI (w wr : World) (R i0 i1 i2 : Nat) (V0 V1 V2 : Value) (vs0 vs1 : List Value) : Prop where
  rw' : R = w.heap.size
  blk : Bk wr R #[V0, V1, V2, .int .i64 (-1), .slice none 0 0, .bool false, .int .i64 0, .int .i64 0, .int .i64 0] 110
  o0 : wr.ownsRow (R + 1) 31 1 V0 i0 vs0
  o1 : wr.ownsRow (R + 1) 31 1 V1 i1 vs1
  o2 : wr.ownsRow (R + 1) 4 1 V2 i2 (List.replicate i2 (.bool false))
  b0 : ∀ v ∈ vs0, BrV wr zeroSec v
  b1 : ∀ v ∈ vs1, BrV wr zeroSec v
  ap : Apart V0 V1
  bl : Below w.heap.size w wr
section
variable {w wa w1 w2 : World} {R i0 i1 i2 : Nat} {V0 V1 V2 V' v : Value} {vs0 vs1 : List Value}
theorem DoI.far (h : DoI w wa R i0 i1 i2 V0 V1 V2 vs0 vs1) (hb : Below wa.heap.size wa w1) : DoI w w1 R i0 i1 i2 V0 V1 V2 vs0 vs1 :=
  ⟨h.rw', h.blk.past hb h.blk.lt, ownsRow_below h.o0 hb (Nat.le_refl _), ownsRow_below h.o1 hb (Nat.le_refl _), ownsRow_below h.o2 hb (Nat.le_refl _), fun v hv => (h.b0 v hv).far hb, fun v hv => (h.b1 v hv).far hb, h.ap, bnextK h.bl hb⟩
theorem ob_ge {t : TypeId} {n B sz : Nat} {xs : List Value} (h : wa.ownsRow B t sz V' n xs) : ∀ k ∈ ob V', B ≤ k := fun k hk => (h.lt k (mem_ob.1 hk)).1
theorem brv_ob {t : TypeId} {n B sz : Nat} {xs : List Value} (h : wa.ownsRow B t sz V' n xs) (ht : 5 ≠ t) : ∀ g C, Bk wa g C 5 → g ∉ ob V' := fun g C hg hm => by
  obtain ⟨cs, hc⟩ := own_bk h g hm
  exact hg.ne hc ht rfl
theorem set_R (h : Bk wa R #[V0, V1, V2, .int .i64 (-1), .slice none 0 0, .bool false, .int .i64 0, .int .i64 0, .int .i64 0] 110) (v : Value) :
    (Bk (wa.setCell ⟨R, 0, none⟩ v) R #[v, V1, V2, .int .i64 (-1), .slice none 0 0, .bool false, .int .i64 0, .int .i64 0, .int .i64 0] 110) ∧ (Bk (wa.setCell ⟨R, 1, none⟩ v) R #[V0, v, V2, .int .i64 (-1), .slice none 0 0, .bool false, .int .i64 0, .int .i64 0, .int .i64 0] 110) ∧ (Bk (wa.setCell ⟨R, 2, none⟩ v) R #[V0, V1, v, .int .i64 (-1), .slice none 0 0, .bool false, .int .i64 0, .int .i64 0, .int .i64 0] 110) := ⟨h.set 0 v, h.set 1 v, h.set 2 v⟩
theorem brv_R (h : Bk wa R #[V0, V1, V2, .int .i64 (-1), .slice none 0 0, .bool false, .int .i64 0, .int .i64 0, .int .i64 0] 110) : ∀ g C, Bk wa g C 5 → g ∉ [R] := fun g C hg hm => by
  rw [List.mem_singleton] at hm
  exact hg.ne h (by decide) hm
theorem DoI.s0 (h : DoI w w1 R i0 i1 i2 V0 V1 V2 vs0 vs1) (hv : BrV w1 zeroSec v) (ho : w2.ownsRow (R + 1) 31 1 V' (i0 + 1) (vs0 ++ [v])) (hg : w1.grownBy w2 V0.ownBlock) (hl : Lies V0 V' (w1.heap.size + 1)) :
    DoI w (w2.setCell ⟨R, 0, none⟩ V') R (i0 + 1) i1 i2 V' V1 V2 (vs0 ++ [v]) vs1 := by
  have hk := KeepL.grownV hg
  have hR : R ∉ ob V0 := fun hm => by have := ob_ge h.o0 R hm; omega
  have hbk := h.blk.keepL hk hR
  have hks : KeepL [R] w2 (w2.setCell ⟨R, 0, none⟩ V') := KeepL.set _ _ _ _
  have hbr : ∀ g C, Bk w1 g C 5 → g ∉ ob V0 := brv_ob h.o0 (by decide)
  have hbr2 := brv_R hbk
  have o1' := ownsRow_grown h.o1 hg (fun k e q => h.ap k q.symm e)
  have o2' := ownsRow_grown h.o2 hg (fun k e q => by
    obtain ⟨cs, hc⟩ := own_bk h.o0 k (mem_ob.2 q.symm)
    obtain ⟨cs', hc'⟩ := own_bk h.o2 k (mem_ob.2 e)
    exact hc.ne hc' (by decide) rfl)
  refine ⟨h.rw', (set_R hbk V').1, ownsRow_keepL ho hks (by simp), ownsRow_keepL o1' hks (by simp), ownsRow_keepL o2' hks (by simp), fun u hu => ?_, fun u hu => ((h.b1 u hu).keepL hk hbr).keepL hks hbr2, h.ap.lies hl h.o1 (by omega), ?_⟩
  · rcases List.mem_append.1 hu with hu | hu
    · exact ((h.b0 u hu).keepL hk hbr).keepL hks hbr2
    · rw [List.mem_singleton] at hu; subst hu
      exact (hv.keepL hk hbr).keepL hks hbr2
  · have q1 : Below w.heap.size w1 w2 := hk.below h.bl.size (fun k q => by have := ob_ge h.o0 k q; have := h.rw'; omega)
    exact (h.bl.trans q1).trans (hks.below (Nat.le_trans h.bl.size hk.size) (fun k q => by rw [List.mem_singleton] at q; have := h.rw'; omega))
theorem DoI.s1 (h : DoI w w1 R i0 i1 i2 V0 V1 V2 vs0 vs1) (hv : BrV w1 zeroSec v) (ho : w2.ownsRow (R + 1) 31 1 V' (i1 + 1) (vs1 ++ [v])) (hg : w1.grownBy w2 V1.ownBlock) (hl : Lies V1 V' (w1.heap.size + 1)) :
    DoI w (w2.setCell ⟨R, 1, none⟩ V') R i0 (i1 + 1) i2 V0 V' V2 vs0 (vs1 ++ [v]) := by
  have hk := KeepL.grownV hg
  have hR : R ∉ ob V1 := fun hm => by have := ob_ge h.o1 R hm; omega
  have hbk := h.blk.keepL hk hR
  have hks : KeepL [R] w2 (w2.setCell ⟨R, 1, none⟩ V') := KeepL.set _ _ _ _
  have hbr : ∀ g C, Bk w1 g C 5 → g ∉ ob V1 := brv_ob h.o1 (by decide)
  have hbr2 := brv_R hbk
  have o0' := ownsRow_grown h.o0 hg (fun k e q => h.ap k e q.symm)
  have o2' := ownsRow_grown h.o2 hg (fun k e q => by
    obtain ⟨cs, hc⟩ := own_bk h.o1 k (mem_ob.2 q.symm)
    obtain ⟨cs', hc'⟩ := own_bk h.o2 k (mem_ob.2 e)
    exact hc.ne hc' (by decide) rfl)
  refine ⟨h.rw', (set_R hbk V').2.1, ownsRow_keepL o0' hks (by simp), ownsRow_keepL ho hks (by simp), ownsRow_keepL o2' hks (by simp), fun u hu => ((h.b0 u hu).keepL hk hbr).keepL hks hbr2, fun u hu => ?_, (h.ap.symm.lies hl h.o0 (by omega)).symm, ?_⟩
  · rcases List.mem_append.1 hu with hu | hu
    · exact ((h.b1 u hu).keepL hk hbr).keepL hks hbr2
    · rw [List.mem_singleton] at hu; subst hu
      exact (hv.keepL hk hbr).keepL hks hbr2
  · have q1 : Below w.heap.size w1 w2 := hk.below h.bl.size (fun k q => by have := ob_ge h.o1 k q; have := h.rw'; omega)
    exact (h.bl.trans q1).trans (hks.below (Nat.le_trans h.bl.size hk.size) (fun k q => by rw [List.mem_singleton] at q; have := h.rw'; omega))
theorem DoI.s2 (h : DoI w w1 R i0 i1 i2 V0 V1 V2 vs0 vs1) (ho : w2.ownsRow (R + 1) 4 1 V' (i2 + 1) (List.replicate i2 (.bool false) ++ [.bool false])) (hg : w1.grownBy w2 V2.ownBlock) :
    DoI w (w2.setCell ⟨R, 2, none⟩ V') R i0 i1 (i2 + 1) V0 V1 V' vs0 vs1 := by
  have hk := KeepL.grownV hg
  have hR : R ∉ ob V2 := fun hm => by have := ob_ge h.o2 R hm; omega
  have hbk := h.blk.keepL hk hR
  have hks : KeepL [R] w2 (w2.setCell ⟨R, 2, none⟩ V') := KeepL.set _ _ _ _
  have hbr : ∀ g C, Bk w1 g C 5 → g ∉ ob V2 := brv_ob h.o2 (by decide)
  have hbr2 := brv_R hbk
  have hne : ∀ {u : Value} {n : Nat} {xs : List Value}, w1.ownsRow (R + 1) 31 1 u n xs → ∀ k, u.ownBlock = some k → some k ≠ V2.ownBlock := fun hu k e q => by
    obtain ⟨cs, hc⟩ := own_bk hu k (mem_ob.2 e)
    obtain ⟨cs', hc'⟩ := own_bk h.o2 k (mem_ob.2 q.symm)
    exact hc.ne hc' (by decide) rfl
  refine ⟨h.rw', (set_R hbk V').2.2, ownsRow_keepL (ownsRow_grown h.o0 hg (hne h.o0)) hks (by simp), ownsRow_keepL (ownsRow_grown h.o1 hg (hne h.o1)) hks (by simp), by rw [List.replicate_succ']; exact ownsRow_keepL ho hks (by simp), fun u hu => ((h.b0 u hu).keepL hk hbr).keepL hks hbr2, fun u hu => ((h.b1 u hu).keepL hk hbr).keepL hks hbr2, h.ap, ?_⟩
  have q1 : Below w.heap.size w1 w2 := hk.below h.bl.size (fun k q => by have := ob_ge h.o2 k q; have := h.rw'; omega)
  exact (h.bl.trans q1).trans (hks.below (Nat.le_trans h.bl.size hk.size) (fun k q => by rw [List.mem_singleton] at q; have := h.rw'; omega))
theorem own_srv {n : Nat} (hn : 0 < n) (h : w1.ownsRow (R + 1) 31 1 V' n vs0) (hb : ∀ v ∈ vs0, BrV w1 zeroSec v) : ∃ g c, V' = .slice (some ⟨g, 0, none⟩) n c ∧ R + 1 ≤ g ∧ SrV w1 g (List.replicate n zeroSec) := by
  have hl := h.1
  rcases h.2 with ⟨_, h2⟩ | ⟨g, cap, cur, rfl, hg, hh, hcap, hm, _, htk⟩
  · omega
  · refine ⟨g, cap, rfl, hg, vs0, cur.toList.drop (n * 1), ?_, by simpa using hl, fun i v s e1 e2 => ?_⟩
    · rw [← htk, List.take_append_drop]; exact hh
    · rw [List.getElem?_replicate] at e2
      split at e2 <;> cases e2
      exact hb v (List.mem_of_getElem? e1)
theorem DoI.fin {n : Nat} (h : DoI w w1 R n n n V0 V1 V2 vs0 vs1) (h2 : 2 ≤ n) (h256 : n ≤ 256) : ∃ bn bk bf cn ck cf, RdAt w1 R (Dk.new n) bn bk bf cn ck cf ∧ (∀ k ∈ fpR R bn bk bf, w.heap.size ≤ k) := by
  obtain ⟨bn, cn, rfl, hbn, q0⟩ := own_srv (by omega) h.o0 h.b0
  obtain ⟨bk, ck, rfl, hbk, q1⟩ := own_srv (by omega) h.o1 h.b1
  have hz : ∀ s ∈ List.replicate n zeroSec, SecOK s := fun s hs => by rw [List.eq_of_mem_replicate hs]; exact zeroSec_ok
  have hf : ∃ bf cf sp, V2 = .slice (some ⟨bf, 0, none⟩) n cf ∧ R + 1 ≤ bf ∧ Bk w1 bf ((List.replicate n false).map Value.bool ++ sp : List Value).toArray 4 := by
    rcases h.o2.2 with ⟨_, e⟩ | ⟨g, cap, cur, rfl, hg, hh, hcap, hm, _, htk⟩
    · omega
    · refine ⟨g, cap, cur.toList.drop (n * 1), rfl, hg, ?_⟩
      rw [List.map_replicate, ← htk, List.take_append_drop]; exact hh
  obtain ⟨bf, cf, sp, rfl, hbf, q2⟩ := hf
  have hne : bn ≠ bk := fun e => h.ap bn rfl (by rw [e]; rfl)
  have hgetn : ∀ i, i < (Dk.new n).dur.length → (Dk.new n).cch.getD i none = none := fun i _ => by
    show (List.replicate n none).getD i none = none
    rw [List.getD_eq_getElem?_getD, List.getElem?_replicate]
    split <;> rfl
  refine ⟨bn, bk, bf, cn, ck, cf, ⟨DkOK.new n h2 h256, ⟨List.replicate n zeroSec, List.replicate n zeroSec, List.replicate n false, -1, [], false, 0, 0, 0⟩, .slice none 0 0, ⟨?_, rfl, ?_, rfl, rfl⟩, ⟨⟨by simpa using h2, by simpa using h256, by simp, by simp, hz, hz, ⟨by simp, by simp⟩, by constructor <;> (dsimp only; decide)⟩, by simpa using h.blk, q0, q1, ⟨sp, q2⟩, ⟨none, 0, rfl, fun e => absurd rfl e⟩, hne⟩⟩, fun k hk => ?_⟩
  · rw [range_newest _ hgetn]; rfl
  · show List.replicate n false = (List.replicate n none).map Option.isSome
    simp
  · simp only [fpR, List.mem_cons, List.not_mem_nil, or_false] at hk
    have := h.rw'
    rcases hk with rfl | rfl | rfl | rfl <;> omega
theorem madeZ : (madeCells (Value.int .u8 0).cells (64 * 1)).toList = secC zeroSec := by kernel_rfl
/-- A new disk of so many sectors of zeroes. -/
def RdNew (n : Nat) (w : World) (e : Ending) (w' : World) : Prop := (∃ R bn bk bf cn ck cf, e = .returned (.tuple #[.pointer (some ⟨R, 0, none⟩), .int .i64 0]) ∧ RdAt w' R (Dk.new n) bn bk bf cn ck cf ∧ ∀ k ∈ fpR R bn bk bf, w.heap.size ≤ k) ∧ Below w.heap.size w w'
set_option maxRecDepth 100000 in
set_option maxHeartbeats 2000000 in
theorem diskOf_any {n : Nat} (w : World) (A : Option Addr) (c : Nat) (vs : List Value) (h2 : 2 ≤ n) (h256 : n ≤ 256) (hr : Rd w w.heap.size 1 A n vs) (hv : ∀ v ∈ vs, BrV w zeroSec v) :
    Calls Tryz.prog 42 #[.slice A n c] w (RdNew n w) := by
  have HR := Lib.hid hr; have HV := Lib.hid hv
  have HVL : Hid (vs.length = n) := Lib.hid (by have := hr.1; simpa using this)
  have d1 : decide ((n : Int) < 2) = false := decide_eq_false (by omega)
  have d2 : decide ((256 : Int) < (n : Int)) = false := decide_eq_false (by omega)
  clear hr hv
  go_enter Tryz.func42, Tryz.ntmps42
  go_wp2_with fail
  have h0 : DoI w (w.alloc (.cells #[.slice none 0 0, .slice none 0 0, .slice none 0 0, .int .i64 (-1), .slice none 0 0, .bool false, .int .i64 0, .int .i64 0, .int .i64 0] 110)) w.heap.size 0 0 0 (.slice none 0 0) (.slice none 0 0) (.slice none 0 0) [] [] :=
    ⟨rfl, Bk.new _ _ _, World.ownsRow_nil _ _ _ _, World.ownsRow_nil _ _ _ _, World.ownsRow_nil _ _ _ _, by simp, by simp, Apart.none _, balloc _ _⟩
  have H0 := Lib.hid h0
  clear h0
  go_loopw [5] (fun v5 wr => ∃ (i : Nat) (V0 V1 V2 : Value) (vs0 vs1 : List Value), i ≤ n ∧ v5 = .int .i64 (i : Nat) ∧ DoI w wr w.heap.size i i i V0 V1 V2 vs0 vs1) (fun v5 _ => n - (intOf v5).toNat)
  case atStart => exact ⟨0, _, _, _, _, _, Nat.zero_le _, rfl, H0.out⟩
  case round =>
    obtain ⟨i, V0, V1, V2, vs0, vs1, hi, rfl, hI⟩ := hrel
    obtain ⟨wa, rfl⟩ : ∃ z : World, z = wr := ⟨_, rfl⟩
    have HI := Lib.hid hI
    by_cases hlt : i < n
    · have hii : 0 ≤ (i : Int) ∧ (i : Int) < (n : Int) := by omega
      obtain ⟨b, off, rfl, hbl, hcell⟩ := HR.out.2 (by omega)
      obtain ⟨v, hvi⟩ : ∃ v, vs[i]? = some v := ⟨_, List.getElem?_eq_getElem (by rw [HVL.out]; exact hlt)⟩
      have hvb := HV.out v (List.mem_of_getElem? hvi)
      have hsec : ∀ W, Below w.heap.size w W → W.cell? ⟨b, off + i, none⟩ = some v := fun W hW => by rw [hW.cell (p := ⟨b, off + i, none⟩) hbl]; exact hcell i v hvi
      have HSEC := Lib.hid hsec
      have HVB := Lib.hid hvb
      have HCL : Hid (∀ W, Below w.heap.size w W → Calls Tryz.prog 84 #[v] W fun e w' => (∃ v', e = .returned v' ∧ BrV w' zeroSec v') ∧ Below W.heap.size W w') := Lib.hid fun W hW => rclone_sec zeroSec_ok (HVB.out.far hW)
      obtain ⟨gv, cv, spv, rfl, _, _, _⟩ := hvb
      have ch := HSEC.out wa HI.out.bl
      have c0 := HI.out.blk.cell 0; have c1 := HI.out.blk.cell 1; have c2 := HI.out.blk.cell 2
      clear hI hvi hcell hsec
      go_wp2_with fail
      clear c0 c1 c2
      have HRC : Hid (∀ W, Below wa.heap.size wa W → W.cell? ⟨w.heap.size, 0, none⟩ = some V0 ∧ W.cell? ⟨w.heap.size, 1, none⟩ = some V1) := Lib.hid fun W hW => ⟨(HI.out.far hW).blk.cell 0, (HI.out.far hW).blk.cell 1⟩
      -- <REGION do9
      refine wp_region_held_drew (S := (fun W => W.cell? ⟨b, off + i, none⟩ = some (.slice (some ⟨gv, 0, none⟩) 64 cv))) (by kernel_rfl) ?_ (fun hHeld => ?_)
      · (try dsimp only); (refine (HSEC.out _ ?_); (first | exact HCa.out | exact HBa.out | exact bnextK HBa.out (balloc _ _) | exact HKa.out.bl | exact bnextK HI.out.bl (below_drew8 _ _) | exact HI.out.bl); done)
      refine wpAnyH_take (i := 0) (oi := ⟨some 28, _, _, _, _, _⟩) (v := ?_) rfl (by kernel_rfl) (by kernel_rfl) (by kernel_rfl) (fun _ _ _ h => h) (Or.inl ⟨by rfl, ?_⟩) (by assumption) ?_; rotate_left
      · intro w hSw; (try dsimp only at hSw); go_simp; try with_reducible rfl
      try simp only [Act.put, setIfInBounds_toArray, set_cons_zero, set_cons_succ]
      refine wpAnyH_take (i := 1) (oi := ⟨some 29, _, _, _, _, _⟩) (v := ?_) rfl (by kernel_rfl) (by kernel_rfl) (by kernel_rfl) (fun _ _ _ h => h) (Or.inl ⟨by rfl, ?_⟩) (by assumption) ?_; rotate_left
      · intro w hSw; (try dsimp only at hSw); go_simp; try with_reducible rfl
      try simp only [Act.put, setIfInBounds_toArray, set_cons_zero, set_cons_succ]
      refine wpAnyH_take (i := 2) (oi := ⟨some 30, _, _, _, _, _⟩) (v := ?_) rfl (by kernel_rfl) (by kernel_rfl) (by kernel_rfl) (fun _ _ _ h => h) (Or.inl ⟨by rfl, ?_⟩) (by assumption) ?_; rotate_left
      · intro w hSw; (try dsimp only at hSw); go_simp; try with_reducible rfl
      try simp only [Act.put, setIfInBounds_toArray, set_cons_zero, set_cons_succ]
      refine wpAnyH_take (i := 3) (oi := ⟨some 31, _, _, _, _, _⟩) (v := ?_) rfl (by kernel_rfl) (by kernel_rfl) (by kernel_rfl) (fun _ _ _ h => h) (Or.inl ⟨by rfl, ?_⟩) (by assumption) ?_; rotate_left
      · intro w hSw; (try dsimp only at hSw); go_simp; try with_reducible rfl
      try simp only [Act.put, setIfInBounds_toArray, set_cons_zero, set_cons_succ]
      refine wpAnyH_take (i := 5) (oi := ⟨some 33, _, _, _, _, _⟩) (v := ?_) rfl (by kernel_rfl) (by kernel_rfl) (by kernel_rfl) (fun _ _ _ h => h) (Or.inl ⟨by rfl, ?_⟩) (by assumption) ?_; rotate_left
      · intro w hSw; (try dsimp only at hSw); go_simp; try with_reducible rfl
      try simp only [Act.put, setIfInBounds_toArray, set_cons_zero, set_cons_succ]
      refine wpAnyH_take (i := 6) (oi := ⟨some 34, _, _, _, _, _⟩) (v := ?_) rfl (by kernel_rfl) (by kernel_rfl) (by kernel_rfl) (fun _ _ _ h => h) (Or.inl ⟨by rfl, ?_⟩) (by assumption) ?_; rotate_left
      · intro w hSw; (try dsimp only at hSw); go_simp; try with_reducible rfl
      try simp only [Act.put, setIfInBounds_toArray, set_cons_zero, set_cons_succ]
      refine wpAnyH_take (i := 7) (oi := ⟨some 35, _, _, _, _, _⟩) (v := ?_) rfl (by kernel_rfl) (by kernel_rfl) (by kernel_rfl) (fun _ _ _ h => h) (Or.inl ⟨by rfl, ?_⟩) (by assumption) ?_; rotate_left
      · intro w hSw; (try dsimp only at hSw); go_simp; try with_reducible rfl
      try simp only [Act.put, setIfInBounds_toArray, set_cons_zero, set_cons_succ]
      refine wpAnyH_take (i := 8) (oi := ⟨some 36, _, _, _, _, _⟩) (v := ?_) rfl (by kernel_rfl) (by kernel_rfl) (by kernel_rfl) (fun _ _ _ h => h) (Or.inl ⟨by rfl, ?_⟩) (by assumption) ?_; rotate_left
      · intro w hSw; (try dsimp only at hSw); go_simp; try with_reducible rfl
      try simp only [Act.put, setIfInBounds_toArray, set_cons_zero, set_cons_succ]
      refine wpAnyH_ready (rs := [4, 9]) (by kernel_rfl) (by simp) ?_
      refine AllReadyH.cons (o := ⟨some 32, _, _, _, _, _⟩) rfl (fun K hK => ?_) ?_
      · skip
        have cya := (HRC.out _ (below_drew8 _ _)).1
        go_simp
        refine hK.out _ _ ?_ (fun hHeld => ?_)
        · (try dsimp only); (refine (HSEC.out _ ?_); (first | exact HCa.out | exact HBa.out | exact bnextK HBa.out (balloc _ _) | exact HKa.out.bl | exact bnextK HI.out.bl (below_drew8 _ _) | exact HI.out.bl); done)
        clear hK K
        try simp only [Act.put, setIfInBounds_toArray, set_cons_zero, set_cons_succ]
        refine wpAnyH_ready (rs := [9]) (by kernel_rfl) (by simp) ?_
        refine AllReadyH.cons (o := ⟨some 37, _, _, _, _, _⟩) rfl (fun K hK => ?_) AllReadyH.nil
        go_simp
        refine (HCL.out _ (by (first | exact HCa.out | exact HBa.out | exact bnextK HBa.out (balloc _ _) | exact HKa.out.bl | exact bnextK HI.out.bl (below_drew8 _ _) | exact HI.out.bl))).mono ?_
        rintro e' wa1 ⟨⟨va, rfl, hva⟩, hba⟩
        have HBDa : Hid (Below wa.heap.size wa wa1) := Lib.hid (Below.trans (below_drew8 wa _) (hba.mono (Nat.le_refl _)))
        have HBa := Lib.hid (bnextK HI.out.bl HBDa.out)
        have HVa := Lib.hid hva
        have HJa := Lib.hid (HI.out.far HBDa.out)
        obtain ⟨ga, ka, spa, rfl, _⟩ := hva
        clear hba
        go_wp2_with fail
        refine hK.out _ _ ?_ (fun hHeld => ?_)
        · (try dsimp only); (refine (HSEC.out _ ?_); (first | exact HCa.out | exact HBa.out | exact bnextK HBa.out (balloc _ _) | exact HKa.out.bl | exact bnextK HI.out.bl (below_drew8 _ _) | exact HI.out.bl); done)
        clear hK K
        try simp only [Act.put, setIfInBounds_toArray, set_cons_zero, set_cons_succ]
        refine wpAnyH_ready (rs := [10]) (by kernel_rfl) (by simp) ?_
        refine AllReadyH.cons (o := ⟨some 38, _, _, _, _, _⟩) rfl (fun K hK => ?_) AllReadyH.nil
        go_simp
        refine hK.out _ _ ?_ (fun hHeld => ?_)
        · (try dsimp only); (refine (HSEC.out _ ?_); (first | exact HCa.out | exact HBa.out | exact bnextK HBa.out (balloc _ _) | exact HKa.out.bl | exact bnextK HI.out.bl (below_drew8 _ _) | exact HI.out.bl); done)
        clear hK K
        try simp only [Act.put, setIfInBounds_toArray, set_cons_zero, set_cons_succ]
        refine wpAnyH_ready (rs := [11]) (by kernel_rfl) (by simp) ?_
        refine AllReadyH.cons (o := ⟨some 39, _, _, _, _, _⟩) rfl (fun K hK => ?_) AllReadyH.nil
        refine step_pushL8 elB_rs (.tmp 32) (.tmp 38) rfl rfl (w.heap.size + 1) i _ (by rfl) HJa.out.o0 (by rfl) (by rfl) (one_cell1 rfl) (by omega) (by decide) (by have := HJa.out.blk.lt; omega) ?_
        intro Va wa2 hoa _ hga hla
        have HCa : Hid (Below w.heap.size w wa2) := Lib.hid (HJa.out.bl.trans ((KeepL.grownV hga).below HJa.out.bl.size (fun k q => by have := ob_ge HJa.out.o0 k q; omega)))
        have hJ2 := HJa.out.s0 HVa.out hoa hga hla
        have HKa := Lib.hid hJ2
        have hbk := HJa.out.blk.keepL (KeepL.grownV hga) (fun hm => by have := ob_ge HJa.out.o0 _ hm; omega)
        have cxa := hbk.cell 0
        have fxa := hbk.froz 0
        obtain ⟨AVa, cVa, rfl, _⟩ := own_form hoa
        clear hJ2 hoa hga hla hbk
        refine hK.out _ _ ?_ (fun hHeld => ?_)
        · (try dsimp only); (refine (HSEC.out _ ?_); (first | exact HCa.out | exact HBa.out | exact bnextK HBa.out (balloc _ _) | exact HKa.out.bl | exact bnextK HI.out.bl (below_drew8 _ _) | exact HI.out.bl); done)
        clear hK K
        try simp only [Act.put, setIfInBounds_toArray, set_cons_zero, set_cons_succ]
        refine wpAnyH_take (i := 12) (oi := ⟨some 40, _, _, _, _, _⟩) (v := ?_) rfl (by kernel_rfl) (by kernel_rfl) (by kernel_rfl) (fun _ _ _ h => h) (Or.inl ⟨by rfl, ?_⟩) (by assumption) ?_; rotate_left
        · intro w hSw; (try dsimp only at hSw); go_simp; try with_reducible rfl
        try simp only [Act.put, setIfInBounds_toArray, set_cons_zero, set_cons_succ]
        refine wpAnyH_take (i := 13) (oi := ⟨some 41, _, _, _, _, _⟩) (v := ?_) rfl (by kernel_rfl) (by kernel_rfl) (by kernel_rfl) (fun _ _ _ h => h) (Or.inl ⟨by rfl, ?_⟩) (by assumption) ?_; rotate_left
        · intro w hSw; (try dsimp only at hSw); go_simp; try with_reducible rfl
        try simp only [Act.put, setIfInBounds_toArray, set_cons_zero, set_cons_succ]
        refine wpAnyH_ready (rs := [14]) (by kernel_rfl) (by simp) ?_
        refine AllReadyH.cons (o := ⟨none, _, _, _, _, _⟩) rfl (fun K hK => ?_) AllReadyH.nil
        go_simp
        refine hK.out _ _ ?_ (fun hHeld => ?_)
        · (try dsimp only); (refine (HSEC.out _ ?_); (first | exact HCa.out | exact HBa.out | exact bnextK HBa.out (balloc _ _) | exact HKa.out.bl | exact bnextK HI.out.bl (below_drew8 _ _) | exact HI.out.bl); done)
        clear hK K
        try simp only [Act.put]
        refine wpAnyH_done (by kernel_rfl) ?_ _
        obtain ⟨wb, hwb⟩ : ∃ z : World, z = wa2.setCell ⟨w.heap.size, 0, none⟩ (.slice AVa (i + 1) cVa) := ⟨_, rfl⟩
        rw [← hwb] at HKa ⊢
        have HRB : Hid (∀ W, Below wb.heap.size wb W → W.cell? ⟨w.heap.size, 0, none⟩ = some (.slice AVa (i + 1) cVa) ∧ W.cell? ⟨w.heap.size, 1, none⟩ = some V1) := Lib.hid fun W hW => ⟨(HKa.out.far hW).blk.cell 0, (HKa.out.far hW).blk.cell 1⟩
        clear hwb
        go_wp2_with fail
        refine wp_region_held_drew (S := (fun W => W.cell? ⟨b, off + i, none⟩ = some (.slice (some ⟨gv, 0, none⟩) 64 cv))) (by kernel_rfl) ?_ (fun hHeld => ?_)
        · (try dsimp only); (refine (HSEC.out _ ?_); (first | exact HCb.out | exact HBb.out | exact bnextK HBb.out (balloc _ _) | exact HKb.out.bl | exact bnextK HKa.out.bl (below_drew8 _ _) | exact HKa.out.bl); done)
        refine wpAnyH_take (i := 0) (oi := ⟨some 42, _, _, _, _, _⟩) (v := ?_) rfl (by kernel_rfl) (by kernel_rfl) (by kernel_rfl) (fun _ _ _ h => h) (Or.inl ⟨by rfl, ?_⟩) (by assumption) ?_; rotate_left
        · intro w hSw; (try dsimp only at hSw); go_simp; try with_reducible rfl
        try simp only [Act.put, setIfInBounds_toArray, set_cons_zero, set_cons_succ]
        refine wpAnyH_take (i := 1) (oi := ⟨some 43, _, _, _, _, _⟩) (v := ?_) rfl (by kernel_rfl) (by kernel_rfl) (by kernel_rfl) (fun _ _ _ h => h) (Or.inl ⟨by rfl, ?_⟩) (by assumption) ?_; rotate_left
        · intro w hSw; (try dsimp only at hSw); go_simp; try with_reducible rfl
        try simp only [Act.put, setIfInBounds_toArray, set_cons_zero, set_cons_succ]
        refine wpAnyH_take (i := 2) (oi := ⟨some 44, _, _, _, _, _⟩) (v := ?_) rfl (by kernel_rfl) (by kernel_rfl) (by kernel_rfl) (fun _ _ _ h => h) (Or.inl ⟨by rfl, ?_⟩) (by assumption) ?_; rotate_left
        · intro w hSw; (try dsimp only at hSw); go_simp; try with_reducible rfl
        try simp only [Act.put, setIfInBounds_toArray, set_cons_zero, set_cons_succ]
        refine wpAnyH_take (i := 3) (oi := ⟨some 45, _, _, _, _, _⟩) (v := ?_) rfl (by kernel_rfl) (by kernel_rfl) (by kernel_rfl) (fun _ _ _ h => h) (Or.inl ⟨by rfl, ?_⟩) (by assumption) ?_; rotate_left
        · intro w hSw; (try dsimp only at hSw); go_simp; try with_reducible rfl
        try simp only [Act.put, setIfInBounds_toArray, set_cons_zero, set_cons_succ]
        refine wpAnyH_take (i := 5) (oi := ⟨some 47, _, _, _, _, _⟩) (v := ?_) rfl (by kernel_rfl) (by kernel_rfl) (by kernel_rfl) (fun _ _ _ h => h) (Or.inl ⟨by rfl, ?_⟩) (by assumption) ?_; rotate_left
        · intro w hSw; (try dsimp only at hSw); go_simp; try with_reducible rfl
        try simp only [Act.put, setIfInBounds_toArray, set_cons_zero, set_cons_succ]
        refine wpAnyH_take (i := 6) (oi := ⟨some 48, _, _, _, _, _⟩) (v := ?_) rfl (by kernel_rfl) (by kernel_rfl) (by kernel_rfl) (fun _ _ _ h => h) (Or.inl ⟨by rfl, ?_⟩) (by assumption) ?_; rotate_left
        · intro w hSw; (try dsimp only at hSw); go_simp; try with_reducible rfl
        try simp only [Act.put, setIfInBounds_toArray, set_cons_zero, set_cons_succ]
        refine wpAnyH_take (i := 7) (oi := ⟨some 49, _, _, _, _, _⟩) (v := ?_) rfl (by kernel_rfl) (by kernel_rfl) (by kernel_rfl) (fun _ _ _ h => h) (Or.inl ⟨by rfl, ?_⟩) (by assumption) ?_; rotate_left
        · intro w hSw; (try dsimp only at hSw); go_simp; try with_reducible rfl
        try simp only [Act.put, setIfInBounds_toArray, set_cons_zero, set_cons_succ]
        refine wpAnyH_take (i := 8) (oi := ⟨some 50, _, _, _, _, _⟩) (v := ?_) rfl (by kernel_rfl) (by kernel_rfl) (by kernel_rfl) (fun _ _ _ h => h) (Or.inl ⟨by rfl, ?_⟩) (by assumption) ?_; rotate_left
        · intro w hSw; (try dsimp only at hSw); go_simp; try with_reducible rfl
        try simp only [Act.put, setIfInBounds_toArray, set_cons_zero, set_cons_succ]
        refine wpAnyH_ready (rs := [4, 9]) (by kernel_rfl) (by simp) ?_
        refine AllReadyH.cons (o := ⟨some 46, _, _, _, _, _⟩) rfl (fun K hK => ?_) ?_
        · skip
          have cyb := (HRB.out _ (below_drew8 _ _)).2
          go_simp
          refine hK.out _ _ ?_ (fun hHeld => ?_)
          · (try dsimp only); (refine (HSEC.out _ ?_); (first | exact HCb.out | exact HBb.out | exact bnextK HBb.out (balloc _ _) | exact HKb.out.bl | exact bnextK HKa.out.bl (below_drew8 _ _) | exact HKa.out.bl); done)
          clear hK K
          try simp only [Act.put, setIfInBounds_toArray, set_cons_zero, set_cons_succ]
          refine wpAnyH_ready (rs := [9]) (by kernel_rfl) (by simp) ?_
          refine AllReadyH.cons (o := ⟨some 51, _, _, _, _, _⟩) rfl (fun K hK => ?_) AllReadyH.nil
          go_simp
          refine (HCL.out _ (by (first | exact HCb.out | exact HBb.out | exact bnextK HBb.out (balloc _ _) | exact HKb.out.bl | exact bnextK HKa.out.bl (below_drew8 _ _) | exact HKa.out.bl))).mono ?_
          rintro e' wb1 ⟨⟨vb, rfl, hvb⟩, hbb⟩
          have HBDb : Hid (Below wb.heap.size wb wb1) := Lib.hid (Below.trans (below_drew8 wb _) (hbb.mono (Nat.le_refl _)))
          have HBb := Lib.hid (bnextK HKa.out.bl HBDb.out)
          have HVb := Lib.hid hvb
          have HJb := Lib.hid (HKa.out.far HBDb.out)
          obtain ⟨gb, kb, spb, rfl, _⟩ := hvb
          clear hbb
          go_wp2_with fail
          refine hK.out _ _ ?_ (fun hHeld => ?_)
          · (try dsimp only); (refine (HSEC.out _ ?_); (first | exact HCb.out | exact HBb.out | exact bnextK HBb.out (balloc _ _) | exact HKb.out.bl | exact bnextK HKa.out.bl (below_drew8 _ _) | exact HKa.out.bl); done)
          clear hK K
          try simp only [Act.put, setIfInBounds_toArray, set_cons_zero, set_cons_succ]
          refine wpAnyH_ready (rs := [10]) (by kernel_rfl) (by simp) ?_
          refine AllReadyH.cons (o := ⟨some 52, _, _, _, _, _⟩) rfl (fun K hK => ?_) AllReadyH.nil
          go_simp
          refine hK.out _ _ ?_ (fun hHeld => ?_)
          · (try dsimp only); (refine (HSEC.out _ ?_); (first | exact HCb.out | exact HBb.out | exact bnextK HBb.out (balloc _ _) | exact HKb.out.bl | exact bnextK HKa.out.bl (below_drew8 _ _) | exact HKa.out.bl); done)
          clear hK K
          try simp only [Act.put, setIfInBounds_toArray, set_cons_zero, set_cons_succ]
          refine wpAnyH_ready (rs := [11]) (by kernel_rfl) (by simp) ?_
          refine AllReadyH.cons (o := ⟨some 53, _, _, _, _, _⟩) rfl (fun K hK => ?_) AllReadyH.nil
          refine step_pushL8 elB_rs (.tmp 46) (.tmp 52) rfl rfl (w.heap.size + 1) i _ (by rfl) HJb.out.o1 (by rfl) (by rfl) (one_cell1 rfl) (by omega) (by decide) (by have := HJb.out.blk.lt; omega) ?_
          intro Vb wb2 hob _ hgb hlb
          have HCb : Hid (Below w.heap.size w wb2) := Lib.hid (HJb.out.bl.trans ((KeepL.grownV hgb).below HJb.out.bl.size (fun k q => by have := ob_ge HJb.out.o1 k q; omega)))
          have hJ2 := HJb.out.s1 HVb.out hob hgb hlb
          have HKb := Lib.hid hJ2
          have hbk := HJb.out.blk.keepL (KeepL.grownV hgb) (fun hm => by have := ob_ge HJb.out.o1 _ hm; omega)
          have cxb := hbk.cell 1
          have fxb := hbk.froz 1
          obtain ⟨AVb, cVb, rfl, _⟩ := own_form hob
          clear hJ2 hob hgb hlb hbk
          refine hK.out _ _ ?_ (fun hHeld => ?_)
          · (try dsimp only); (refine (HSEC.out _ ?_); (first | exact HCb.out | exact HBb.out | exact bnextK HBb.out (balloc _ _) | exact HKb.out.bl | exact bnextK HKa.out.bl (below_drew8 _ _) | exact HKa.out.bl); done)
          clear hK K
          try simp only [Act.put, setIfInBounds_toArray, set_cons_zero, set_cons_succ]
          refine wpAnyH_take (i := 12) (oi := ⟨some 54, _, _, _, _, _⟩) (v := ?_) rfl (by kernel_rfl) (by kernel_rfl) (by kernel_rfl) (fun _ _ _ h => h) (Or.inl ⟨by rfl, ?_⟩) (by assumption) ?_; rotate_left
          · intro w hSw; (try dsimp only at hSw); go_simp; try with_reducible rfl
          try simp only [Act.put, setIfInBounds_toArray, set_cons_zero, set_cons_succ]
          refine wpAnyH_take (i := 13) (oi := ⟨some 55, _, _, _, _, _⟩) (v := ?_) rfl (by kernel_rfl) (by kernel_rfl) (by kernel_rfl) (fun _ _ _ h => h) (Or.inl ⟨by rfl, ?_⟩) (by assumption) ?_; rotate_left
          · intro w hSw; (try dsimp only at hSw); go_simp; try with_reducible rfl
          try simp only [Act.put, setIfInBounds_toArray, set_cons_zero, set_cons_succ]
          refine wpAnyH_ready (rs := [14]) (by kernel_rfl) (by simp) ?_
          refine AllReadyH.cons (o := ⟨none, _, _, _, _, _⟩) rfl (fun K hK => ?_) AllReadyH.nil
          go_simp
          refine hK.out _ _ ?_ (fun hHeld => ?_)
          · (try dsimp only); (refine (HSEC.out _ ?_); (first | exact HCb.out | exact HBb.out | exact bnextK HBb.out (balloc _ _) | exact HKb.out.bl | exact bnextK HKa.out.bl (below_drew8 _ _) | exact HKa.out.bl); done)
          clear hK K
          try simp only [Act.put]
          refine wpAnyH_done (by kernel_rfl) ?_ _
          obtain ⟨wc, hwc⟩ : ∃ z : World, z = wb2.setCell ⟨w.heap.size, 1, none⟩ (.slice AVb (i + 1) cVb) := ⟨_, rfl⟩
          rw [← hwc] at HKb ⊢
          clear hwc
          have c2 := HKb.out.blk.cell 2
          have f2 := HKb.out.blk.froz 2
          go_wp2_with (at_builtin; refine wpList_pushL elB_ro (.tmp 60) (.tmp 61) rfl rfl (w.heap.size + 1) i _ (by rfl) HKb.out.o2 (by rfl) (by rfl) (one_cell1 rfl) (by omega) (by decide) (by have := HKb.out.blk.lt; omega) ?_; intro V9 w9 ho9 _ hg9 hl9; have HK9 := Lib.hid (HKb.out.s2 ho9 hg9); have hbk9 := HKb.out.blk.keepL (KeepL.grownV hg9) (fun hm => by have := ob_ge HKb.out.o2 _ hm; omega); have cx9 := hbk9.cell 2; have fx9 := hbk9.froz 2; obtain ⟨AV9, cV9, rfl, _⟩ := own_form ho9; clear ho9 hg9 hl9 hbk9)
          go_roundw
          case rel => exact ⟨i + 1, _, _, _, _, _, by omega, by go_num, HK9.out⟩
          case measure => simp [intOf]; omega
        refine AllReadyH.cons (o := ⟨some 51, _, _, _, _, _⟩) rfl (fun K hK => ?_) AllReadyH.nil
        go_simp
        refine (HCL.out _ (by (first | exact HCb.out | exact HBb.out | exact bnextK HBb.out (balloc _ _) | exact HKb.out.bl | exact bnextK HKa.out.bl (below_drew8 _ _) | exact HKa.out.bl))).mono ?_
        rintro e' wb1 ⟨⟨vb, rfl, hvb⟩, hbb⟩
        have HBDb : Hid (Below wb.heap.size wb wb1) := Lib.hid (Below.trans (below_drew8 wb _) (hbb.mono (Nat.le_refl _)))
        have HBb := Lib.hid (bnextK HKa.out.bl HBDb.out)
        have HVb := Lib.hid hvb
        have HJb := Lib.hid (HKa.out.far HBDb.out)
        obtain ⟨gb, kb, spb, rfl, _⟩ := hvb
        clear hbb
        go_wp2_with fail
        refine hK.out _ _ ?_ (fun hHeld => ?_)
        · (try dsimp only); (refine (HSEC.out _ ?_); (first | exact HCb.out | exact HBb.out | exact bnextK HBb.out (balloc _ _) | exact HKb.out.bl | exact bnextK HKa.out.bl (below_drew8 _ _) | exact HKa.out.bl); done)
        clear hK K
        try simp only [Act.put, setIfInBounds_toArray, set_cons_zero, set_cons_succ]
        refine wpAnyH_ready (rs := [4, 10]) (by kernel_rfl) (by simp) ?_
        refine AllReadyH.cons (o := ⟨some 46, _, _, _, _, _⟩) rfl (fun K hK => ?_) ?_
        · skip
          have cyb := (HRB.out _ HBDb.out).2
          go_simp
          refine hK.out _ _ ?_ (fun hHeld => ?_)
          · (try dsimp only); (refine (HSEC.out _ ?_); (first | exact HCb.out | exact HBb.out | exact bnextK HBb.out (balloc _ _) | exact HKb.out.bl | exact bnextK HKa.out.bl (below_drew8 _ _) | exact HKa.out.bl); done)
          clear hK K
          try simp only [Act.put, setIfInBounds_toArray, set_cons_zero, set_cons_succ]
          refine wpAnyH_ready (rs := [10]) (by kernel_rfl) (by simp) ?_
          refine AllReadyH.cons (o := ⟨some 52, _, _, _, _, _⟩) rfl (fun K hK => ?_) AllReadyH.nil
          go_simp
          refine hK.out _ _ ?_ (fun hHeld => ?_)
          · (try dsimp only); (refine (HSEC.out _ ?_); (first | exact HCb.out | exact HBb.out | exact bnextK HBb.out (balloc _ _) | exact HKb.out.bl | exact bnextK HKa.out.bl (below_drew8 _ _) | exact HKa.out.bl); done)
          clear hK K
          try simp only [Act.put, setIfInBounds_toArray, set_cons_zero, set_cons_succ]
          refine wpAnyH_ready (rs := [11]) (by kernel_rfl) (by simp) ?_
          refine AllReadyH.cons (o := ⟨some 53, _, _, _, _, _⟩) rfl (fun K hK => ?_) AllReadyH.nil
          refine step_pushL8 elB_rs (.tmp 46) (.tmp 52) rfl rfl (w.heap.size + 1) i _ (by rfl) HJb.out.o1 (by rfl) (by rfl) (one_cell1 rfl) (by omega) (by decide) (by have := HJb.out.blk.lt; omega) ?_
          intro Vb wb2 hob _ hgb hlb
          have HCb : Hid (Below w.heap.size w wb2) := Lib.hid (HJb.out.bl.trans ((KeepL.grownV hgb).below HJb.out.bl.size (fun k q => by have := ob_ge HJb.out.o1 k q; omega)))
          have hJ2 := HJb.out.s1 HVb.out hob hgb hlb
          have HKb := Lib.hid hJ2
          have hbk := HJb.out.blk.keepL (KeepL.grownV hgb) (fun hm => by have := ob_ge HJb.out.o1 _ hm; omega)
          have cxb := hbk.cell 1
          have fxb := hbk.froz 1
          obtain ⟨AVb, cVb, rfl, _⟩ := own_form hob
          clear hJ2 hob hgb hlb hbk
          refine hK.out _ _ ?_ (fun hHeld => ?_)
          · (try dsimp only); (refine (HSEC.out _ ?_); (first | exact HCb.out | exact HBb.out | exact bnextK HBb.out (balloc _ _) | exact HKb.out.bl | exact bnextK HKa.out.bl (below_drew8 _ _) | exact HKa.out.bl); done)
          clear hK K
          try simp only [Act.put, setIfInBounds_toArray, set_cons_zero, set_cons_succ]
          refine wpAnyH_take (i := 12) (oi := ⟨some 54, _, _, _, _, _⟩) (v := ?_) rfl (by kernel_rfl) (by kernel_rfl) (by kernel_rfl) (fun _ _ _ h => h) (Or.inl ⟨by rfl, ?_⟩) (by assumption) ?_; rotate_left
          · intro w hSw; (try dsimp only at hSw); go_simp; try with_reducible rfl
          try simp only [Act.put, setIfInBounds_toArray, set_cons_zero, set_cons_succ]
          refine wpAnyH_take (i := 13) (oi := ⟨some 55, _, _, _, _, _⟩) (v := ?_) rfl (by kernel_rfl) (by kernel_rfl) (by kernel_rfl) (fun _ _ _ h => h) (Or.inl ⟨by rfl, ?_⟩) (by assumption) ?_; rotate_left
          · intro w hSw; (try dsimp only at hSw); go_simp; try with_reducible rfl
          try simp only [Act.put, setIfInBounds_toArray, set_cons_zero, set_cons_succ]
          refine wpAnyH_ready (rs := [14]) (by kernel_rfl) (by simp) ?_
          refine AllReadyH.cons (o := ⟨none, _, _, _, _, _⟩) rfl (fun K hK => ?_) AllReadyH.nil
          go_simp
          refine hK.out _ _ ?_ (fun hHeld => ?_)
          · (try dsimp only); (refine (HSEC.out _ ?_); (first | exact HCb.out | exact HBb.out | exact bnextK HBb.out (balloc _ _) | exact HKb.out.bl | exact bnextK HKa.out.bl (below_drew8 _ _) | exact HKa.out.bl); done)
          clear hK K
          try simp only [Act.put]
          refine wpAnyH_done (by kernel_rfl) ?_ _
          obtain ⟨wc, hwc⟩ : ∃ z : World, z = wb2.setCell ⟨w.heap.size, 1, none⟩ (.slice AVb (i + 1) cVb) := ⟨_, rfl⟩
          rw [← hwc] at HKb ⊢
          clear hwc
          have c2 := HKb.out.blk.cell 2
          have f2 := HKb.out.blk.froz 2
          go_wp2_with (at_builtin; refine wpList_pushL elB_ro (.tmp 60) (.tmp 61) rfl rfl (w.heap.size + 1) i _ (by rfl) HKb.out.o2 (by rfl) (by rfl) (one_cell1 rfl) (by omega) (by decide) (by have := HKb.out.blk.lt; omega) ?_; intro V9 w9 ho9 _ hg9 hl9; have HK9 := Lib.hid (HKb.out.s2 ho9 hg9); have hbk9 := HKb.out.blk.keepL (KeepL.grownV hg9) (fun hm => by have := ob_ge HKb.out.o2 _ hm; omega); have cx9 := hbk9.cell 2; have fx9 := hbk9.froz 2; obtain ⟨AV9, cV9, rfl, _⟩ := own_form ho9; clear ho9 hg9 hl9 hbk9)
          go_roundw
          case rel => exact ⟨i + 1, _, _, _, _, _, by omega, by go_num, HK9.out⟩
          case measure => simp [intOf]; omega
        refine AllReadyH.cons (o := ⟨some 52, _, _, _, _, _⟩) rfl (fun K hK => ?_) AllReadyH.nil
        go_simp
        refine hK.out _ _ ?_ (fun hHeld => ?_)
        · (try dsimp only); (refine (HSEC.out _ ?_); (first | exact HCb.out | exact HBb.out | exact bnextK HBb.out (balloc _ _) | exact HKb.out.bl | exact bnextK HKa.out.bl (below_drew8 _ _) | exact HKa.out.bl); done)
        clear hK K
        try simp only [Act.put, setIfInBounds_toArray, set_cons_zero, set_cons_succ]
        refine wpAnyH_ready (rs := [4]) (by kernel_rfl) (by simp) ?_
        refine AllReadyH.cons (o := ⟨some 46, _, _, _, _, _⟩) rfl (fun K hK => ?_) AllReadyH.nil
        have cyb : ∀ o, (wb1.alloc o).cell? ⟨w.heap.size, 1, none⟩ = some V1 := fun o => (HRB.out _ (bnextK HBDb.out (balloc _ _))).2
        go_simp
        refine hK.out _ _ ?_ (fun hHeld => ?_)
        · (try dsimp only); (refine (HSEC.out _ ?_); (first | exact HCb.out | exact HBb.out | exact bnextK HBb.out (balloc _ _) | exact HKb.out.bl | exact bnextK HKa.out.bl (below_drew8 _ _) | exact HKa.out.bl); done)
        clear hK K
        try simp only [Act.put, setIfInBounds_toArray, set_cons_zero, set_cons_succ]
        refine wpAnyH_ready (rs := [11]) (by kernel_rfl) (by simp) ?_
        refine AllReadyH.cons (o := ⟨some 53, _, _, _, _, _⟩) rfl (fun K hK => ?_) AllReadyH.nil
        refine step_pushL8 elB_rs (.tmp 46) (.tmp 52) rfl rfl (w.heap.size + 1) i _ (by rfl) HJb.out.o1 (by rfl) (by rfl) (one_cell1 rfl) (by omega) (by decide) (by have := HJb.out.blk.lt; omega) ?_
        intro Vb wb2 hob _ hgb hlb
        have HCb : Hid (Below w.heap.size w wb2) := Lib.hid (HJb.out.bl.trans ((KeepL.grownV hgb).below HJb.out.bl.size (fun k q => by have := ob_ge HJb.out.o1 k q; omega)))
        have hJ2 := HJb.out.s1 HVb.out hob hgb hlb
        have HKb := Lib.hid hJ2
        have hbk := HJb.out.blk.keepL (KeepL.grownV hgb) (fun hm => by have := ob_ge HJb.out.o1 _ hm; omega)
        have cxb := hbk.cell 1
        have fxb := hbk.froz 1
        obtain ⟨AVb, cVb, rfl, _⟩ := own_form hob
        clear hJ2 hob hgb hlb hbk
        refine hK.out _ _ ?_ (fun hHeld => ?_)
        · (try dsimp only); (refine (HSEC.out _ ?_); (first | exact HCb.out | exact HBb.out | exact bnextK HBb.out (balloc _ _) | exact HKb.out.bl | exact bnextK HKa.out.bl (below_drew8 _ _) | exact HKa.out.bl); done)
        clear hK K
        try simp only [Act.put, setIfInBounds_toArray, set_cons_zero, set_cons_succ]
        refine wpAnyH_take (i := 12) (oi := ⟨some 54, _, _, _, _, _⟩) (v := ?_) rfl (by kernel_rfl) (by kernel_rfl) (by kernel_rfl) (fun _ _ _ h => h) (Or.inl ⟨by rfl, ?_⟩) (by assumption) ?_; rotate_left
        · intro w hSw; (try dsimp only at hSw); go_simp; try with_reducible rfl
        try simp only [Act.put, setIfInBounds_toArray, set_cons_zero, set_cons_succ]
        refine wpAnyH_take (i := 13) (oi := ⟨some 55, _, _, _, _, _⟩) (v := ?_) rfl (by kernel_rfl) (by kernel_rfl) (by kernel_rfl) (fun _ _ _ h => h) (Or.inl ⟨by rfl, ?_⟩) (by assumption) ?_; rotate_left
        · intro w hSw; (try dsimp only at hSw); go_simp; try with_reducible rfl
        try simp only [Act.put, setIfInBounds_toArray, set_cons_zero, set_cons_succ]
        refine wpAnyH_ready (rs := [14]) (by kernel_rfl) (by simp) ?_
        refine AllReadyH.cons (o := ⟨none, _, _, _, _, _⟩) rfl (fun K hK => ?_) AllReadyH.nil
        go_simp
        refine hK.out _ _ ?_ (fun hHeld => ?_)
        · (try dsimp only); (refine (HSEC.out _ ?_); (first | exact HCb.out | exact HBb.out | exact bnextK HBb.out (balloc _ _) | exact HKb.out.bl | exact bnextK HKa.out.bl (below_drew8 _ _) | exact HKa.out.bl); done)
        clear hK K
        try simp only [Act.put]
        refine wpAnyH_done (by kernel_rfl) ?_ _
        obtain ⟨wc, hwc⟩ : ∃ z : World, z = wb2.setCell ⟨w.heap.size, 1, none⟩ (.slice AVb (i + 1) cVb) := ⟨_, rfl⟩
        rw [← hwc] at HKb ⊢
        clear hwc
        have c2 := HKb.out.blk.cell 2
        have f2 := HKb.out.blk.froz 2
        go_wp2_with (at_builtin; refine wpList_pushL elB_ro (.tmp 60) (.tmp 61) rfl rfl (w.heap.size + 1) i _ (by rfl) HKb.out.o2 (by rfl) (by rfl) (one_cell1 rfl) (by omega) (by decide) (by have := HKb.out.blk.lt; omega) ?_; intro V9 w9 ho9 _ hg9 hl9; have HK9 := Lib.hid (HKb.out.s2 ho9 hg9); have hbk9 := HKb.out.blk.keepL (KeepL.grownV hg9) (fun hm => by have := ob_ge HKb.out.o2 _ hm; omega); have cx9 := hbk9.cell 2; have fx9 := hbk9.froz 2; obtain ⟨AV9, cV9, rfl, _⟩ := own_form ho9; clear ho9 hg9 hl9 hbk9)
        go_roundw
        case rel => exact ⟨i + 1, _, _, _, _, _, by omega, by go_num, HK9.out⟩
        case measure => simp [intOf]; omega
      refine AllReadyH.cons (o := ⟨some 37, _, _, _, _, _⟩) rfl (fun K hK => ?_) AllReadyH.nil
      go_simp
      refine (HCL.out _ (by (first | exact HCa.out | exact HBa.out | exact bnextK HBa.out (balloc _ _) | exact HKa.out.bl | exact bnextK HI.out.bl (below_drew8 _ _) | exact HI.out.bl))).mono ?_
      rintro e' wa1 ⟨⟨va, rfl, hva⟩, hba⟩
      have HBDa : Hid (Below wa.heap.size wa wa1) := Lib.hid (Below.trans (below_drew8 wa _) (hba.mono (Nat.le_refl _)))
      have HBa := Lib.hid (bnextK HI.out.bl HBDa.out)
      have HVa := Lib.hid hva
      have HJa := Lib.hid (HI.out.far HBDa.out)
      obtain ⟨ga, ka, spa, rfl, _⟩ := hva
      clear hba
      go_wp2_with fail
      refine hK.out _ _ ?_ (fun hHeld => ?_)
      · (try dsimp only); (refine (HSEC.out _ ?_); (first | exact HCa.out | exact HBa.out | exact bnextK HBa.out (balloc _ _) | exact HKa.out.bl | exact bnextK HI.out.bl (below_drew8 _ _) | exact HI.out.bl); done)
      clear hK K
      try simp only [Act.put, setIfInBounds_toArray, set_cons_zero, set_cons_succ]
      refine wpAnyH_ready (rs := [4, 10]) (by kernel_rfl) (by simp) ?_
      refine AllReadyH.cons (o := ⟨some 32, _, _, _, _, _⟩) rfl (fun K hK => ?_) ?_
      · skip
        have cya := (HRC.out _ HBDa.out).1
        go_simp
        refine hK.out _ _ ?_ (fun hHeld => ?_)
        · (try dsimp only); (refine (HSEC.out _ ?_); (first | exact HCa.out | exact HBa.out | exact bnextK HBa.out (balloc _ _) | exact HKa.out.bl | exact bnextK HI.out.bl (below_drew8 _ _) | exact HI.out.bl); done)
        clear hK K
        try simp only [Act.put, setIfInBounds_toArray, set_cons_zero, set_cons_succ]
        refine wpAnyH_ready (rs := [10]) (by kernel_rfl) (by simp) ?_
        refine AllReadyH.cons (o := ⟨some 38, _, _, _, _, _⟩) rfl (fun K hK => ?_) AllReadyH.nil
        go_simp
        refine hK.out _ _ ?_ (fun hHeld => ?_)
        · (try dsimp only); (refine (HSEC.out _ ?_); (first | exact HCa.out | exact HBa.out | exact bnextK HBa.out (balloc _ _) | exact HKa.out.bl | exact bnextK HI.out.bl (below_drew8 _ _) | exact HI.out.bl); done)
        clear hK K
        try simp only [Act.put, setIfInBounds_toArray, set_cons_zero, set_cons_succ]
        refine wpAnyH_ready (rs := [11]) (by kernel_rfl) (by simp) ?_
        refine AllReadyH.cons (o := ⟨some 39, _, _, _, _, _⟩) rfl (fun K hK => ?_) AllReadyH.nil
        refine step_pushL8 elB_rs (.tmp 32) (.tmp 38) rfl rfl (w.heap.size + 1) i _ (by rfl) HJa.out.o0 (by rfl) (by rfl) (one_cell1 rfl) (by omega) (by decide) (by have := HJa.out.blk.lt; omega) ?_
        intro Va wa2 hoa _ hga hla
        have HCa : Hid (Below w.heap.size w wa2) := Lib.hid (HJa.out.bl.trans ((KeepL.grownV hga).below HJa.out.bl.size (fun k q => by have := ob_ge HJa.out.o0 k q; omega)))
        have hJ2 := HJa.out.s0 HVa.out hoa hga hla
        have HKa := Lib.hid hJ2
        have hbk := HJa.out.blk.keepL (KeepL.grownV hga) (fun hm => by have := ob_ge HJa.out.o0 _ hm; omega)
        have cxa := hbk.cell 0
        have fxa := hbk.froz 0
        obtain ⟨AVa, cVa, rfl, _⟩ := own_form hoa
        clear hJ2 hoa hga hla hbk
        refine hK.out _ _ ?_ (fun hHeld => ?_)
        · (try dsimp only); (refine (HSEC.out _ ?_); (first | exact HCa.out | exact HBa.out | exact bnextK HBa.out (balloc _ _) | exact HKa.out.bl | exact bnextK HI.out.bl (below_drew8 _ _) | exact HI.out.bl); done)
        clear hK K
        try simp only [Act.put, setIfInBounds_toArray, set_cons_zero, set_cons_succ]
        refine wpAnyH_take (i := 12) (oi := ⟨some 40, _, _, _, _, _⟩) (v := ?_) rfl (by kernel_rfl) (by kernel_rfl) (by kernel_rfl) (fun _ _ _ h => h) (Or.inl ⟨by rfl, ?_⟩) (by assumption) ?_; rotate_left
        · intro w hSw; (try dsimp only at hSw); go_simp; try with_reducible rfl
        try simp only [Act.put, setIfInBounds_toArray, set_cons_zero, set_cons_succ]
        refine wpAnyH_take (i := 13) (oi := ⟨some 41, _, _, _, _, _⟩) (v := ?_) rfl (by kernel_rfl) (by kernel_rfl) (by kernel_rfl) (fun _ _ _ h => h) (Or.inl ⟨by rfl, ?_⟩) (by assumption) ?_; rotate_left
        · intro w hSw; (try dsimp only at hSw); go_simp; try with_reducible rfl
        try simp only [Act.put, setIfInBounds_toArray, set_cons_zero, set_cons_succ]
        refine wpAnyH_ready (rs := [14]) (by kernel_rfl) (by simp) ?_
        refine AllReadyH.cons (o := ⟨none, _, _, _, _, _⟩) rfl (fun K hK => ?_) AllReadyH.nil
        go_simp
        refine hK.out _ _ ?_ (fun hHeld => ?_)
        · (try dsimp only); (refine (HSEC.out _ ?_); (first | exact HCa.out | exact HBa.out | exact bnextK HBa.out (balloc _ _) | exact HKa.out.bl | exact bnextK HI.out.bl (below_drew8 _ _) | exact HI.out.bl); done)
        clear hK K
        try simp only [Act.put]
        refine wpAnyH_done (by kernel_rfl) ?_ _
        obtain ⟨wb, hwb⟩ : ∃ z : World, z = wa2.setCell ⟨w.heap.size, 0, none⟩ (.slice AVa (i + 1) cVa) := ⟨_, rfl⟩
        rw [← hwb] at HKa ⊢
        have HRB : Hid (∀ W, Below wb.heap.size wb W → W.cell? ⟨w.heap.size, 0, none⟩ = some (.slice AVa (i + 1) cVa) ∧ W.cell? ⟨w.heap.size, 1, none⟩ = some V1) := Lib.hid fun W hW => ⟨(HKa.out.far hW).blk.cell 0, (HKa.out.far hW).blk.cell 1⟩
        clear hwb
        go_wp2_with fail
        refine wp_region_held_drew (S := (fun W => W.cell? ⟨b, off + i, none⟩ = some (.slice (some ⟨gv, 0, none⟩) 64 cv))) (by kernel_rfl) ?_ (fun hHeld => ?_)
        · (try dsimp only); (refine (HSEC.out _ ?_); (first | exact HCb.out | exact HBb.out | exact bnextK HBb.out (balloc _ _) | exact HKb.out.bl | exact bnextK HKa.out.bl (below_drew8 _ _) | exact HKa.out.bl); done)
        refine wpAnyH_take (i := 0) (oi := ⟨some 42, _, _, _, _, _⟩) (v := ?_) rfl (by kernel_rfl) (by kernel_rfl) (by kernel_rfl) (fun _ _ _ h => h) (Or.inl ⟨by rfl, ?_⟩) (by assumption) ?_; rotate_left
        · intro w hSw; (try dsimp only at hSw); go_simp; try with_reducible rfl
        try simp only [Act.put, setIfInBounds_toArray, set_cons_zero, set_cons_succ]
        refine wpAnyH_take (i := 1) (oi := ⟨some 43, _, _, _, _, _⟩) (v := ?_) rfl (by kernel_rfl) (by kernel_rfl) (by kernel_rfl) (fun _ _ _ h => h) (Or.inl ⟨by rfl, ?_⟩) (by assumption) ?_; rotate_left
        · intro w hSw; (try dsimp only at hSw); go_simp; try with_reducible rfl
        try simp only [Act.put, setIfInBounds_toArray, set_cons_zero, set_cons_succ]
        refine wpAnyH_take (i := 2) (oi := ⟨some 44, _, _, _, _, _⟩) (v := ?_) rfl (by kernel_rfl) (by kernel_rfl) (by kernel_rfl) (fun _ _ _ h => h) (Or.inl ⟨by rfl, ?_⟩) (by assumption) ?_; rotate_left
        · intro w hSw; (try dsimp only at hSw); go_simp; try with_reducible rfl
        try simp only [Act.put, setIfInBounds_toArray, set_cons_zero, set_cons_succ]
        refine wpAnyH_take (i := 3) (oi := ⟨some 45, _, _, _, _, _⟩) (v := ?_) rfl (by kernel_rfl) (by kernel_rfl) (by kernel_rfl) (fun _ _ _ h => h) (Or.inl ⟨by rfl, ?_⟩) (by assumption) ?_; rotate_left
        · intro w hSw; (try dsimp only at hSw); go_simp; try with_reducible rfl
        try simp only [Act.put, setIfInBounds_toArray, set_cons_zero, set_cons_succ]
        refine wpAnyH_take (i := 5) (oi := ⟨some 47, _, _, _, _, _⟩) (v := ?_) rfl (by kernel_rfl) (by kernel_rfl) (by kernel_rfl) (fun _ _ _ h => h) (Or.inl ⟨by rfl, ?_⟩) (by assumption) ?_; rotate_left
        · intro w hSw; (try dsimp only at hSw); go_simp; try with_reducible rfl
        try simp only [Act.put, setIfInBounds_toArray, set_cons_zero, set_cons_succ]
        refine wpAnyH_take (i := 6) (oi := ⟨some 48, _, _, _, _, _⟩) (v := ?_) rfl (by kernel_rfl) (by kernel_rfl) (by kernel_rfl) (fun _ _ _ h => h) (Or.inl ⟨by rfl, ?_⟩) (by assumption) ?_; rotate_left
        · intro w hSw; (try dsimp only at hSw); go_simp; try with_reducible rfl
        try simp only [Act.put, setIfInBounds_toArray, set_cons_zero, set_cons_succ]
        refine wpAnyH_take (i := 7) (oi := ⟨some 49, _, _, _, _, _⟩) (v := ?_) rfl (by kernel_rfl) (by kernel_rfl) (by kernel_rfl) (fun _ _ _ h => h) (Or.inl ⟨by rfl, ?_⟩) (by assumption) ?_; rotate_left
        · intro w hSw; (try dsimp only at hSw); go_simp; try with_reducible rfl
        try simp only [Act.put, setIfInBounds_toArray, set_cons_zero, set_cons_succ]
        refine wpAnyH_take (i := 8) (oi := ⟨some 50, _, _, _, _, _⟩) (v := ?_) rfl (by kernel_rfl) (by kernel_rfl) (by kernel_rfl) (fun _ _ _ h => h) (Or.inl ⟨by rfl, ?_⟩) (by assumption) ?_; rotate_left
        · intro w hSw; (try dsimp only at hSw); go_simp; try with_reducible rfl
        try simp only [Act.put, setIfInBounds_toArray, set_cons_zero, set_cons_succ]
        refine wpAnyH_ready (rs := [4, 9]) (by kernel_rfl) (by simp) ?_
        refine AllReadyH.cons (o := ⟨some 46, _, _, _, _, _⟩) rfl (fun K hK => ?_) ?_
        · skip
          have cyb := (HRB.out _ (below_drew8 _ _)).2
          go_simp
          refine hK.out _ _ ?_ (fun hHeld => ?_)
          · (try dsimp only); (refine (HSEC.out _ ?_); (first | exact HCb.out | exact HBb.out | exact bnextK HBb.out (balloc _ _) | exact HKb.out.bl | exact bnextK HKa.out.bl (below_drew8 _ _) | exact HKa.out.bl); done)
          clear hK K
          try simp only [Act.put, setIfInBounds_toArray, set_cons_zero, set_cons_succ]
          refine wpAnyH_ready (rs := [9]) (by kernel_rfl) (by simp) ?_
          refine AllReadyH.cons (o := ⟨some 51, _, _, _, _, _⟩) rfl (fun K hK => ?_) AllReadyH.nil
          go_simp
          refine (HCL.out _ (by (first | exact HCb.out | exact HBb.out | exact bnextK HBb.out (balloc _ _) | exact HKb.out.bl | exact bnextK HKa.out.bl (below_drew8 _ _) | exact HKa.out.bl))).mono ?_
          rintro e' wb1 ⟨⟨vb, rfl, hvb⟩, hbb⟩
          have HBDb : Hid (Below wb.heap.size wb wb1) := Lib.hid (Below.trans (below_drew8 wb _) (hbb.mono (Nat.le_refl _)))
          have HBb := Lib.hid (bnextK HKa.out.bl HBDb.out)
          have HVb := Lib.hid hvb
          have HJb := Lib.hid (HKa.out.far HBDb.out)
          obtain ⟨gb, kb, spb, rfl, _⟩ := hvb
          clear hbb
          go_wp2_with fail
          refine hK.out _ _ ?_ (fun hHeld => ?_)
          · (try dsimp only); (refine (HSEC.out _ ?_); (first | exact HCb.out | exact HBb.out | exact bnextK HBb.out (balloc _ _) | exact HKb.out.bl | exact bnextK HKa.out.bl (below_drew8 _ _) | exact HKa.out.bl); done)
          clear hK K
          try simp only [Act.put, setIfInBounds_toArray, set_cons_zero, set_cons_succ]
          refine wpAnyH_ready (rs := [10]) (by kernel_rfl) (by simp) ?_
          refine AllReadyH.cons (o := ⟨some 52, _, _, _, _, _⟩) rfl (fun K hK => ?_) AllReadyH.nil
          go_simp
          refine hK.out _ _ ?_ (fun hHeld => ?_)
          · (try dsimp only); (refine (HSEC.out _ ?_); (first | exact HCb.out | exact HBb.out | exact bnextK HBb.out (balloc _ _) | exact HKb.out.bl | exact bnextK HKa.out.bl (below_drew8 _ _) | exact HKa.out.bl); done)
          clear hK K
          try simp only [Act.put, setIfInBounds_toArray, set_cons_zero, set_cons_succ]
          refine wpAnyH_ready (rs := [11]) (by kernel_rfl) (by simp) ?_
          refine AllReadyH.cons (o := ⟨some 53, _, _, _, _, _⟩) rfl (fun K hK => ?_) AllReadyH.nil
          refine step_pushL8 elB_rs (.tmp 46) (.tmp 52) rfl rfl (w.heap.size + 1) i _ (by rfl) HJb.out.o1 (by rfl) (by rfl) (one_cell1 rfl) (by omega) (by decide) (by have := HJb.out.blk.lt; omega) ?_
          intro Vb wb2 hob _ hgb hlb
          have HCb : Hid (Below w.heap.size w wb2) := Lib.hid (HJb.out.bl.trans ((KeepL.grownV hgb).below HJb.out.bl.size (fun k q => by have := ob_ge HJb.out.o1 k q; omega)))
          have hJ2 := HJb.out.s1 HVb.out hob hgb hlb
          have HKb := Lib.hid hJ2
          have hbk := HJb.out.blk.keepL (KeepL.grownV hgb) (fun hm => by have := ob_ge HJb.out.o1 _ hm; omega)
          have cxb := hbk.cell 1
          have fxb := hbk.froz 1
          obtain ⟨AVb, cVb, rfl, _⟩ := own_form hob
          clear hJ2 hob hgb hlb hbk
          refine hK.out _ _ ?_ (fun hHeld => ?_)
          · (try dsimp only); (refine (HSEC.out _ ?_); (first | exact HCb.out | exact HBb.out | exact bnextK HBb.out (balloc _ _) | exact HKb.out.bl | exact bnextK HKa.out.bl (below_drew8 _ _) | exact HKa.out.bl); done)
          clear hK K
          try simp only [Act.put, setIfInBounds_toArray, set_cons_zero, set_cons_succ]
          refine wpAnyH_take (i := 12) (oi := ⟨some 54, _, _, _, _, _⟩) (v := ?_) rfl (by kernel_rfl) (by kernel_rfl) (by kernel_rfl) (fun _ _ _ h => h) (Or.inl ⟨by rfl, ?_⟩) (by assumption) ?_; rotate_left
          · intro w hSw; (try dsimp only at hSw); go_simp; try with_reducible rfl
          try simp only [Act.put, setIfInBounds_toArray, set_cons_zero, set_cons_succ]
          refine wpAnyH_take (i := 13) (oi := ⟨some 55, _, _, _, _, _⟩) (v := ?_) rfl (by kernel_rfl) (by kernel_rfl) (by kernel_rfl) (fun _ _ _ h => h) (Or.inl ⟨by rfl, ?_⟩) (by assumption) ?_; rotate_left
          · intro w hSw; (try dsimp only at hSw); go_simp; try with_reducible rfl
          try simp only [Act.put, setIfInBounds_toArray, set_cons_zero, set_cons_succ]
          refine wpAnyH_ready (rs := [14]) (by kernel_rfl) (by simp) ?_
          refine AllReadyH.cons (o := ⟨none, _, _, _, _, _⟩) rfl (fun K hK => ?_) AllReadyH.nil
          go_simp
          refine hK.out _ _ ?_ (fun hHeld => ?_)
          · (try dsimp only); (refine (HSEC.out _ ?_); (first | exact HCb.out | exact HBb.out | exact bnextK HBb.out (balloc _ _) | exact HKb.out.bl | exact bnextK HKa.out.bl (below_drew8 _ _) | exact HKa.out.bl); done)
          clear hK K
          try simp only [Act.put]
          refine wpAnyH_done (by kernel_rfl) ?_ _
          obtain ⟨wc, hwc⟩ : ∃ z : World, z = wb2.setCell ⟨w.heap.size, 1, none⟩ (.slice AVb (i + 1) cVb) := ⟨_, rfl⟩
          rw [← hwc] at HKb ⊢
          clear hwc
          have c2 := HKb.out.blk.cell 2
          have f2 := HKb.out.blk.froz 2
          go_wp2_with (at_builtin; refine wpList_pushL elB_ro (.tmp 60) (.tmp 61) rfl rfl (w.heap.size + 1) i _ (by rfl) HKb.out.o2 (by rfl) (by rfl) (one_cell1 rfl) (by omega) (by decide) (by have := HKb.out.blk.lt; omega) ?_; intro V9 w9 ho9 _ hg9 hl9; have HK9 := Lib.hid (HKb.out.s2 ho9 hg9); have hbk9 := HKb.out.blk.keepL (KeepL.grownV hg9) (fun hm => by have := ob_ge HKb.out.o2 _ hm; omega); have cx9 := hbk9.cell 2; have fx9 := hbk9.froz 2; obtain ⟨AV9, cV9, rfl, _⟩ := own_form ho9; clear ho9 hg9 hl9 hbk9)
          go_roundw
          case rel => exact ⟨i + 1, _, _, _, _, _, by omega, by go_num, HK9.out⟩
          case measure => simp [intOf]; omega
        refine AllReadyH.cons (o := ⟨some 51, _, _, _, _, _⟩) rfl (fun K hK => ?_) AllReadyH.nil
        go_simp
        refine (HCL.out _ (by (first | exact HCb.out | exact HBb.out | exact bnextK HBb.out (balloc _ _) | exact HKb.out.bl | exact bnextK HKa.out.bl (below_drew8 _ _) | exact HKa.out.bl))).mono ?_
        rintro e' wb1 ⟨⟨vb, rfl, hvb⟩, hbb⟩
        have HBDb : Hid (Below wb.heap.size wb wb1) := Lib.hid (Below.trans (below_drew8 wb _) (hbb.mono (Nat.le_refl _)))
        have HBb := Lib.hid (bnextK HKa.out.bl HBDb.out)
        have HVb := Lib.hid hvb
        have HJb := Lib.hid (HKa.out.far HBDb.out)
        obtain ⟨gb, kb, spb, rfl, _⟩ := hvb
        clear hbb
        go_wp2_with fail
        refine hK.out _ _ ?_ (fun hHeld => ?_)
        · (try dsimp only); (refine (HSEC.out _ ?_); (first | exact HCb.out | exact HBb.out | exact bnextK HBb.out (balloc _ _) | exact HKb.out.bl | exact bnextK HKa.out.bl (below_drew8 _ _) | exact HKa.out.bl); done)
        clear hK K
        try simp only [Act.put, setIfInBounds_toArray, set_cons_zero, set_cons_succ]
        refine wpAnyH_ready (rs := [4, 10]) (by kernel_rfl) (by simp) ?_
        refine AllReadyH.cons (o := ⟨some 46, _, _, _, _, _⟩) rfl (fun K hK => ?_) ?_
        · skip
          have cyb := (HRB.out _ HBDb.out).2
          go_simp
          refine hK.out _ _ ?_ (fun hHeld => ?_)
          · (try dsimp only); (refine (HSEC.out _ ?_); (first | exact HCb.out | exact HBb.out | exact bnextK HBb.out (balloc _ _) | exact HKb.out.bl | exact bnextK HKa.out.bl (below_drew8 _ _) | exact HKa.out.bl); done)
          clear hK K
          try simp only [Act.put, setIfInBounds_toArray, set_cons_zero, set_cons_succ]
          refine wpAnyH_ready (rs := [10]) (by kernel_rfl) (by simp) ?_
          refine AllReadyH.cons (o := ⟨some 52, _, _, _, _, _⟩) rfl (fun K hK => ?_) AllReadyH.nil
          go_simp
          refine hK.out _ _ ?_ (fun hHeld => ?_)
          · (try dsimp only); (refine (HSEC.out _ ?_); (first | exact HCb.out | exact HBb.out | exact bnextK HBb.out (balloc _ _) | exact HKb.out.bl | exact bnextK HKa.out.bl (below_drew8 _ _) | exact HKa.out.bl); done)
          clear hK K
          try simp only [Act.put, setIfInBounds_toArray, set_cons_zero, set_cons_succ]
          refine wpAnyH_ready (rs := [11]) (by kernel_rfl) (by simp) ?_
          refine AllReadyH.cons (o := ⟨some 53, _, _, _, _, _⟩) rfl (fun K hK => ?_) AllReadyH.nil
          refine step_pushL8 elB_rs (.tmp 46) (.tmp 52) rfl rfl (w.heap.size + 1) i _ (by rfl) HJb.out.o1 (by rfl) (by rfl) (one_cell1 rfl) (by omega) (by decide) (by have := HJb.out.blk.lt; omega) ?_
          intro Vb wb2 hob _ hgb hlb
          have HCb : Hid (Below w.heap.size w wb2) := Lib.hid (HJb.out.bl.trans ((KeepL.grownV hgb).below HJb.out.bl.size (fun k q => by have := ob_ge HJb.out.o1 k q; omega)))
          have hJ2 := HJb.out.s1 HVb.out hob hgb hlb
          have HKb := Lib.hid hJ2
          have hbk := HJb.out.blk.keepL (KeepL.grownV hgb) (fun hm => by have := ob_ge HJb.out.o1 _ hm; omega)
          have cxb := hbk.cell 1
          have fxb := hbk.froz 1
          obtain ⟨AVb, cVb, rfl, _⟩ := own_form hob
          clear hJ2 hob hgb hlb hbk
          refine hK.out _ _ ?_ (fun hHeld => ?_)
          · (try dsimp only); (refine (HSEC.out _ ?_); (first | exact HCb.out | exact HBb.out | exact bnextK HBb.out (balloc _ _) | exact HKb.out.bl | exact bnextK HKa.out.bl (below_drew8 _ _) | exact HKa.out.bl); done)
          clear hK K
          try simp only [Act.put, setIfInBounds_toArray, set_cons_zero, set_cons_succ]
          refine wpAnyH_take (i := 12) (oi := ⟨some 54, _, _, _, _, _⟩) (v := ?_) rfl (by kernel_rfl) (by kernel_rfl) (by kernel_rfl) (fun _ _ _ h => h) (Or.inl ⟨by rfl, ?_⟩) (by assumption) ?_; rotate_left
          · intro w hSw; (try dsimp only at hSw); go_simp; try with_reducible rfl
          try simp only [Act.put, setIfInBounds_toArray, set_cons_zero, set_cons_succ]
          refine wpAnyH_take (i := 13) (oi := ⟨some 55, _, _, _, _, _⟩) (v := ?_) rfl (by kernel_rfl) (by kernel_rfl) (by kernel_rfl) (fun _ _ _ h => h) (Or.inl ⟨by rfl, ?_⟩) (by assumption) ?_; rotate_left
          · intro w hSw; (try dsimp only at hSw); go_simp; try with_reducible rfl
          try simp only [Act.put, setIfInBounds_toArray, set_cons_zero, set_cons_succ]
          refine wpAnyH_ready (rs := [14]) (by kernel_rfl) (by simp) ?_
          refine AllReadyH.cons (o := ⟨none, _, _, _, _, _⟩) rfl (fun K hK => ?_) AllReadyH.nil
          go_simp
          refine hK.out _ _ ?_ (fun hHeld => ?_)
          · (try dsimp only); (refine (HSEC.out _ ?_); (first | exact HCb.out | exact HBb.out | exact bnextK HBb.out (balloc _ _) | exact HKb.out.bl | exact bnextK HKa.out.bl (below_drew8 _ _) | exact HKa.out.bl); done)
          clear hK K
          try simp only [Act.put]
          refine wpAnyH_done (by kernel_rfl) ?_ _
          obtain ⟨wc, hwc⟩ : ∃ z : World, z = wb2.setCell ⟨w.heap.size, 1, none⟩ (.slice AVb (i + 1) cVb) := ⟨_, rfl⟩
          rw [← hwc] at HKb ⊢
          clear hwc
          have c2 := HKb.out.blk.cell 2
          have f2 := HKb.out.blk.froz 2
          go_wp2_with (at_builtin; refine wpList_pushL elB_ro (.tmp 60) (.tmp 61) rfl rfl (w.heap.size + 1) i _ (by rfl) HKb.out.o2 (by rfl) (by rfl) (one_cell1 rfl) (by omega) (by decide) (by have := HKb.out.blk.lt; omega) ?_; intro V9 w9 ho9 _ hg9 hl9; have HK9 := Lib.hid (HKb.out.s2 ho9 hg9); have hbk9 := HKb.out.blk.keepL (KeepL.grownV hg9) (fun hm => by have := ob_ge HKb.out.o2 _ hm; omega); have cx9 := hbk9.cell 2; have fx9 := hbk9.froz 2; obtain ⟨AV9, cV9, rfl, _⟩ := own_form ho9; clear ho9 hg9 hl9 hbk9)
          go_roundw
          case rel => exact ⟨i + 1, _, _, _, _, _, by omega, by go_num, HK9.out⟩
          case measure => simp [intOf]; omega
        refine AllReadyH.cons (o := ⟨some 52, _, _, _, _, _⟩) rfl (fun K hK => ?_) AllReadyH.nil
        go_simp
        refine hK.out _ _ ?_ (fun hHeld => ?_)
        · (try dsimp only); (refine (HSEC.out _ ?_); (first | exact HCb.out | exact HBb.out | exact bnextK HBb.out (balloc _ _) | exact HKb.out.bl | exact bnextK HKa.out.bl (below_drew8 _ _) | exact HKa.out.bl); done)
        clear hK K
        try simp only [Act.put, setIfInBounds_toArray, set_cons_zero, set_cons_succ]
        refine wpAnyH_ready (rs := [4]) (by kernel_rfl) (by simp) ?_
        refine AllReadyH.cons (o := ⟨some 46, _, _, _, _, _⟩) rfl (fun K hK => ?_) AllReadyH.nil
        have cyb : ∀ o, (wb1.alloc o).cell? ⟨w.heap.size, 1, none⟩ = some V1 := fun o => (HRB.out _ (bnextK HBDb.out (balloc _ _))).2
        go_simp
        refine hK.out _ _ ?_ (fun hHeld => ?_)
        · (try dsimp only); (refine (HSEC.out _ ?_); (first | exact HCb.out | exact HBb.out | exact bnextK HBb.out (balloc _ _) | exact HKb.out.bl | exact bnextK HKa.out.bl (below_drew8 _ _) | exact HKa.out.bl); done)
        clear hK K
        try simp only [Act.put, setIfInBounds_toArray, set_cons_zero, set_cons_succ]
        refine wpAnyH_ready (rs := [11]) (by kernel_rfl) (by simp) ?_
        refine AllReadyH.cons (o := ⟨some 53, _, _, _, _, _⟩) rfl (fun K hK => ?_) AllReadyH.nil
        refine step_pushL8 elB_rs (.tmp 46) (.tmp 52) rfl rfl (w.heap.size + 1) i _ (by rfl) HJb.out.o1 (by rfl) (by rfl) (one_cell1 rfl) (by omega) (by decide) (by have := HJb.out.blk.lt; omega) ?_
        intro Vb wb2 hob _ hgb hlb
        have HCb : Hid (Below w.heap.size w wb2) := Lib.hid (HJb.out.bl.trans ((KeepL.grownV hgb).below HJb.out.bl.size (fun k q => by have := ob_ge HJb.out.o1 k q; omega)))
        have hJ2 := HJb.out.s1 HVb.out hob hgb hlb
        have HKb := Lib.hid hJ2
        have hbk := HJb.out.blk.keepL (KeepL.grownV hgb) (fun hm => by have := ob_ge HJb.out.o1 _ hm; omega)
        have cxb := hbk.cell 1
        have fxb := hbk.froz 1
        obtain ⟨AVb, cVb, rfl, _⟩ := own_form hob
        clear hJ2 hob hgb hlb hbk
        refine hK.out _ _ ?_ (fun hHeld => ?_)
        · (try dsimp only); (refine (HSEC.out _ ?_); (first | exact HCb.out | exact HBb.out | exact bnextK HBb.out (balloc _ _) | exact HKb.out.bl | exact bnextK HKa.out.bl (below_drew8 _ _) | exact HKa.out.bl); done)
        clear hK K
        try simp only [Act.put, setIfInBounds_toArray, set_cons_zero, set_cons_succ]
        refine wpAnyH_take (i := 12) (oi := ⟨some 54, _, _, _, _, _⟩) (v := ?_) rfl (by kernel_rfl) (by kernel_rfl) (by kernel_rfl) (fun _ _ _ h => h) (Or.inl ⟨by rfl, ?_⟩) (by assumption) ?_; rotate_left
        · intro w hSw; (try dsimp only at hSw); go_simp; try with_reducible rfl
        try simp only [Act.put, setIfInBounds_toArray, set_cons_zero, set_cons_succ]
        refine wpAnyH_take (i := 13) (oi := ⟨some 55, _, _, _, _, _⟩) (v := ?_) rfl (by kernel_rfl) (by kernel_rfl) (by kernel_rfl) (fun _ _ _ h => h) (Or.inl ⟨by rfl, ?_⟩) (by assumption) ?_; rotate_left
        · intro w hSw; (try dsimp only at hSw); go_simp; try with_reducible rfl
        try simp only [Act.put, setIfInBounds_toArray, set_cons_zero, set_cons_succ]
        refine wpAnyH_ready (rs := [14]) (by kernel_rfl) (by simp) ?_
        refine AllReadyH.cons (o := ⟨none, _, _, _, _, _⟩) rfl (fun K hK => ?_) AllReadyH.nil
        go_simp
        refine hK.out _ _ ?_ (fun hHeld => ?_)
        · (try dsimp only); (refine (HSEC.out _ ?_); (first | exact HCb.out | exact HBb.out | exact bnextK HBb.out (balloc _ _) | exact HKb.out.bl | exact bnextK HKa.out.bl (below_drew8 _ _) | exact HKa.out.bl); done)
        clear hK K
        try simp only [Act.put]
        refine wpAnyH_done (by kernel_rfl) ?_ _
        obtain ⟨wc, hwc⟩ : ∃ z : World, z = wb2.setCell ⟨w.heap.size, 1, none⟩ (.slice AVb (i + 1) cVb) := ⟨_, rfl⟩
        rw [← hwc] at HKb ⊢
        clear hwc
        have c2 := HKb.out.blk.cell 2
        have f2 := HKb.out.blk.froz 2
        go_wp2_with (at_builtin; refine wpList_pushL elB_ro (.tmp 60) (.tmp 61) rfl rfl (w.heap.size + 1) i _ (by rfl) HKb.out.o2 (by rfl) (by rfl) (one_cell1 rfl) (by omega) (by decide) (by have := HKb.out.blk.lt; omega) ?_; intro V9 w9 ho9 _ hg9 hl9; have HK9 := Lib.hid (HKb.out.s2 ho9 hg9); have hbk9 := HKb.out.blk.keepL (KeepL.grownV hg9) (fun hm => by have := ob_ge HKb.out.o2 _ hm; omega); have cx9 := hbk9.cell 2; have fx9 := hbk9.froz 2; obtain ⟨AV9, cV9, rfl, _⟩ := own_form ho9; clear ho9 hg9 hl9 hbk9)
        go_roundw
        case rel => exact ⟨i + 1, _, _, _, _, _, by omega, by go_num, HK9.out⟩
        case measure => simp [intOf]; omega
      refine AllReadyH.cons (o := ⟨some 38, _, _, _, _, _⟩) rfl (fun K hK => ?_) AllReadyH.nil
      go_simp
      refine hK.out _ _ ?_ (fun hHeld => ?_)
      · (try dsimp only); (refine (HSEC.out _ ?_); (first | exact HCa.out | exact HBa.out | exact bnextK HBa.out (balloc _ _) | exact HKa.out.bl | exact bnextK HI.out.bl (below_drew8 _ _) | exact HI.out.bl); done)
      clear hK K
      try simp only [Act.put, setIfInBounds_toArray, set_cons_zero, set_cons_succ]
      refine wpAnyH_ready (rs := [4]) (by kernel_rfl) (by simp) ?_
      refine AllReadyH.cons (o := ⟨some 32, _, _, _, _, _⟩) rfl (fun K hK => ?_) AllReadyH.nil
      have cya : ∀ o, (wa1.alloc o).cell? ⟨w.heap.size, 0, none⟩ = some V0 := fun o => (HRC.out _ (bnextK HBDa.out (balloc _ _))).1
      go_simp
      refine hK.out _ _ ?_ (fun hHeld => ?_)
      · (try dsimp only); (refine (HSEC.out _ ?_); (first | exact HCa.out | exact HBa.out | exact bnextK HBa.out (balloc _ _) | exact HKa.out.bl | exact bnextK HI.out.bl (below_drew8 _ _) | exact HI.out.bl); done)
      clear hK K
      try simp only [Act.put, setIfInBounds_toArray, set_cons_zero, set_cons_succ]
      refine wpAnyH_ready (rs := [11]) (by kernel_rfl) (by simp) ?_
      refine AllReadyH.cons (o := ⟨some 39, _, _, _, _, _⟩) rfl (fun K hK => ?_) AllReadyH.nil
      refine step_pushL8 elB_rs (.tmp 32) (.tmp 38) rfl rfl (w.heap.size + 1) i _ (by rfl) HJa.out.o0 (by rfl) (by rfl) (one_cell1 rfl) (by omega) (by decide) (by have := HJa.out.blk.lt; omega) ?_
      intro Va wa2 hoa _ hga hla
      have HCa : Hid (Below w.heap.size w wa2) := Lib.hid (HJa.out.bl.trans ((KeepL.grownV hga).below HJa.out.bl.size (fun k q => by have := ob_ge HJa.out.o0 k q; omega)))
      have hJ2 := HJa.out.s0 HVa.out hoa hga hla
      have HKa := Lib.hid hJ2
      have hbk := HJa.out.blk.keepL (KeepL.grownV hga) (fun hm => by have := ob_ge HJa.out.o0 _ hm; omega)
      have cxa := hbk.cell 0
      have fxa := hbk.froz 0
      obtain ⟨AVa, cVa, rfl, _⟩ := own_form hoa
      clear hJ2 hoa hga hla hbk
      refine hK.out _ _ ?_ (fun hHeld => ?_)
      · (try dsimp only); (refine (HSEC.out _ ?_); (first | exact HCa.out | exact HBa.out | exact bnextK HBa.out (balloc _ _) | exact HKa.out.bl | exact bnextK HI.out.bl (below_drew8 _ _) | exact HI.out.bl); done)
      clear hK K
      try simp only [Act.put, setIfInBounds_toArray, set_cons_zero, set_cons_succ]
      refine wpAnyH_take (i := 12) (oi := ⟨some 40, _, _, _, _, _⟩) (v := ?_) rfl (by kernel_rfl) (by kernel_rfl) (by kernel_rfl) (fun _ _ _ h => h) (Or.inl ⟨by rfl, ?_⟩) (by assumption) ?_; rotate_left
      · intro w hSw; (try dsimp only at hSw); go_simp; try with_reducible rfl
      try simp only [Act.put, setIfInBounds_toArray, set_cons_zero, set_cons_succ]
      refine wpAnyH_take (i := 13) (oi := ⟨some 41, _, _, _, _, _⟩) (v := ?_) rfl (by kernel_rfl) (by kernel_rfl) (by kernel_rfl) (fun _ _ _ h => h) (Or.inl ⟨by rfl, ?_⟩) (by assumption) ?_; rotate_left
      · intro w hSw; (try dsimp only at hSw); go_simp; try with_reducible rfl
      try simp only [Act.put, setIfInBounds_toArray, set_cons_zero, set_cons_succ]
      refine wpAnyH_ready (rs := [14]) (by kernel_rfl) (by simp) ?_
      refine AllReadyH.cons (o := ⟨none, _, _, _, _, _⟩) rfl (fun K hK => ?_) AllReadyH.nil
      go_simp
      refine hK.out _ _ ?_ (fun hHeld => ?_)
      · (try dsimp only); (refine (HSEC.out _ ?_); (first | exact HCa.out | exact HBa.out | exact bnextK HBa.out (balloc _ _) | exact HKa.out.bl | exact bnextK HI.out.bl (below_drew8 _ _) | exact HI.out.bl); done)
      clear hK K
      try simp only [Act.put]
      refine wpAnyH_done (by kernel_rfl) ?_ _
      obtain ⟨wb, hwb⟩ : ∃ z : World, z = wa2.setCell ⟨w.heap.size, 0, none⟩ (.slice AVa (i + 1) cVa) := ⟨_, rfl⟩
      rw [← hwb] at HKa ⊢
      have HRB : Hid (∀ W, Below wb.heap.size wb W → W.cell? ⟨w.heap.size, 0, none⟩ = some (.slice AVa (i + 1) cVa) ∧ W.cell? ⟨w.heap.size, 1, none⟩ = some V1) := Lib.hid fun W hW => ⟨(HKa.out.far hW).blk.cell 0, (HKa.out.far hW).blk.cell 1⟩
      clear hwb
      go_wp2_with fail
      refine wp_region_held_drew (S := (fun W => W.cell? ⟨b, off + i, none⟩ = some (.slice (some ⟨gv, 0, none⟩) 64 cv))) (by kernel_rfl) ?_ (fun hHeld => ?_)
      · (try dsimp only); (refine (HSEC.out _ ?_); (first | exact HCb.out | exact HBb.out | exact bnextK HBb.out (balloc _ _) | exact HKb.out.bl | exact bnextK HKa.out.bl (below_drew8 _ _) | exact HKa.out.bl); done)
      refine wpAnyH_take (i := 0) (oi := ⟨some 42, _, _, _, _, _⟩) (v := ?_) rfl (by kernel_rfl) (by kernel_rfl) (by kernel_rfl) (fun _ _ _ h => h) (Or.inl ⟨by rfl, ?_⟩) (by assumption) ?_; rotate_left
      · intro w hSw; (try dsimp only at hSw); go_simp; try with_reducible rfl
      try simp only [Act.put, setIfInBounds_toArray, set_cons_zero, set_cons_succ]
      refine wpAnyH_take (i := 1) (oi := ⟨some 43, _, _, _, _, _⟩) (v := ?_) rfl (by kernel_rfl) (by kernel_rfl) (by kernel_rfl) (fun _ _ _ h => h) (Or.inl ⟨by rfl, ?_⟩) (by assumption) ?_; rotate_left
      · intro w hSw; (try dsimp only at hSw); go_simp; try with_reducible rfl
      try simp only [Act.put, setIfInBounds_toArray, set_cons_zero, set_cons_succ]
      refine wpAnyH_take (i := 2) (oi := ⟨some 44, _, _, _, _, _⟩) (v := ?_) rfl (by kernel_rfl) (by kernel_rfl) (by kernel_rfl) (fun _ _ _ h => h) (Or.inl ⟨by rfl, ?_⟩) (by assumption) ?_; rotate_left
      · intro w hSw; (try dsimp only at hSw); go_simp; try with_reducible rfl
      try simp only [Act.put, setIfInBounds_toArray, set_cons_zero, set_cons_succ]
      refine wpAnyH_take (i := 3) (oi := ⟨some 45, _, _, _, _, _⟩) (v := ?_) rfl (by kernel_rfl) (by kernel_rfl) (by kernel_rfl) (fun _ _ _ h => h) (Or.inl ⟨by rfl, ?_⟩) (by assumption) ?_; rotate_left
      · intro w hSw; (try dsimp only at hSw); go_simp; try with_reducible rfl
      try simp only [Act.put, setIfInBounds_toArray, set_cons_zero, set_cons_succ]
      refine wpAnyH_take (i := 5) (oi := ⟨some 47, _, _, _, _, _⟩) (v := ?_) rfl (by kernel_rfl) (by kernel_rfl) (by kernel_rfl) (fun _ _ _ h => h) (Or.inl ⟨by rfl, ?_⟩) (by assumption) ?_; rotate_left
      · intro w hSw; (try dsimp only at hSw); go_simp; try with_reducible rfl
      try simp only [Act.put, setIfInBounds_toArray, set_cons_zero, set_cons_succ]
      refine wpAnyH_take (i := 6) (oi := ⟨some 48, _, _, _, _, _⟩) (v := ?_) rfl (by kernel_rfl) (by kernel_rfl) (by kernel_rfl) (fun _ _ _ h => h) (Or.inl ⟨by rfl, ?_⟩) (by assumption) ?_; rotate_left
      · intro w hSw; (try dsimp only at hSw); go_simp; try with_reducible rfl
      try simp only [Act.put, setIfInBounds_toArray, set_cons_zero, set_cons_succ]
      refine wpAnyH_take (i := 7) (oi := ⟨some 49, _, _, _, _, _⟩) (v := ?_) rfl (by kernel_rfl) (by kernel_rfl) (by kernel_rfl) (fun _ _ _ h => h) (Or.inl ⟨by rfl, ?_⟩) (by assumption) ?_; rotate_left
      · intro w hSw; (try dsimp only at hSw); go_simp; try with_reducible rfl
      try simp only [Act.put, setIfInBounds_toArray, set_cons_zero, set_cons_succ]
      refine wpAnyH_take (i := 8) (oi := ⟨some 50, _, _, _, _, _⟩) (v := ?_) rfl (by kernel_rfl) (by kernel_rfl) (by kernel_rfl) (fun _ _ _ h => h) (Or.inl ⟨by rfl, ?_⟩) (by assumption) ?_; rotate_left
      · intro w hSw; (try dsimp only at hSw); go_simp; try with_reducible rfl
      try simp only [Act.put, setIfInBounds_toArray, set_cons_zero, set_cons_succ]
      refine wpAnyH_ready (rs := [4, 9]) (by kernel_rfl) (by simp) ?_
      refine AllReadyH.cons (o := ⟨some 46, _, _, _, _, _⟩) rfl (fun K hK => ?_) ?_
      · skip
        have cyb := (HRB.out _ (below_drew8 _ _)).2
        go_simp
        refine hK.out _ _ ?_ (fun hHeld => ?_)
        · (try dsimp only); (refine (HSEC.out _ ?_); (first | exact HCb.out | exact HBb.out | exact bnextK HBb.out (balloc _ _) | exact HKb.out.bl | exact bnextK HKa.out.bl (below_drew8 _ _) | exact HKa.out.bl); done)
        clear hK K
        try simp only [Act.put, setIfInBounds_toArray, set_cons_zero, set_cons_succ]
        refine wpAnyH_ready (rs := [9]) (by kernel_rfl) (by simp) ?_
        refine AllReadyH.cons (o := ⟨some 51, _, _, _, _, _⟩) rfl (fun K hK => ?_) AllReadyH.nil
        go_simp
        refine (HCL.out _ (by (first | exact HCb.out | exact HBb.out | exact bnextK HBb.out (balloc _ _) | exact HKb.out.bl | exact bnextK HKa.out.bl (below_drew8 _ _) | exact HKa.out.bl))).mono ?_
        rintro e' wb1 ⟨⟨vb, rfl, hvb⟩, hbb⟩
        have HBDb : Hid (Below wb.heap.size wb wb1) := Lib.hid (Below.trans (below_drew8 wb _) (hbb.mono (Nat.le_refl _)))
        have HBb := Lib.hid (bnextK HKa.out.bl HBDb.out)
        have HVb := Lib.hid hvb
        have HJb := Lib.hid (HKa.out.far HBDb.out)
        obtain ⟨gb, kb, spb, rfl, _⟩ := hvb
        clear hbb
        go_wp2_with fail
        refine hK.out _ _ ?_ (fun hHeld => ?_)
        · (try dsimp only); (refine (HSEC.out _ ?_); (first | exact HCb.out | exact HBb.out | exact bnextK HBb.out (balloc _ _) | exact HKb.out.bl | exact bnextK HKa.out.bl (below_drew8 _ _) | exact HKa.out.bl); done)
        clear hK K
        try simp only [Act.put, setIfInBounds_toArray, set_cons_zero, set_cons_succ]
        refine wpAnyH_ready (rs := [10]) (by kernel_rfl) (by simp) ?_
        refine AllReadyH.cons (o := ⟨some 52, _, _, _, _, _⟩) rfl (fun K hK => ?_) AllReadyH.nil
        go_simp
        refine hK.out _ _ ?_ (fun hHeld => ?_)
        · (try dsimp only); (refine (HSEC.out _ ?_); (first | exact HCb.out | exact HBb.out | exact bnextK HBb.out (balloc _ _) | exact HKb.out.bl | exact bnextK HKa.out.bl (below_drew8 _ _) | exact HKa.out.bl); done)
        clear hK K
        try simp only [Act.put, setIfInBounds_toArray, set_cons_zero, set_cons_succ]
        refine wpAnyH_ready (rs := [11]) (by kernel_rfl) (by simp) ?_
        refine AllReadyH.cons (o := ⟨some 53, _, _, _, _, _⟩) rfl (fun K hK => ?_) AllReadyH.nil
        refine step_pushL8 elB_rs (.tmp 46) (.tmp 52) rfl rfl (w.heap.size + 1) i _ (by rfl) HJb.out.o1 (by rfl) (by rfl) (one_cell1 rfl) (by omega) (by decide) (by have := HJb.out.blk.lt; omega) ?_
        intro Vb wb2 hob _ hgb hlb
        have HCb : Hid (Below w.heap.size w wb2) := Lib.hid (HJb.out.bl.trans ((KeepL.grownV hgb).below HJb.out.bl.size (fun k q => by have := ob_ge HJb.out.o1 k q; omega)))
        have hJ2 := HJb.out.s1 HVb.out hob hgb hlb
        have HKb := Lib.hid hJ2
        have hbk := HJb.out.blk.keepL (KeepL.grownV hgb) (fun hm => by have := ob_ge HJb.out.o1 _ hm; omega)
        have cxb := hbk.cell 1
        have fxb := hbk.froz 1
        obtain ⟨AVb, cVb, rfl, _⟩ := own_form hob
        clear hJ2 hob hgb hlb hbk
        refine hK.out _ _ ?_ (fun hHeld => ?_)
        · (try dsimp only); (refine (HSEC.out _ ?_); (first | exact HCb.out | exact HBb.out | exact bnextK HBb.out (balloc _ _) | exact HKb.out.bl | exact bnextK HKa.out.bl (below_drew8 _ _) | exact HKa.out.bl); done)
        clear hK K
        try simp only [Act.put, setIfInBounds_toArray, set_cons_zero, set_cons_succ]
        refine wpAnyH_take (i := 12) (oi := ⟨some 54, _, _, _, _, _⟩) (v := ?_) rfl (by kernel_rfl) (by kernel_rfl) (by kernel_rfl) (fun _ _ _ h => h) (Or.inl ⟨by rfl, ?_⟩) (by assumption) ?_; rotate_left
        · intro w hSw; (try dsimp only at hSw); go_simp; try with_reducible rfl
        try simp only [Act.put, setIfInBounds_toArray, set_cons_zero, set_cons_succ]
        refine wpAnyH_take (i := 13) (oi := ⟨some 55, _, _, _, _, _⟩) (v := ?_) rfl (by kernel_rfl) (by kernel_rfl) (by kernel_rfl) (fun _ _ _ h => h) (Or.inl ⟨by rfl, ?_⟩) (by assumption) ?_; rotate_left
        · intro w hSw; (try dsimp only at hSw); go_simp; try with_reducible rfl
        try simp only [Act.put, setIfInBounds_toArray, set_cons_zero, set_cons_succ]
        refine wpAnyH_ready (rs := [14]) (by kernel_rfl) (by simp) ?_
        refine AllReadyH.cons (o := ⟨none, _, _, _, _, _⟩) rfl (fun K hK => ?_) AllReadyH.nil
        go_simp
        refine hK.out _ _ ?_ (fun hHeld => ?_)
        · (try dsimp only); (refine (HSEC.out _ ?_); (first | exact HCb.out | exact HBb.out | exact bnextK HBb.out (balloc _ _) | exact HKb.out.bl | exact bnextK HKa.out.bl (below_drew8 _ _) | exact HKa.out.bl); done)
        clear hK K
        try simp only [Act.put]
        refine wpAnyH_done (by kernel_rfl) ?_ _
        obtain ⟨wc, hwc⟩ : ∃ z : World, z = wb2.setCell ⟨w.heap.size, 1, none⟩ (.slice AVb (i + 1) cVb) := ⟨_, rfl⟩
        rw [← hwc] at HKb ⊢
        clear hwc
        have c2 := HKb.out.blk.cell 2
        have f2 := HKb.out.blk.froz 2
        go_wp2_with (at_builtin; refine wpList_pushL elB_ro (.tmp 60) (.tmp 61) rfl rfl (w.heap.size + 1) i _ (by rfl) HKb.out.o2 (by rfl) (by rfl) (one_cell1 rfl) (by omega) (by decide) (by have := HKb.out.blk.lt; omega) ?_; intro V9 w9 ho9 _ hg9 hl9; have HK9 := Lib.hid (HKb.out.s2 ho9 hg9); have hbk9 := HKb.out.blk.keepL (KeepL.grownV hg9) (fun hm => by have := ob_ge HKb.out.o2 _ hm; omega); have cx9 := hbk9.cell 2; have fx9 := hbk9.froz 2; obtain ⟨AV9, cV9, rfl, _⟩ := own_form ho9; clear ho9 hg9 hl9 hbk9)
        go_roundw
        case rel => exact ⟨i + 1, _, _, _, _, _, by omega, by go_num, HK9.out⟩
        case measure => simp [intOf]; omega
      refine AllReadyH.cons (o := ⟨some 51, _, _, _, _, _⟩) rfl (fun K hK => ?_) AllReadyH.nil
      go_simp
      refine (HCL.out _ (by (first | exact HCb.out | exact HBb.out | exact bnextK HBb.out (balloc _ _) | exact HKb.out.bl | exact bnextK HKa.out.bl (below_drew8 _ _) | exact HKa.out.bl))).mono ?_
      rintro e' wb1 ⟨⟨vb, rfl, hvb⟩, hbb⟩
      have HBDb : Hid (Below wb.heap.size wb wb1) := Lib.hid (Below.trans (below_drew8 wb _) (hbb.mono (Nat.le_refl _)))
      have HBb := Lib.hid (bnextK HKa.out.bl HBDb.out)
      have HVb := Lib.hid hvb
      have HJb := Lib.hid (HKa.out.far HBDb.out)
      obtain ⟨gb, kb, spb, rfl, _⟩ := hvb
      clear hbb
      go_wp2_with fail
      refine hK.out _ _ ?_ (fun hHeld => ?_)
      · (try dsimp only); (refine (HSEC.out _ ?_); (first | exact HCb.out | exact HBb.out | exact bnextK HBb.out (balloc _ _) | exact HKb.out.bl | exact bnextK HKa.out.bl (below_drew8 _ _) | exact HKa.out.bl); done)
      clear hK K
      try simp only [Act.put, setIfInBounds_toArray, set_cons_zero, set_cons_succ]
      refine wpAnyH_ready (rs := [4, 10]) (by kernel_rfl) (by simp) ?_
      refine AllReadyH.cons (o := ⟨some 46, _, _, _, _, _⟩) rfl (fun K hK => ?_) ?_
      · skip
        have cyb := (HRB.out _ HBDb.out).2
        go_simp
        refine hK.out _ _ ?_ (fun hHeld => ?_)
        · (try dsimp only); (refine (HSEC.out _ ?_); (first | exact HCb.out | exact HBb.out | exact bnextK HBb.out (balloc _ _) | exact HKb.out.bl | exact bnextK HKa.out.bl (below_drew8 _ _) | exact HKa.out.bl); done)
        clear hK K
        try simp only [Act.put, setIfInBounds_toArray, set_cons_zero, set_cons_succ]
        refine wpAnyH_ready (rs := [10]) (by kernel_rfl) (by simp) ?_
        refine AllReadyH.cons (o := ⟨some 52, _, _, _, _, _⟩) rfl (fun K hK => ?_) AllReadyH.nil
        go_simp
        refine hK.out _ _ ?_ (fun hHeld => ?_)
        · (try dsimp only); (refine (HSEC.out _ ?_); (first | exact HCb.out | exact HBb.out | exact bnextK HBb.out (balloc _ _) | exact HKb.out.bl | exact bnextK HKa.out.bl (below_drew8 _ _) | exact HKa.out.bl); done)
        clear hK K
        try simp only [Act.put, setIfInBounds_toArray, set_cons_zero, set_cons_succ]
        refine wpAnyH_ready (rs := [11]) (by kernel_rfl) (by simp) ?_
        refine AllReadyH.cons (o := ⟨some 53, _, _, _, _, _⟩) rfl (fun K hK => ?_) AllReadyH.nil
        refine step_pushL8 elB_rs (.tmp 46) (.tmp 52) rfl rfl (w.heap.size + 1) i _ (by rfl) HJb.out.o1 (by rfl) (by rfl) (one_cell1 rfl) (by omega) (by decide) (by have := HJb.out.blk.lt; omega) ?_
        intro Vb wb2 hob _ hgb hlb
        have HCb : Hid (Below w.heap.size w wb2) := Lib.hid (HJb.out.bl.trans ((KeepL.grownV hgb).below HJb.out.bl.size (fun k q => by have := ob_ge HJb.out.o1 k q; omega)))
        have hJ2 := HJb.out.s1 HVb.out hob hgb hlb
        have HKb := Lib.hid hJ2
        have hbk := HJb.out.blk.keepL (KeepL.grownV hgb) (fun hm => by have := ob_ge HJb.out.o1 _ hm; omega)
        have cxb := hbk.cell 1
        have fxb := hbk.froz 1
        obtain ⟨AVb, cVb, rfl, _⟩ := own_form hob
        clear hJ2 hob hgb hlb hbk
        refine hK.out _ _ ?_ (fun hHeld => ?_)
        · (try dsimp only); (refine (HSEC.out _ ?_); (first | exact HCb.out | exact HBb.out | exact bnextK HBb.out (balloc _ _) | exact HKb.out.bl | exact bnextK HKa.out.bl (below_drew8 _ _) | exact HKa.out.bl); done)
        clear hK K
        try simp only [Act.put, setIfInBounds_toArray, set_cons_zero, set_cons_succ]
        refine wpAnyH_take (i := 12) (oi := ⟨some 54, _, _, _, _, _⟩) (v := ?_) rfl (by kernel_rfl) (by kernel_rfl) (by kernel_rfl) (fun _ _ _ h => h) (Or.inl ⟨by rfl, ?_⟩) (by assumption) ?_; rotate_left
        · intro w hSw; (try dsimp only at hSw); go_simp; try with_reducible rfl
        try simp only [Act.put, setIfInBounds_toArray, set_cons_zero, set_cons_succ]
        refine wpAnyH_take (i := 13) (oi := ⟨some 55, _, _, _, _, _⟩) (v := ?_) rfl (by kernel_rfl) (by kernel_rfl) (by kernel_rfl) (fun _ _ _ h => h) (Or.inl ⟨by rfl, ?_⟩) (by assumption) ?_; rotate_left
        · intro w hSw; (try dsimp only at hSw); go_simp; try with_reducible rfl
        try simp only [Act.put, setIfInBounds_toArray, set_cons_zero, set_cons_succ]
        refine wpAnyH_ready (rs := [14]) (by kernel_rfl) (by simp) ?_
        refine AllReadyH.cons (o := ⟨none, _, _, _, _, _⟩) rfl (fun K hK => ?_) AllReadyH.nil
        go_simp
        refine hK.out _ _ ?_ (fun hHeld => ?_)
        · (try dsimp only); (refine (HSEC.out _ ?_); (first | exact HCb.out | exact HBb.out | exact bnextK HBb.out (balloc _ _) | exact HKb.out.bl | exact bnextK HKa.out.bl (below_drew8 _ _) | exact HKa.out.bl); done)
        clear hK K
        try simp only [Act.put]
        refine wpAnyH_done (by kernel_rfl) ?_ _
        obtain ⟨wc, hwc⟩ : ∃ z : World, z = wb2.setCell ⟨w.heap.size, 1, none⟩ (.slice AVb (i + 1) cVb) := ⟨_, rfl⟩
        rw [← hwc] at HKb ⊢
        clear hwc
        have c2 := HKb.out.blk.cell 2
        have f2 := HKb.out.blk.froz 2
        go_wp2_with (at_builtin; refine wpList_pushL elB_ro (.tmp 60) (.tmp 61) rfl rfl (w.heap.size + 1) i _ (by rfl) HKb.out.o2 (by rfl) (by rfl) (one_cell1 rfl) (by omega) (by decide) (by have := HKb.out.blk.lt; omega) ?_; intro V9 w9 ho9 _ hg9 hl9; have HK9 := Lib.hid (HKb.out.s2 ho9 hg9); have hbk9 := HKb.out.blk.keepL (KeepL.grownV hg9) (fun hm => by have := ob_ge HKb.out.o2 _ hm; omega); have cx9 := hbk9.cell 2; have fx9 := hbk9.froz 2; obtain ⟨AV9, cV9, rfl, _⟩ := own_form ho9; clear ho9 hg9 hl9 hbk9)
        go_roundw
        case rel => exact ⟨i + 1, _, _, _, _, _, by omega, by go_num, HK9.out⟩
        case measure => simp [intOf]; omega
      refine AllReadyH.cons (o := ⟨some 52, _, _, _, _, _⟩) rfl (fun K hK => ?_) AllReadyH.nil
      go_simp
      refine hK.out _ _ ?_ (fun hHeld => ?_)
      · (try dsimp only); (refine (HSEC.out _ ?_); (first | exact HCb.out | exact HBb.out | exact bnextK HBb.out (balloc _ _) | exact HKb.out.bl | exact bnextK HKa.out.bl (below_drew8 _ _) | exact HKa.out.bl); done)
      clear hK K
      try simp only [Act.put, setIfInBounds_toArray, set_cons_zero, set_cons_succ]
      refine wpAnyH_ready (rs := [4]) (by kernel_rfl) (by simp) ?_
      refine AllReadyH.cons (o := ⟨some 46, _, _, _, _, _⟩) rfl (fun K hK => ?_) AllReadyH.nil
      have cyb : ∀ o, (wb1.alloc o).cell? ⟨w.heap.size, 1, none⟩ = some V1 := fun o => (HRB.out _ (bnextK HBDb.out (balloc _ _))).2
      go_simp
      refine hK.out _ _ ?_ (fun hHeld => ?_)
      · (try dsimp only); (refine (HSEC.out _ ?_); (first | exact HCb.out | exact HBb.out | exact bnextK HBb.out (balloc _ _) | exact HKb.out.bl | exact bnextK HKa.out.bl (below_drew8 _ _) | exact HKa.out.bl); done)
      clear hK K
      try simp only [Act.put, setIfInBounds_toArray, set_cons_zero, set_cons_succ]
      refine wpAnyH_ready (rs := [11]) (by kernel_rfl) (by simp) ?_
      refine AllReadyH.cons (o := ⟨some 53, _, _, _, _, _⟩) rfl (fun K hK => ?_) AllReadyH.nil
      refine step_pushL8 elB_rs (.tmp 46) (.tmp 52) rfl rfl (w.heap.size + 1) i _ (by rfl) HJb.out.o1 (by rfl) (by rfl) (one_cell1 rfl) (by omega) (by decide) (by have := HJb.out.blk.lt; omega) ?_
      intro Vb wb2 hob _ hgb hlb
      have HCb : Hid (Below w.heap.size w wb2) := Lib.hid (HJb.out.bl.trans ((KeepL.grownV hgb).below HJb.out.bl.size (fun k q => by have := ob_ge HJb.out.o1 k q; omega)))
      have hJ2 := HJb.out.s1 HVb.out hob hgb hlb
      have HKb := Lib.hid hJ2
      have hbk := HJb.out.blk.keepL (KeepL.grownV hgb) (fun hm => by have := ob_ge HJb.out.o1 _ hm; omega)
      have cxb := hbk.cell 1
      have fxb := hbk.froz 1
      obtain ⟨AVb, cVb, rfl, _⟩ := own_form hob
      clear hJ2 hob hgb hlb hbk
      refine hK.out _ _ ?_ (fun hHeld => ?_)
      · (try dsimp only); (refine (HSEC.out _ ?_); (first | exact HCb.out | exact HBb.out | exact bnextK HBb.out (balloc _ _) | exact HKb.out.bl | exact bnextK HKa.out.bl (below_drew8 _ _) | exact HKa.out.bl); done)
      clear hK K
      try simp only [Act.put, setIfInBounds_toArray, set_cons_zero, set_cons_succ]
      refine wpAnyH_take (i := 12) (oi := ⟨some 54, _, _, _, _, _⟩) (v := ?_) rfl (by kernel_rfl) (by kernel_rfl) (by kernel_rfl) (fun _ _ _ h => h) (Or.inl ⟨by rfl, ?_⟩) (by assumption) ?_; rotate_left
      · intro w hSw; (try dsimp only at hSw); go_simp; try with_reducible rfl
      try simp only [Act.put, setIfInBounds_toArray, set_cons_zero, set_cons_succ]
      refine wpAnyH_take (i := 13) (oi := ⟨some 55, _, _, _, _, _⟩) (v := ?_) rfl (by kernel_rfl) (by kernel_rfl) (by kernel_rfl) (fun _ _ _ h => h) (Or.inl ⟨by rfl, ?_⟩) (by assumption) ?_; rotate_left
      · intro w hSw; (try dsimp only at hSw); go_simp; try with_reducible rfl
      try simp only [Act.put, setIfInBounds_toArray, set_cons_zero, set_cons_succ]
      refine wpAnyH_ready (rs := [14]) (by kernel_rfl) (by simp) ?_
      refine AllReadyH.cons (o := ⟨none, _, _, _, _, _⟩) rfl (fun K hK => ?_) AllReadyH.nil
      go_simp
      refine hK.out _ _ ?_ (fun hHeld => ?_)
      · (try dsimp only); (refine (HSEC.out _ ?_); (first | exact HCb.out | exact HBb.out | exact bnextK HBb.out (balloc _ _) | exact HKb.out.bl | exact bnextK HKa.out.bl (below_drew8 _ _) | exact HKa.out.bl); done)
      clear hK K
      try simp only [Act.put]
      refine wpAnyH_done (by kernel_rfl) ?_ _
      obtain ⟨wc, hwc⟩ : ∃ z : World, z = wb2.setCell ⟨w.heap.size, 1, none⟩ (.slice AVb (i + 1) cVb) := ⟨_, rfl⟩
      rw [← hwc] at HKb ⊢
      clear hwc
      have c2 := HKb.out.blk.cell 2
      have f2 := HKb.out.blk.froz 2
      go_wp2_with (at_builtin; refine wpList_pushL elB_ro (.tmp 60) (.tmp 61) rfl rfl (w.heap.size + 1) i _ (by rfl) HKb.out.o2 (by rfl) (by rfl) (one_cell1 rfl) (by omega) (by decide) (by have := HKb.out.blk.lt; omega) ?_; intro V9 w9 ho9 _ hg9 hl9; have HK9 := Lib.hid (HKb.out.s2 ho9 hg9); have hbk9 := HKb.out.blk.keepL (KeepL.grownV hg9) (fun hm => by have := ob_ge HKb.out.o2 _ hm; omega); have cx9 := hbk9.cell 2; have fx9 := hbk9.froz 2; obtain ⟨AV9, cV9, rfl, _⟩ := own_form ho9; clear ho9 hg9 hl9 hbk9)
      go_roundw
      case rel => exact ⟨i + 1, _, _, _, _, _, by omega, by go_num, HK9.out⟩
      case measure => simp [intOf]; omega
      -- REGION>
    · have hni : i = n := by omega
      subst hni
      have hii : ¬ (i : Int) < (i : Int) := by omega
      clear hI
      go_wp2_with fail
      refine bodyPost_ret (a := Act.mk _ _) (results_tmp2 rfl _ _ _) rfl ?_
      obtain ⟨bn, bk, bf, cn, ck, cf, q1, q2⟩ := HI.out.fin h2 h256
      exact ⟨⟨_, bn, bk, bf, cn, ck, cf, rfl, q1, q2⟩, HI.out.bl⟩
set_option maxRecDepth 100000 in
set_option maxHeartbeats 2000000 in
theorem rnewDisk_ok {n : Nat} (w : World) (h2 : 2 ≤ n) (h256 : n ≤ 256) : Calls Tryz.prog 11 #[.int .i64 (n : Int)] w (RdNew n w) := by
  have d1 : decide ((n : Int) < 2) = false := decide_eq_false (by omega)
  have d2 : decide ((256 : Int) < (n : Int)) = false := decide_eq_false (by omega)
  obtain ⟨j0, hj0, hz0, hz1, hz2⟩ := info_parts infoB8
  have HJ0 := Lib.hid hj0; have HZ0 := Lib.hid hz0; have HZ1 := Lib.hid hz1; have HZ2 := Lib.hid hz2
  clear hj0 hz0 hz1 hz2
  go_enter Tryz.func11, Tryz.ntmps11
  go_wp2_with fail
  go_loopw [4, 5] (fun v4 v5 wr => ∃ (i : Nat) (vs : List Value), i ≤ n ∧ v5 = .int .i64 (i : Nat) ∧ wr.ownsRow w.heap.size 31 1 v4 i vs ∧ (∀ v ∈ vs, BrV wr zeroSec v) ∧ Below w.heap.size w wr) (fun _ v5 _ => n - (intOf v5).toNat)
  case atStart => exact ⟨0, [], Nat.zero_le _, rfl, World.ownsRow_nil _ _ _ _, by simp, Below.refl _ _⟩
  case round =>
    obtain ⟨i, vs, hi, rfl, ho, hv, hb⟩ := hrel
    obtain ⟨wa, rfl⟩ : ∃ z : World, z = wr := ⟨_, rfl⟩
    have HO := Lib.hid ho; have HV := Lib.hid hv; have HB := Lib.hid hb
    clear ho hv hb
    by_cases hlt : i < n
    · have hii : (i : Int) < (n : Int) := by omega
      go_wp2_with (first
        | (refine wpList_make_full wa rfl _ _ 31 rfl wa.heap.size 5 j0 _ 1 Tryz.underlying31 HJ0.out HZ0.out HZ1.out .i64 .i64 _ _ 64 rfl rfl rfl rfl (by rw [HZ2.out]; decide) (by decide) (Nat.le_refl _) ?_; intro w1 hown1 hg1; have hv1 : BrV w1 zeroSec (.slice (some ⟨wa.heap.size, 0, none⟩) 64 64) := own_br (s := zeroSec) (by rw [madeZ] at hown1; exact hown1); have HB1 := Lib.hid (bgrown hg1); have HV1 := Lib.hid hv1; clear hown1 hg1 hv1)
        | (at_builtin; refine wpList_pushL elB_rs (.tmp 17) (.tmp 19) rfl rfl w.heap.size i _ (by rfl) (ownsRow_below HO.out HB1.out (Nat.le_refl _)) (by rfl) (by rfl) (one_cell1 rfl) (by omega) (by decide) (Nat.le_trans HB.out.size HB1.out.size) ?_; intro V9 w9 ho9 hb9 hg9 _; have HO9 := Lib.hid ho9; have HB9 := Lib.hid ((bnextK HB.out HB1.out).trans hb9); have HK9 := Lib.hid (KeepL.grownV hg9); clear ho9 hb9 hg9))
      go_roundw
      case rel => exact ⟨i + 1, _, by omega, by go_num, HO9.out, fun v hv => by
        have ho1 := ownsRow_below HO.out HB1.out (Nat.le_refl _)
        rcases List.mem_append.1 hv with hv | hv
        · exact ((HV.out v hv).far HB1.out).keepL HK9.out (brv_ob ho1 (by decide))
        · rw [List.mem_singleton] at hv; subst hv
          exact HV1.out.keepL HK9.out (brv_ob ho1 (by decide)), HB9.out⟩
      case measure => simp [intOf]; omega
    · have hni : i = n := by omega
      subst hni
      have hii : ¬ (i : Int) < (i : Int) := by omega
      obtain ⟨A, c, rfl, hc⟩ := own_form HO.out
      go_wp2_with fail
      refine (diskOf_any wa A c vs h2 h256 (Rd.own HO.out) HV.out).mono ?_
      rintro e w1 ⟨⟨R, bn, bk, bf, cn, ck, cf, rfl, q1, q2⟩, q3⟩
      have HR : Hid (RdNew i w (.returned (.tuple #[.pointer (some ⟨R, 0, none⟩), .int .i64 0])) w1) := Lib.hid ⟨⟨R, bn, bk, bf, cn, ck, cf, rfl, q1, fun k hk => Nat.le_trans HB.out.size (q2 k hk)⟩, bnextK HB.out q3⟩
      clear q1 q2 q3
      go_wp2_with fail
      refine bodyPost_ret (a := Act.mk _ _) (results_tmp2 rfl _ _ _) rfl ?_
      exact HR.out
theorem rnewDisk_no (n : Int) (w : World) (h : n < 2 ∨ 256 < n) : Calls Tryz.prog 11 #[.int .i64 n] w (fun e w' => e = .returned (.tuple #[.pointer none, .int .i64 3]) ∧ w = w') := by
  by_cases h1 : n < 2
  · have hb1 : decide (n < 2) = true := decide_eq_true h1
    go_enter Tryz.func11, Tryz.ntmps11
    go_wp2_with fail
    refine bodyPost_ret (a := Act.mk _ _) (results_tmp2 rfl _ _ _) rfl ?_
    exact ⟨rfl, rfl⟩
  · have hb1 : decide (n < 2) = false := decide_eq_false h1
    have hb2 : decide (256 < n) = true := decide_eq_true (by omega)
    go_enter Tryz.func11, Tryz.ntmps11
    go_wp2_with fail
    refine bodyPost_ret (a := Act.mk _ _) (results_tmp2 rfl _ _ _) rfl ?_
    exact ⟨rfl, rfl⟩
end
end Go.Proofs.YtdgmjedkhjeadaaGreat
namespace Go.Proofs.YtdgmjedkhjeadaaGreat
open List (setIfInBounds_toArray set_cons_zero set_cons_succ)
open Go.RowKit
set_option linter.unusedVariables false
set_option linter.unusedSimpArgs false
theorem mod8_any (a : Int) (h : -9223372036854775808 ≤ a ∧ a ≤ 9223372036854775807) (w : World) : Calls Tryz.prog 12 #[.int .i64 a, .int .i64 8] w fun e w' => (∃ z : Int, z = a % 8 ∧ e = .returned (.int .i64 z)) ∧ w = w' := by
  obtain ⟨t, ht⟩ : ∃ t : Int, t = Int.tmod a 8 := ⟨_, rfl⟩
  have h1 : -8 < t ∧ t < 8 := by
    rw [ht]
    exact ⟨Int.lt_tmod_of_pos a (by decide), Int.tmod_lt_of_pos a (by decide)⟩
  have h2 : (t + 8) % 8 = a % 8 := by
    have h3 := Int.mul_tdiv_add_tmod a 8
    rw [← ht] at h3
    omega
  have h4 : Int.tmod (t + 8) 8 = a % 8 := by
    rw [Int.tmod_eq_emod_of_nonneg (by omega), h2]
  have h5 : wrap64 (t + 8) = t + 8 := by unfold wrap64; omega
  have h6 : wrap64 t = t := by unfold wrap64; omega
  have h7 : wrap64 (a % 8) = a % 8 := by unfold wrap64; omega
  obtain ⟨z, hz⟩ : ∃ z : Int, z = a % 8 := ⟨_, rfl⟩
  rw [← hz] at h4 h7
  have HZ := Lib.hid hz
  have ht' := ht.symm
  clear h1 h2 ht hz
  go_enter Tryz.func12, Tryz.ntmps12
  go_wp2_with fail
  go_ret
  exact ⟨⟨z, HZ.out, rfl⟩, rfl⟩
theorem conv8 {w : World} {B n : Nat} {A : Option Addr} (c : Nat) (l : List UInt8) (h : Rd w B 1 A n (Lib.byteCells l)) : (convert 31 9 (.slice A n c)).run Tryz.prog w = .ok (.string ⟨l.toArray⟩) w := by
  have hl : l.length = n := by have := h.1; simpa [Lib.byteCells] using this
  subst hl
  cases A with
  | some a =>
    refine run_convert_bytes_back w _ _ _ a c l Tryz.underlying31 Tryz.underlying5 Tryz.underlying9 fun j hj => ?_
    obtain ⟨b, off, hA, _, hc⟩ := h.2 (by omega)
    cases hA
    rw [addr_add]
    exact hc j _ (by simp [Lib.byteCells, hj])
  | none =>
    have h0 : l = [] := by
      cases l with
      | nil => rfl
      | cons x l => obtain ⟨b, off, hA, _⟩ := h.2 (by simp); cases hA
    subst h0
    rw [run_convert_bytes_string w _ _ _ _ _ _ Tryz.underlying31 Tryz.underlying5 Tryz.underlying9]
    simp [Conv.bytesToString]
    rfl
theorem u8_cells {l : List Nat} (h : ∀ x ∈ l, x < 256) : l.map (fun x : Nat => Value.int .u8 x) = Lib.byteCells (l.map UInt8.ofNat) := by
  unfold Lib.byteCells
  rw [List.map_map]
  apply List.map_congr_left
  intro x hx
  have := h x hx
  simp [Nat.mod_eq_of_lt this]
theorem same8_yes {w : World} {B B' n m : Nat} {A A' : Option Addr} (c c' : Nat) {l : List Nat} (hl : ∀ x ∈ l, x < 256) (h : Rd w B 1 A n (l.map fun x : Nat => Value.int .u8 x)) (h' : Rd w B' 1 A' m (l.map fun x : Nat => Value.int .u8 x)) :
    Calls Tryz.prog 51 #[.slice A n c, .slice A' m c'] w fun e w' => e = .returned (.bool true) ∧ w = w' := by
  rw [u8_cells hl] at h h'
  have h1 := conv8 c _ h
  have h2 := conv8 c' _ h'
  generalize l.map UInt8.ofNat = q at *
  clear h h' hl
  go_enter Tryz.func51, Tryz.ntmps51
  go_wp2
  go_ret
  refine ⟨ret_bool ?_, rfl⟩
  simp
/-- What a read answers: an error and the bytes. -/
def rdL (z : Int) (s : Sec) : List Nat := if z = 0 then s else []
def VP (z : Int) (L : List Nat) (w : World) (e : Ending) (w' : World) : Prop := (∃ A n c, e = .returned (.tuple #[.slice A n c, .int .i64 z]) ∧ Rd w' w'.heap.size 1 A n (L.map fun x : Nat => Value.int .u8 x)) ∧ Below w.heap.size w w'
theorem RdP.val {z : Int} {s : Sec} {w w' : World} {e : Ending} (h : RdP z s w e w') (hs : s.length = 64) : VP z (rdL z s) w e w' := by
  obtain ⟨h1, h2, h3⟩ := h
  refine ⟨?_, h3⟩
  unfold rdL
  by_cases hz : z = 0
  · obtain ⟨g, q1, q2, _⟩ := h1 hz
    rw [if_pos hz]
    subst hz
    refine ⟨_, _, _, q1, by rw [List.length_map, hs], fun _ => ⟨g, 0, rfl, q2.lt, fun i u hu => ?_⟩⟩
    rw [Nat.zero_add, q2.cell]
    simpa [secC] using hu
  · rw [if_neg hz]
    exact ⟨_, _, _, h2 hz, Rd.nil _ _ _ _⟩
theorem RdR.val {z : Int} {s : Sec} {w w' : World} {e : Ending} (h : RdR z s w e w') (hs : z = 0 → SecOK s) : VP z (rdL z s) w e w' := by
  obtain ⟨h1, h2, h3⟩ := h
  refine ⟨?_, h3⟩
  unfold rdL
  by_cases hz : z = 0
  · obtain ⟨v, q1, q2⟩ := h1 hz
    obtain ⟨g, c, rfl, _, _, q3⟩ := q2.rd (hs hz)
    rw [if_pos hz]
    subst hz
    exact ⟨_, _, _, q1, q3⟩
  · rw [if_neg hz]
    exact ⟨_, _, _, h2 hz, Rd.nil _ _ _ _⟩
theorem durZ_hi {d : Dk} (ho : DkOK d) (i : Int) (h : d.durZ i = 0) : SecOK (d.dur.getD i.toNat []) := by
  unfold Dk.durZ at h
  split at h
  · rename_i hb
    obtain ⟨k, rfl, hk⟩ := hasB_nat hb
    rw [Int.toNat_natCast]
    exact ho.dur _ (by rw [List.getD_eq_getElem?_getD, List.getElem?_eq_getElem hk]; exact List.getElem_mem hk)
  · cases h
section
variable {w w' : World} {D : Nat} {d : Dk} {bs bm cp : Nat} {p : Option Addr} {R bn bk bf cn ck cf : Nat} {d2 : Dk}
theorem readZ_hi (h : DkAt w D d bs bm cp p) (i : Int) (hz : d.readZ i = 0) : SecOK (d.newest i.toNat) := by
  unfold Dk.readZ at hz
  split at hz
  · cases hz
  · split at hz
    · rename_i hb
      obtain ⟨k, rfl, hk⟩ := hasB_nat hb
      rw [Int.toNat_natCast]
      exact h.newOK hk
    · cases hz
theorem VP.no {z : Int} {s : Sec} {e : Ending} (h : VP z (rdL z []) w e w') (hz : z ≠ 0) : VP z (rdL z s) w e w' := by unfold rdL at h ⊢; rwa [if_neg hz] at h ⊢
theorem RdP.val' {z : Int} {s : Sec} {e : Ending} (h : RdP z s w e w') (hs : z = 0 → SecOK s) : VP z (rdL z s) w e w' := by
  by_cases hz : z = 0
  · exact h.val (hs hz).1
  · refine ⟨⟨none, 0, 0, h.2.1 hz, ?_⟩, h.2.2⟩
    unfold rdL
    rw [if_neg hz]
    exact Rd.nil _ _ _ _
theorem vdur (h : DkAt w D d bs bm cp p) (i : Int) : Calls Tryz.prog 52 #[.pointer (some ⟨D, 0, none⟩), .int .i64 i] w (VP (d.durZ i) (rdL (d.durZ i) (d.dur.getD i.toNat [])) w) :=
  (durable_any h i).mono fun e w' q => q.val' (durZ_hi h.ok i)
theorem vread (h : DkAt w D d bs bm cp p) (i : Int) : Calls Tryz.prog 49 #[.pointer (some ⟨D, 0, none⟩), .int .i64 i] w (VP (d.readZ i) (rdL (d.readZ i) (d.newest i.toNat)) w) :=
  (read_any h i).mono fun e w' q => q.val' (readZ_hi h i)
theorem vrdur (h : RdAt w R d bn bk bf cn ck cf) (i : Int) : Calls Tryz.prog 53 #[.pointer (some ⟨R, 0, none⟩), .int .i64 i] w (VP (d.durZ i) (rdL (d.durZ i) (d.dur.getD i.toNat [])) w) :=
  (rdurable_any h i).mono fun e w' q => q.val (durZ_hi h.1 i)
theorem vrread (h : RdAt w R d bn bk bf cn ck cf) (i : Int) (hz : d.readZ i = 0 → SecOK (d.newest i.toNat)) : Calls Tryz.prog 50 #[.pointer (some ⟨R, 0, none⟩), .int .i64 i] w (VP (d.readZ i) (rdL (d.readZ i) (d.newest i.toNat)) w) :=
  (rread_any h i).mono fun e w' q => q.val hz
/-- The disk stays when the definition's is changed. -/
theorem DkAt.keepR (h : DkAt w D d bs bm cp p) (hr : RdAt w R d2 bn bk bf cn ck cf) (hk : KeepL (fpR R bn bk bf) w w') : DkAt w' D d bs bm cp p := by
  obtain ⟨h0, r, kv, h1, h2⟩ := hr
  obtain ⟨vs, sp, q1, _⟩ := h2.new
  obtain ⟨vs', sp', q2, _⟩ := h2.kept
  obtain ⟨sp'', q3⟩ := h2.fr
  have hn : ∀ {g : Nat} {C : Array Value} {t : TypeId}, Bk w g C t → t ≠ 110 → t ≠ 31 → t ≠ 4 → g ∉ fpR R bn bk bf := fun hg t1 t2 t3 hm => by
    simp only [fpR, List.mem_cons, List.not_mem_nil, or_false] at hm
    rcases hm with hm | hm | hm | hm
    · exact hg.ne h2.blk t1 hm
    · exact hg.ne q1 t2 hm
    · exact hg.ne q2 t2 hm
    · exact hg.ne q3 t3 hm
  obtain ⟨sd, hs⟩ := h.dur
  obtain ⟨l, hl⟩ := h.cch
  have hm : bm ∉ fpR R bn bk bf := fun hm => by
    simp only [fpR, List.mem_cons, List.not_mem_nil, or_false] at hm
    rcases hm with hm | hm | hm | hm
    · exact h2.blk.nemap hl hm.symm
    · exact q1.nemap hl hm.symm
    · exact q2.nemap hl hm.symm
    · exact q3.nemap hl hm.symm
  refine ⟨h.ok, h.blk.keepL hk (hn h.blk (by decide) (by decide) (by decide)), ⟨sd, hs.keepL hk (hn hs (by decide) (by decide) (by decide))⟩, ⟨l, hl.keep (hk.block _ hl.lt hm)⟩, h.plan.keepL hk (fun a ha => ?_) (fun g C hg => hn hg (by decide) (by decide) (by decide))⟩
  obtain ⟨cs, hc⟩ := h.plan.bt a ha
  exact hn hc (by decide) (by decide) (by decide)
/-- The definition's disk stays when the disk is changed. -/
theorem RdAt.keepD (h : RdAt w R d2 bn bk bf cn ck cf) (hd : DkAt w D d bs bm cp p) (hk : KeepL (fpL D bs bm p) w w') : RdAt w' R d2 bn bk bf cn ck cf := by
  obtain ⟨h0, r, kv, h1, h2⟩ := h
  obtain ⟨sd, hs⟩ := hd.dur
  obtain ⟨l, hl⟩ := hd.cch
  have hn : ∀ {t : TypeId}, t ≠ 96 → t ≠ 101 → t ≠ 103 → ∀ g C, Bk w g C t → g ∉ fpL D bs bm p := fun t1 t2 t3 g C hg hm => by
    unfold fpL at hm
    simp only [List.mem_cons] at hm
    rcases hm with hm | hm | hm | hm
    · exact hg.ne hd.blk t1 hm
    · exact hg.ne hs t2 hm
    · exact hg.nemap hl hm
    · cases hp : p with
      | none => rw [hp] at hm; simp at hm
      | some a =>
        rw [hp] at hm
        simp only [List.mem_singleton] at hm
        obtain ⟨cs, hc⟩ := hd.plan.bt a hp
        exact hg.ne hc t3 hm
  exact ⟨h0, r, kv, h1, h2.keepL hk (hn (by decide) (by decide) (by decide)) (hn (by decide) (by decide) (by decide)) (hn (by decide) (by decide) (by decide)) (hn (by decide) (by decide) (by decide)) (hn (by decide) (by decide) (by decide))⟩
end
end Go.Proofs.YtdgmjedkhjeadaaGreat
namespace Go.Proofs.YtdgmjedkhjeadaaGreat
open List (setIfInBounds_toArray set_cons_zero set_cons_succ)
open Go.RowKit
set_option linter.unusedVariables false
set_option linter.unusedSimpArgs false
def AllP (x : Nat) (w : World) (e : Ending) (w' : World) : Prop := (∃ g, e = .returned (.slice (some ⟨g, 0, none⟩) 64 64) ∧ w.heap.size ≤ g ∧ Rd w' w'.heap.size 1 (some ⟨g, 0, none⟩) 64 ((List.replicate 64 x).map fun x : Nat => Value.int .u8 x)) ∧ Below w.heap.size w w'
set_option maxRecDepth 100000 in
theorem all8_any (n : Int) (w : World) : Calls Tryz.prog 15 #[.int .i64 n] w (AllP (n % 256).toNat w) := by
  obtain ⟨j0, hj0, hz0, hz1, hz2⟩ := info_parts infoB8
  have HJ0 := Lib.hid hj0; have HZ0 := Lib.hid hz0; have HZ1 := Lib.hid hz1; have HZ2 := Lib.hid hz2
  clear hj0 hz0 hz1 hz2
  go_enter Tryz.func15, Tryz.ntmps15
  go_wp2_with (refine wpList_make_full w rfl _ _ 31 rfl w.heap.size 5 j0 _ 1 Tryz.underlying31 HJ0.out HZ0.out HZ1.out .i64 .i64 _ _ 64 rfl rfl rfl rfl (by rw [HZ2.out]; decide) (by decide) (Nat.le_refl _) ?_; intro w1 hown1 hg1; have HB1 := Lib.hid (bgrown hg1); rw [madeZ] at hown1; have HO1 := Lib.hid (own_whole hown1).1; clear hown1 hg1)
  go_loopw [4] (fun v4 wr => ∃ i m : Nat, i + m = 64 ∧ v4 = .int .i64 (i : Nat) ∧ wr.heap[w.heap.size]? = some (.cells (List.replicate i (Value.int .u8 (n % 256)) ++ List.replicate m (Value.int .u8 0)).toArray 5 (0, 0)) ∧ Below w.heap.size w wr) (fun v4 _ => 64 - (intOf v4).toNat)
  case atStart => exact ⟨0, 64, rfl, rfl, HO1.out, HB1.out⟩
  case round =>
    obtain ⟨i, m, him, rfl, hh, hb⟩ := hrel
    obtain ⟨wa, rfl⟩ : ∃ z : World, z = wr := ⟨_, rfl⟩
    have HB := Lib.hid hb
    cases m with
    | succ m =>
      have hil : i < 64 := by omega
      have hii : (i : Int) < 64 := by omega
      have hi0 : 0 ≤ (i : Int) := by omega
      have hc : wa.cell? ⟨w.heap.size, i, none⟩ = some (.int .u8 0) := by
        rw [cell_of_row _ _ _ _ _ _ hh, List.getElem?_toArray, List.getElem?_append_right (by simp)]; simp
      have hf : wa.frozen? ⟨w.heap.size, i, none⟩ = false := by rw [World.frozen?, hh]; rfl
      have hn := row_fill (u := Value.int .u8 (n % 256)) hh (show (List.replicate i (Value.int .u8 (n % 256))).length = i by simp)
      rw [← List.replicate_succ'] at hn
      have HN := Lib.hid hn
      clear hh hn hb
      go_wp2_with fail
      go_roundw
      case rel => exact ⟨i + 1, m, by omega, by go_num, HN.out, (HB.out.setCell (p := ⟨w.heap.size, i, none⟩) (Nat.le_refl _) _)⟩
      case measure => simp [intOf]; omega
    | zero =>
      have hi : i = 64 := by omega
      subst hi
      have HH := Lib.hid hh
      clear hh
      go_wp2_with fail
      go_ret
      refine ⟨⟨_, rfl, Nat.le_refl _, ?_⟩, HB.out⟩
      have h := HH.out
      rw [List.replicate_zero, List.append_nil] at h
      rw [List.map_replicate, show (((n % 256).toNat : Nat) : Int) = n % 256 by omega]
      refine ⟨by simp, fun _ => ⟨w.heap.size, 0, rfl, (show Bk wa w.heap.size _ _ from h).lt, fun j u hu => ?_⟩⟩
      rw [Nat.zero_add, cell_of_row _ _ _ _ _ _ h, List.getElem?_toArray]
      exact hu
theorem rdL_lt {z : Int} {s : Sec} (hs : z = 0 → SecOK s) : ∀ x ∈ rdL z s, x < 256 := by
  unfold rdL
  intro x hx
  split at hx
  · rename_i h; exact (hs h).2 x hx
  · simp at hx
section
variable {w : World} {D : Nat} {d : Dk} {bs bm cp : Nat} {p : Option Addr} {R bn bk bf cn ck cf : Nat}
def YesB (w : World) (e : Ending) (w' : World) : Prop := e = .returned (.bool true) ∧ Below w.heap.size w w'
set_option maxRecDepth 100000 in
set_option maxHeartbeats 1000000 in
theorem sameDisk_any (h : DkAt w D d bs bm cp p) (hr : RdAt w R d bn bk bf cn ck cf) : Calls Tryz.prog 19 #[.pointer (some ⟨D, 0, none⟩), .pointer (some ⟨R, 0, none⟩)] w (YesB w) := by
  have HSZ : Hid (∀ W, Below w.heap.size w W → Calls Tryz.prog 58 #[.pointer (some ⟨D, 0, none⟩)] W fun e w' => e = .returned (.int .i64 d.dur.length) ∧ W = w') := Lib.hid fun W hW => dsize_any (h.far hW)
  have HDN : Hid (∀ W, Below w.heap.size w W → Calls Tryz.prog 39 #[.pointer (some ⟨D, 0, none⟩)] W fun e w' => e = .returned (.bool d.down) ∧ W = w') := Lib.hid fun W hW => ddown_any (h.far hW)
  have HV1 : Hid (∀ W i, Below w.heap.size w W → Calls Tryz.prog 52 #[.pointer (some ⟨D, 0, none⟩), .int .i64 i] W (VP (d.durZ i) (rdL (d.durZ i) (d.dur.getD i.toNat [])) W)) := Lib.hid fun W i hW => vdur (h.far hW) i
  have HV2 : Hid (∀ W i, Below w.heap.size w W → Calls Tryz.prog 53 #[.pointer (some ⟨R, 0, none⟩), .int .i64 i] W (VP (d.durZ i) (rdL (d.durZ i) (d.dur.getD i.toNat [])) W)) := Lib.hid fun W i hW => vrdur (hr.far hW) i
  have HV3 : Hid (∀ W i, Below w.heap.size w W → Calls Tryz.prog 49 #[.pointer (some ⟨D, 0, none⟩), .int .i64 i] W (VP (d.readZ i) (rdL (d.readZ i) (d.newest i.toNat)) W)) := Lib.hid fun W i hW => vread (h.far hW) i
  have HV4 : Hid (∀ W i, Below w.heap.size w W → Calls Tryz.prog 50 #[.pointer (some ⟨R, 0, none⟩), .int .i64 i] W (VP (d.readZ i) (rdL (d.readZ i) (d.newest i.toNat)) W)) := Lib.hid fun W i hW => vrread (hr.far hW) i (readZ_hi h i)
  have HL1 : Hid (∀ i : Int, ∀ x ∈ rdL (d.durZ i) (d.dur.getD i.toNat []), x < 256) := Lib.hid fun i => rdL_lt (durZ_hi h.ok i)
  have HL2 : Hid (∀ i : Int, ∀ x ∈ rdL (d.readZ i) (d.newest i.toNat), x < 256) := Lib.hid fun i => rdL_lt (readZ_hi h i)
  obtain ⟨n, hn⟩ : ∃ n, n = d.dur.length := ⟨_, rfl⟩
  have HN : Hid (n = d.dur.length ∧ n ≤ 256) := Lib.hid ⟨hn, by rw [hn]; exact h.ok.n256⟩
  have HC : Hid (∀ W, Below w.heap.size w W → (W.cell? ⟨R, 0, none⟩ = some (.slice (some ⟨bn, 0, none⟩) n cn) ∧ W.cell? ⟨R, 5, none⟩ = some (.bool d.down))) := Lib.hid fun W hW => by
    obtain ⟨h0, r, kv, h1, h2⟩ := hr.far hW
    obtain ⟨c0, _, _, _, _, c5, _⟩ := h2.cR
    rw [(h1.ok h0).1, ← hn] at c0
    rw [h1.down] at c5
    exact ⟨c0, c5⟩
  rw [← hn] at HSZ
  clear h hr hn
  obtain ⟨dn, hdn⟩ : ∃ dn, dn = d.down := ⟨_, rfl⟩
  rw [← hdn] at HDN HC
  clear hdn
  go_enter Tryz.func19, Tryz.ntmps19
  go_wp2_with fail
  -- <REGION sd1
  refine wp_region_held_drew (S := (fun W => W.cell? ⟨R, 0, none⟩ = some (.slice (some ⟨bn, 0, none⟩) n cn) ∧ W.cell? ⟨R, 5, none⟩ = some (.bool dn))) (by kernel_rfl) ?_ (fun hHeld => ?_)
  · (try dsimp only); (refine HC.out _ ?_; (first | exact Below.refl _ _ | exact below_drew8 _ _); done)
  refine wpAnyH_take (i := 0) (oi := ⟨some 14, _, _, _, _, _⟩) (v := ?_) rfl (by kernel_rfl) (by kernel_rfl) (by kernel_rfl) (fun _ _ _ h => h) (Or.inl ⟨by rfl, ?_⟩) (by assumption) ?_; rotate_left
  · intro w hSw; (try dsimp only at hSw); go_simp; try with_reducible rfl
  try simp only [Act.put, setIfInBounds_toArray, set_cons_zero, set_cons_succ]
  refine wpAnyH_take (i := 2) (oi := ⟨some 16, _, _, _, _, _⟩) (v := ?_) rfl (by kernel_rfl) (by kernel_rfl) (by kernel_rfl) (fun _ _ _ h => h) (Or.inl ⟨by rfl, ?_⟩) (by assumption) ?_; rotate_left
  · intro w hSw; (try dsimp only at hSw); go_simp; try with_reducible rfl
  try simp only [Act.put, setIfInBounds_toArray, set_cons_zero, set_cons_succ]
  refine wpAnyH_take (i := 3) (oi := ⟨some 17, _, _, _, _, _⟩) (v := ?_) rfl (by kernel_rfl) (by kernel_rfl) (by kernel_rfl) (fun _ _ _ h => h) (Or.inl ⟨by rfl, ?_⟩) (by assumption) ?_; rotate_left
  · intro w hSw; (try dsimp only at hSw); go_simp; try with_reducible rfl
  try simp only [Act.put, setIfInBounds_toArray, set_cons_zero, set_cons_succ]
  refine wpAnyH_take (i := 4) (oi := ⟨some 18, _, _, _, _, _⟩) (v := ?_) rfl (by kernel_rfl) (by kernel_rfl) (by kernel_rfl) (fun _ _ _ h => h) (Or.inl ⟨by rfl, ?_⟩) (by assumption) ?_; rotate_left
  · intro w hSw; (try dsimp only at hSw); go_simp; try with_reducible rfl
  try simp only [Act.put, setIfInBounds_toArray, set_cons_zero, set_cons_succ]
  refine wpAnyH_take (i := 5) (oi := ⟨some 19, _, _, _, _, _⟩) (v := ?_) rfl (by kernel_rfl) (by kernel_rfl) (by kernel_rfl) (fun _ _ _ h => h) (Or.inl ⟨by rfl, ?_⟩) (by assumption) ?_; rotate_left
  · intro w hSw; (try dsimp only at hSw); go_simp; try with_reducible rfl
  try simp only [Act.put, setIfInBounds_toArray, set_cons_zero, set_cons_succ]
  refine wpAnyH_take (i := 6) (oi := ⟨some 20, _, _, _, _, _⟩) (v := ?_) rfl (by kernel_rfl) (by kernel_rfl) (by kernel_rfl) (fun _ _ _ h => h) (Or.inl ⟨by rfl, ?_⟩) (by assumption) ?_; rotate_left
  · intro w hSw; (try dsimp only at hSw); go_simp; try with_reducible rfl
  try simp only [Act.put, setIfInBounds_toArray, set_cons_zero, set_cons_succ]
  refine wpAnyH_ready (rs := [1]) (by kernel_rfl) (by simp) ?_
  refine AllReadyH.cons (o := ⟨some 15, _, _, _, _, _⟩) rfl (fun K hK => ?_) AllReadyH.nil
  go_simp
  refine (HSZ.out _ (by (first | exact Below.refl _ _ | exact below_drew8 _ _))).mono ?_
  rintro e' w1 ⟨rfl, rfl⟩
  go_wp2_with fail
  refine hK.out _ _ ?_ (fun hHeld => ?_)
  · (try dsimp only); (refine HC.out _ ?_; (first | exact Below.refl _ _ | exact below_drew8 _ _); done)
  clear hK K
  try simp only [Act.put, setIfInBounds_toArray, set_cons_zero, set_cons_succ]
  refine wpAnyH_take (i := 7) (oi := ⟨some 21, _, _, _, _, _⟩) (v := ?_) rfl (by kernel_rfl) (by kernel_rfl) (by kernel_rfl) (fun _ _ _ h => h) (Or.inl ⟨by rfl, ?_⟩) (by assumption) ?_; rotate_left
  · intro w hSw; (try dsimp only at hSw); go_simp; try with_reducible rfl
  try simp only [Act.put, setIfInBounds_toArray, set_cons_zero, set_cons_succ]
  refine wpAnyH_take (i := 8) (oi := ⟨some 22, _, _, _, _, _⟩) (v := ?_) rfl (by kernel_rfl) (by kernel_rfl) (by kernel_rfl) (fun _ _ _ h => h) (Or.inl ⟨by rfl, ?_⟩) (by assumption) ?_; rotate_left
  · intro w hSw; (try dsimp only at hSw); go_simp; try with_reducible rfl
  try simp only [Act.put, setIfInBounds_toArray, set_cons_zero, set_cons_succ]
  refine wpAnyH_take (i := 9) (oi := ⟨some 23, _, _, _, _, _⟩) (v := ?_) rfl (by kernel_rfl) (by kernel_rfl) (by kernel_rfl) (fun _ _ _ h => h) (Or.inl ⟨by rfl, ?_⟩) (by assumption) ?_; rotate_left
  · intro w hSw; (try dsimp only at hSw); go_simp; try with_reducible rfl
  try simp only [Act.put, setIfInBounds_toArray, set_cons_zero, set_cons_succ]
  refine wpAnyH_take (i := 11) (oi := ⟨some 25, _, _, _, _, _⟩) (v := ?_) rfl (by kernel_rfl) (by kernel_rfl) (by kernel_rfl) (fun _ _ _ h => h) (Or.inl ⟨by rfl, ?_⟩) (by assumption) ?_; rotate_left
  · intro w hSw; (try dsimp only at hSw); go_simp; try with_reducible rfl
  try simp only [Act.put, setIfInBounds_toArray, set_cons_zero, set_cons_succ]
  refine wpAnyH_take (i := 12) (oi := ⟨some 26, _, _, _, _, _⟩) (v := ?_) rfl (by kernel_rfl) (by kernel_rfl) (by kernel_rfl) (fun _ _ _ h => h) (Or.inl ⟨by rfl, ?_⟩) (by assumption) ?_; rotate_left
  · intro w hSw; (try dsimp only at hSw); go_simp; try with_reducible rfl
  try simp only [Act.put, setIfInBounds_toArray, set_cons_zero, set_cons_succ]
  refine wpAnyH_take (i := 13) (oi := ⟨some 27, _, _, _, _, _⟩) (v := ?_) rfl (by kernel_rfl) (by kernel_rfl) (by kernel_rfl) (fun _ _ _ h => h) (Or.inl ⟨by rfl, ?_⟩) (by assumption) ?_; rotate_left
  · intro w hSw; (try dsimp only at hSw); go_simp; try with_reducible rfl
  try simp only [Act.put, setIfInBounds_toArray, set_cons_zero, set_cons_succ]
  refine wpAnyH_take (i := 14) (oi := ⟨some 28, _, _, _, _, _⟩) (v := ?_) rfl (by kernel_rfl) (by kernel_rfl) (by kernel_rfl) (fun _ _ _ h => h) (Or.inl ⟨by rfl, ?_⟩) (by assumption) ?_; rotate_left
  · intro w hSw; (try dsimp only at hSw); go_simp; try with_reducible rfl
  try simp only [Act.put, setIfInBounds_toArray, set_cons_zero, set_cons_succ]
  refine wpAnyH_ready (rs := [10]) (by kernel_rfl) (by simp) ?_
  refine AllReadyH.cons (o := ⟨some 24, _, _, _, _, _⟩) rfl (fun K hK => ?_) AllReadyH.nil
  go_simp
  refine (HDN.out _ (by (first | exact Below.refl _ _ | exact below_drew8 _ _))).mono ?_
  rintro e' w1 ⟨rfl, rfl⟩
  go_wp2_with fail
  refine hK.out _ _ ?_ (fun hHeld => ?_)
  · (try dsimp only); (refine HC.out _ ?_; (first | exact Below.refl _ _ | exact below_drew8 _ _); done)
  clear hK K
  try simp only [Act.put, setIfInBounds_toArray, set_cons_zero, set_cons_succ]
  refine wpAnyH_take (i := 15) (oi := ⟨some 29, _, _, _, _, _⟩) (v := ?_) rfl (by kernel_rfl) (by kernel_rfl) (by kernel_rfl) (fun _ _ _ h => h) (Or.inl ⟨by rfl, ?_⟩) (by assumption) ?_; rotate_left
  · intro w hSw; (try dsimp only at hSw); go_simp; try with_reducible rfl
  try simp only [Act.put, setIfInBounds_toArray, set_cons_zero, set_cons_succ]
  refine wpAnyH_take (i := 16) (oi := ⟨some 30, _, _, _, _, _⟩) (v := ?_) rfl (by kernel_rfl) (by kernel_rfl) (by kernel_rfl) (fun _ _ _ h => h) (Or.inl ⟨by rfl, ?_⟩) (by assumption) ?_; rotate_left
  · intro w hSw; (try dsimp only at hSw); go_simp; try with_reducible rfl
  try simp only [Act.put, setIfInBounds_toArray, set_cons_zero, set_cons_succ]
  refine wpAnyH_done (by kernel_rfl) ?_ _
  go_wp2_with fail
  go_loopw [5] (fun v5 wr => ∃ i : Nat, i ≤ n ∧ v5 = .int .i64 (i : Nat) ∧ Below w.heap.size w wr) (fun v5 _ => n - (intOf v5).toNat)
  case atStart => exact ⟨0, Nat.zero_le _, rfl, by (first | exact Below.refl _ _ | exact below_drew8 _ _)⟩
  case round =>
    obtain ⟨i, hi, rfl, hb⟩ := hrel
    obtain ⟨wa, rfl⟩ : ∃ z : World, z = wr := ⟨_, rfl⟩
    have HB := Lib.hid hb
    obtain ⟨c0, c5⟩ := HC.out wa hb
    have hn256 := HN.out.2
    clear hb
    by_cases hlt : i < n
    · have hii : (i : Int) < (n : Int) := by omega
      have L1 := Lib.hid (HL1.out (i : Int)); have L2 := Lib.hid (HL2.out (i : Int))
      have K1 := Lib.hid (HV1.out wa (i : Int) HB.out)
      go_wp2_with fail
      refine K1.out.mono ?_
      rintro e w1 ⟨⟨A1, n1, c1, rfl, hr1⟩, hb1⟩
      have HR1 := Lib.hid hr1; have HB1 := Lib.hid hb1; have HC1 := Lib.hid (bnextK HB.out hb1)
      clear hr1 hb1
      go_wp2_with fail
      refine (HV2.out w1 (i : Int) HC1.out).mono ?_
      rintro e w2 ⟨⟨A2, n2, c2, rfl, hr2⟩, hb2⟩
      have HR2 := Lib.hid hr2; have HB2 := Lib.hid hb2; have HC2 := Lib.hid (bnextK HC1.out hb2)
      clear hr2 hb2
      go_wp2_with fail
      refine (HV3.out w2 (i : Int) HC2.out).mono ?_
      rintro e w3 ⟨⟨A3, n3, c3, rfl, hr3⟩, hb3⟩
      have HR3 := Lib.hid hr3; have HB3 := Lib.hid hb3; have HC3 := Lib.hid (bnextK HC2.out hb3)
      clear hr3 hb3
      go_wp2_with fail
      refine (HV4.out w3 (i : Int) HC3.out).mono ?_
      rintro e w4 ⟨⟨A4, n4, c4, rfl, hr4⟩, hb4⟩
      have HR4 := Lib.hid hr4; have HB4 := Lib.hid hb4; have HC4 := Lib.hid (bnextK HC3.out hb4)
      clear hr4 hb4
      have HS1 := Lib.hid (same8_yes (w := w4) c1 c2 L1.out (HR1.out.below (bnextK (bnextK HB2.out HB3.out) HB4.out)) (HR2.out.below (bnextK HB3.out HB4.out)))
      have HS2 := Lib.hid (same8_yes (w := w4) c3 c4 L2.out (HR3.out.below HB4.out) HR4.out)
      generalize d.durZ (i : Int) = z1
      generalize d.readZ (i : Int) = z2
      go_wp2_with fail
      refine HS1.out.mono ?_
      rintro e w5 ⟨rfl, rfl⟩
      go_wp2_with fail
      refine HS2.out.mono ?_
      rintro e w6 ⟨rfl, rfl⟩
      go_wp2_with fail
      go_roundw
      case rel => exact ⟨i + 1, by omega, by go_num, HC4.out⟩
      case measure => simp [intOf]; omega
    · have hii : ¬ (i : Int) < (n : Int) := by omega
      go_wp2_with fail
      go_ret
      exact ⟨rfl, HB.out⟩
  -- REGION>
end
end Go.Proofs.YtdgmjedkhjeadaaGreat
