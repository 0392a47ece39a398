/- The contract of answer of the document's course. Conditions: as each statement says. -/
import Derived.Test.YtoofnkkbebjldaaRecNewA
namespace Go.Proofs.Ytoofnkkbebjldaa
open Go.RowKit
set_option linter.unusedVariables false
/-- Three blocks are as they were. -/
structure Same3 (w3 w' : World) (a b c : Nat) : Prop where
  size : w3.heap.size ≤ w'.heap.size
  a : w'.heap[a]? = w3.heap[a]?
  b : w'.heap[b]? = w3.heap[b]?
  c : w'.heap[c]? = w3.heap[c]?
theorem Same3.drew {w3 w' : World} {a b c : Nat} (h : Same3 w3 w' a b c) : Same3 w3 w'.drew a b c := ⟨h.size, h.a, h.b, h.c⟩
theorem Same3.alloc {w3 w' : World} {a b c : Nat} (h : Same3 w3 w' a b c) (ha : a < w3.heap.size) (hb : b < w3.heap.size) (hc : c < w3.heap.size) (o : Obj) : Same3 w3 (w'.alloc o) a b c :=
  ⟨by rw [World.size_alloc]; have := h.size; omega, (Below.heap_alloc _ _ _ (by have := h.size; omega)).trans h.a, (Below.heap_alloc _ _ _ (by have := h.size; omega)).trans h.b, (Below.heap_alloc _ _ _ (by have := h.size; omega)).trans h.c⟩
/-- A course that has an answer that is not yet written down. -/
structure RMid (w : World) (R : RLay) (Z : Src) (kv : Nat → Nat → Value) (vt vl vy : Value) (S : Mst) : Prop where
  cells : w.heap[R.p]? = some (.cells (rCells R S vt vl vy) 74 (0, 0))
  told : w.ownsRow R.base 46 4 vt S.told.length (aCells S.told)
  bits : w.ownsRow R.base 4 1 (.slice R.Ab R.n R.cbt) R.n (S.b.map Value.bool)
  known : RKn w R kv vt S.told
  pb : R.base ≤ R.p
  st : RSt w R
  src : RSrc w R Z vl vy (S.told.length + 1)
theorem RMid.lt {w : World} {R : RLay} {Z : Src} {kv : Nat → Nat → Value} {vt vl vy : Value} {S : Mst} (h : RMid w R Z kv vt vl vy S) : R.p < w.heap.size := (Array.getElem?_eq_some_iff.1 h.cells).1
theorem RMid.bw {w : World} {R : RLay} {Z : Src} {kv : Nat → Nat → Value} {vt vl vy : Value} {S : Mst} (h : RMid w R Z kv vt vl vy S) : R.base ≤ w.heap.size := Nat.le_trans h.pb (Nat.le_of_lt h.lt)
theorem RMid.cells3 {w w' : World} {R : RLay} {Z : Src} {kv : Nat → Nat → Value} {vt vl vy : Value} {S : Mst} {H : Nat} {q : Qn} (h : RMid w R Z kv vt vl vy S) (hqp : q.p < R.P) (hx : w.heap[H]? = some (.cells #[.int .i64 q.p, .int .i64 q.f, .int .i64 q.t] 44 (0, 0))) (hs : Same3 w w' R.p R.gk H) :
    w'.cell? ⟨R.p, 4, none⟩ = some (.slice (some ⟨R.gk, 0, none⟩) R.P R.ck) ∧ w'.cell? ⟨R.gk, q.p, none⟩ = some (.slice (some ⟨R.kb q.p, 0, none⟩) R.n R.n) ∧ w'.cell? ⟨H, 0, none⟩ = some (.int .i64 q.p) ∧ w'.cell? ⟨H, 1, none⟩ = some (.int .i64 q.f) ∧ w'.cell? ⟨H, 2, none⟩ = some (.int .i64 q.t) := by
  have hx' := hs.c.trans hx
  refine ⟨by rw [cell_of_row _ _ _ _ _ _ (hs.a.trans h.cells)]; rfl, ?_, by rw [cell_of_row _ _ _ _ _ _ hx']; rfl, by rw [cell_of_row _ _ _ _ _ _ hx']; rfl, by rw [cell_of_row _ _ _ _ _ _ hx']; rfl⟩
  have := h.st.kno.cellAt q.p (by omega)
  rw [List.getElem?_map, List.getElem?_range hqp] at this
  rw [← show w.cell? ⟨R.gk, q.p, none⟩ = w'.cell? ⟨R.gk, q.p, none⟩ by simp only [World.cell?, hs.b]]
  exact this
theorem RMid.same8 {w w' : World} {R : RLay} {Z : Src} {kv : Nat → Nat → Value} {vt vl vy vr : Value} {S : Mst} {H n : Nat} {q : Qn} {xs : List Value} (h : RMid w R Z kv vt vl vy S) (hr : w.ownsRow R.base 46 4 vr n xs) (hx : w.heap[H]? = some (.cells #[.int .i64 q.p, .int .i64 q.f, .int .i64 q.t] 44 (0, 0))) (hg : w.grownBy w' vr.ownBlock) : Same3 w w' R.p R.gk H := by
  refine ⟨hg.size, hg.block _ h.lt (fun e => row_ne hr h.cells (by decide) e.symm), hg.block _ (h.st.kno.lt R.gk rfl).2 (fun e => ?_), hg.block _ (Array.getElem?_eq_some_iff.1 hx).1 (fun e => row_ne hr hx (by decide) e.symm)⟩
  exact rows_apart h.st.kno hr (by decide) R.gk rfl e
theorem RMid.drew {w : World} {R : RLay} {Z : Src} {kv : Nat → Nat → Value} {vt vl vy : Value} {S : Mst} (h : RMid w R Z kv vt vl vy S) : RMid w.drew R Z kv vt vl vy S :=
  ⟨h.cells, h.told, h.bits, ⟨h.known.out, h.known.row, h.known.apart, h.known.apT, h.known.inj⟩, h.pb, ⟨h.st.hP, h.st.hB, h.st.hn, h.st.hs, h.st.pc, h.st.ol, h.st.ord, h.st.ordr, h.st.kno⟩, h.src.turn ((Qw.below (⟨1, rfl⟩ : Qw w w.drew)) _)⟩
/-- The answer stands among the known ones. -/
structure RMid2 (w : World) (R : RLay) (Z : Src) (kv : Nat → Nat → Value) (vt vl vy : Value) (S : Mst) (q : Qn) (a : Bool) : Prop where
  cells : w.heap[R.p]? = some (.cells (rCells R S vt vl vy) 74 (0, 0))
  told : w.ownsRow R.base 46 4 vt S.told.length (aCells S.told)
  bits : w.ownsRow R.base 4 1 (.slice R.Ab R.n R.cbt) R.n (S.b.map Value.bool)
  known : RKn w R kv vt (S.told ++ [(q, a)])
  pb : R.base ≤ R.p
  st : RSt w R
  src : RSrc w R Z vl vy (S.told.length + 1)
structure Push1 (w w8 : World) (R : RLay) (Z : Src) (kv : Nat → Nat → Value) (vt vl vy : Value) (S : Mst) (q : Qn) (a : Bool) (v8 : Value) : Prop where
  fk : w8.frozen? ⟨R.kb q.p, q.f, none⟩ = false
  ck : w8.cell? ⟨R.kb q.p, q.f, none⟩ = some (kv q.p q.f)
  mid : RMid2 (w8.setCell ⟨R.kb q.p, q.f, none⟩ v8) R Z (kvU kv q.p q.f v8) vt vl vy S q a
  turn : RTurn R.base w (w8.setCell ⟨R.kb q.p, q.f, none⟩ v8)
theorem RMid.push1 {w w8 : World} {R : RLay} {Z : Src} {kv : Nat → Nat → Value} {vt vl vy v8 : Value} {S : Mst} {q : Qn} {a : Bool} {H : Nat} (h : RMid w R Z kv vt vl vy S) (hqp : q.p < R.P) (hqf : q.f < R.n)
    (hown : w8.ownsRow R.base 46 4 v8 ((knL S.told q.p q.f).length + 1) (aCells (knL S.told q.p q.f) ++ [.int .i64 q.p, .int .i64 q.f, .int .i64 q.t, .bool a])) (hg : w.grownBy w8 (kv q.p q.f).ownBlock) (hb : Below R.base w w8) (hl : Lies (kv q.p q.f) v8 H) (hH : w.heap.size ≤ H) :
    Push1 w w8 R Z kv vt vl vy S q a v8 := by
  have hr0 := h.known.row q.p q.f hqp hqf
  have hout := row_other (h.known.out q.p hqp) hr0 (by decide) hg
  have hT1 : RTurn R.base w w8 := .grow hr0 (.inr (.inl rfl)) hg hb
  have hT2 : RTurn R.base w8 (w8.setCell ⟨R.kb q.p, q.f, none⟩ v8) := .store hout (.inr (.inr rfl)) (Nat.le_refl _) v8
  have hc8 : w8.heap[R.p]? = some (.cells (rCells R S vt vl vy) 74 (0, 0)) := (hg.block _ h.lt (fun e => row_ne hr0 h.cells (by decide) e.symm)).trans h.cells
  have hkb : ∃ cs, w8.heap[R.kb q.p]? = some (.cells cs 27 (0, 0)) := by
    rcases hout.2 with ⟨hl, _⟩ | ⟨g', cap', cur', hv, _, hg', _⟩
    · cases hl
    · injection hv with hv _ _; injection hv with hv; injection hv with hv _ _
      rw [hv]; exact ⟨_, hg'⟩
  obtain ⟨cs, hkb⟩ := hkb
  refine ⟨hout.frozenAt _, ?_, ?_, hT1.trans hT2⟩
  · rw [hout.cellAt q.f (by omega), List.getElem?_map, List.getElem?_range hqf]; rfl
  · refine ⟨?_, ?_, ?_, h.known.push hqp hqf hown hg hl hH h.told, h.pb, (h.st.turn hT1).turn hT2, (h.src.turn hb).turn hT2.below⟩
    · refine (Below.heap_setCell _ _ _ _ ?_).trans hc8
      intro e
      simp only at e
      rw [← e, hc8] at hkb
      injection hkb with hkb
      injection hkb with _ e _
      exact absurd e (by decide)
    · have ht8 := ownsRow_grown h.told hg (fun k hk e => h.known.apT q.p q.f hqp hqf k e.symm hk)
      exact ownsRow_setCell_other ht8 (row_ne ht8 hkb (by decide)) v8
    · have hb8 := row_other h.bits hr0 (by decide) hg
      exact ownsRow_setCell_other hb8 (row_ne hb8 hkb (by decide)) v8
theorem gk_block {w : World} {B t n c g : Nat} {xs : List Value} (h : w.ownsRow B t 1 (.slice (some ⟨g, 0, none⟩) n c) n xs) : ∃ cs, w.heap[g]? = some (.cells cs t (0, 0)) := by
  rcases h.2 with ⟨hl, _⟩ | ⟨g', cap', cur', hv, _, hg', _⟩
  · cases hl
  · injection hv with hv _ _; injection hv with hv; injection hv with hv _ _
    rw [hv]; exact ⟨_, hg'⟩
theorem Push1.same {w w8 : World} {R : RLay} {Z : Src} {kv : Nat → Nat → Value} {vt vl vy v8 : Value} {S : Mst} {q : Qn} {a : Bool} {H : Nat} (p : Push1 w.drew w8 R Z kv vt vl vy S q a v8) (h : RMid w R Z kv vt vl vy S) (hx : w.heap[H]? = some (.cells #[.int .i64 q.p, .int .i64 q.f, .int .i64 q.t] 44 (0, 0))) :
    Same3 w (w8.setCell ⟨R.kb q.p, q.f, none⟩ v8) R.p R.gk H := by
  obtain ⟨cs, hk⟩ := gk_block h.st.kno
  exact ⟨p.turn.below.size, p.mid.cells.trans h.cells.symm, p.turn.keep _ _ _ hk (by decide) (by decide) (by decide) (by decide), p.turn.keep _ _ _ hx (by decide) (by decide) (by decide) (by decide)⟩
theorem RMid2.lt {w : World} {R : RLay} {Z : Src} {kv : Nat → Nat → Value} {vt vl vy : Value} {S : Mst} {q : Qn} {a : Bool} (h : RMid2 w R Z kv vt vl vy S q a) : R.p < w.heap.size := (Array.getElem?_eq_some_iff.1 h.cells).1
theorem RMid2.bw {w : World} {R : RLay} {Z : Src} {kv : Nat → Nat → Value} {vt vl vy : Value} {S : Mst} {q : Qn} {a : Bool} (h : RMid2 w R Z kv vt vl vy S q a) : R.base ≤ w.heap.size := Nat.le_trans h.pb (Nat.le_of_lt h.lt)
theorem RMid2.drew {w : World} {R : RLay} {Z : Src} {kv : Nat → Nat → Value} {vt vl vy : Value} {S : Mst} {q : Qn} {a : Bool} (h : RMid2 w R Z kv vt vl vy S q a) : RMid2 w.drew R Z kv vt vl vy S q a :=
  ⟨h.cells, h.told, h.bits, ⟨h.known.out, h.known.row, h.known.apart, h.known.apT, h.known.inj⟩, h.pb, ⟨h.st.hP, h.st.hB, h.st.hn, h.st.hs, h.st.pc, h.st.ol, h.st.ord, h.st.ordr, h.st.kno⟩, h.src.turn ((Qw.below (⟨1, rfl⟩ : Qw w w.drew)) _)⟩
theorem RMid2.cells7 {w w' : World} {R : RLay} {Z : Src} {kv : Nat → Nat → Value} {vt vl vy : Value} {S : Mst} {H : Nat} {q : Qn} {a : Bool} (h : RMid2 w R Z kv vt vl vy S q a) (hx : w.heap[H]? = some (.cells #[.int .i64 q.p, .int .i64 q.f, .int .i64 q.t] 44 (0, 0))) (hs : Same3 w w' R.p R.gk H) :
    w'.cell? ⟨R.p, 7, none⟩ = some vt ∧ w'.cell? ⟨H, 0, none⟩ = some (.int .i64 q.p) ∧ w'.cell? ⟨H, 1, none⟩ = some (.int .i64 q.f) ∧ w'.cell? ⟨H, 2, none⟩ = some (.int .i64 q.t) := by
  have hx' := hs.c.trans hx
  exact ⟨by rw [cell_of_row _ _ _ _ _ _ (hs.a.trans h.cells)]; rfl, by rw [cell_of_row _ _ _ _ _ _ hx']; rfl, by rw [cell_of_row _ _ _ _ _ _ hx']; rfl, by rw [cell_of_row _ _ _ _ _ _ hx']; rfl⟩
theorem RMid2.same10 {w w' : World} {R : RLay} {Z : Src} {kv : Nat → Nat → Value} {vt vl vy : Value} {S : Mst} {H : Nat} {q : Qn} {a : Bool} (h : RMid2 w R Z kv vt vl vy S q a) (hx : w.heap[H]? = some (.cells #[.int .i64 q.p, .int .i64 q.f, .int .i64 q.t] 44 (0, 0))) (hg : w.grownBy w' vt.ownBlock) : Same3 w w' R.p R.gk H :=
  ⟨hg.size, hg.block _ h.lt (fun e => row_ne h.told h.cells (by decide) e.symm), hg.block _ (h.st.kno.lt R.gk rfl).2 (fun e => rows_apart h.st.kno h.told (by decide) R.gk rfl e), hg.block _ (Array.getElem?_eq_some_iff.1 hx).1 (fun e => row_ne h.told hx (by decide) e.symm)⟩
structure Push2 (w w10 : World) (R : RLay) (Z : Src) (kv : Nat → Nat → Value) (vt vl vy : Value) (S : Mst) (q : Qn) (a : Bool) (v10 : Value) : Prop where
  fk : w10.frozen? ⟨R.p, 7, none⟩ = false
  ck : w10.cell? ⟨R.p, 7, none⟩ = some vt
  at_ : RAt (w10.setCell ⟨R.p, 7, none⟩ v10) R Z kv v10 vl vy { S with told := S.told ++ [(q, a)] }
  turn : RTurn R.base w (w10.setCell ⟨R.p, 7, none⟩ v10)
theorem RMid2.push2 {w w10 : World} {R : RLay} {Z : Src} {kv : Nat → Nat → Value} {vt vl vy v10 : Value} {S : Mst} {q : Qn} {a : Bool} {H : Nat} (h : RMid2 w R Z kv vt vl vy S q a)
    (hown : w10.ownsRow R.base 46 4 v10 (S.told.length + 1) (aCells S.told ++ [.int .i64 q.p, .int .i64 q.f, .int .i64 q.t, .bool a])) (hg : w.grownBy w10 vt.ownBlock) (hb : Below R.base w w10) (hl : Lies vt v10 H) (hH : w.heap.size ≤ H) :
    Push2 w w10 R Z kv vt vl vy S q a v10 := by
  have hT1 : RTurn R.base w w10 := .grow h.told (.inr (.inl rfl)) hg hb
  have hc : w10.heap[R.p]? = some (.cells (rCells R S vt vl vy) 74 (0, 0)) := (hg.block _ h.lt (fun e => row_ne h.told h.cells (by decide) e.symm)).trans h.cells
  have hT2 : RTurn R.base w10 (w10.setCell ⟨R.p, 7, none⟩ v10) := .set hc h.pb v10
  refine ⟨by simp [World.frozen?, hc], by rw [cell_of_row _ _ _ _ _ _ hc]; rfl, ⟨?_, ?_, ?_, (h.known.grownT h.told hg hl hH).setP hc 7 v10, h.pb, (h.st.turn hT1).turn hT2, ?_⟩, hT1.trans hT2⟩
  · have := blk_setR hc (o := 7) v10
    rw [this]; rfl
  · show World.ownsRow _ _ _ _ _ (S.told ++ [(q, a)]).length (aCells (S.told ++ [(q, a)]))
    rw [List.length_append, aCells_snoc]
    exact ownsRow_setCell_other hown (row_ne hown hc (by decide)) v10
  · have hb8 := row_other h.bits h.told (by decide) hg
    exact ownsRow_setCell_other hb8 (row_ne hb8 hc (by decide)) v10
  · show RSrc _ R Z vl vy (S.told ++ [(q, a)]).length
    rw [List.length_append]
    exact (h.src.turn hb).turn hT2.below
theorem RAt.left {w : World} {R : RLay} {Z : Src} {kv : Nat → Nat → Value} {vt vl vy : Value} {S : Mst} (h : RAt w R Z kv vt vl vy S) (u : Value) (hs : RSrc w R Z u vy (S.told.length + 1)) : RMid (w.setCell ⟨R.p, 8, none⟩ u) R Z kv vt u vy S where
  cells := by
    have := blk_setR h.cells (o := 8) u
    rw [this]; rfl
  told := ownsRow_setCell_other h.told (row_ne h.told h.cells (by decide)) u
  bits := ownsRow_setCell_other h.bits (row_ne h.bits h.cells (by decide)) u
  known := h.known.setP h.cells 8 u
  pb := h.pb
  st := h.st.turn (.set h.cells h.pb u)
  src := hs.turn ((Below.refl _ _).setCell (p := ⟨R.p, 8, none⟩) h.pb u)
/-- What answer leaves. -/
def AnsP (R : RLay) (Z : Src) (kv : Nat → Nat → Value) (vt vl vy : Value) (S : Mst) (q : Qn) (w : World) (e : Ending) (w' : World) : Prop :=
  ∃ b ok : Bool, e = .returned (.tuple #[.bool b, .bool ok]) ∧ RTurn R.base w w' ∧
    ((toldHas S.told q = true ∧ ok = true ∧ b = toldAns S.told q ∧ RAt w' R Z kv vt vl vy S) ∨
     (toldHas S.told q = false ∧ oR R.L Z { S with next := q } = none ∧ ok = false ∧ RAt w' R Z kv vt vl vy { S with next := q, opn := true }) ∨
     (toldHas S.told q = false ∧ oR R.L Z { S with next := q } = some b ∧ ok = true ∧ ∃ kv' vt' vl', RAt w' R Z kv' vt' vl' vy { S with told := S.told ++ [(q, b)] }))
theorem RSrc.yes {w : World} {R : RLay} {Z : Src} {vl vy : Value} {k : Nat} (h : RSrc w R Z vl vy k) (ht : Z.ty = true) : (∃ A c, vy = .slice A R.n c ∧ R.n ≤ c ∧ Rd w R.base 1 A R.n (Z.ys.map Value.bool)) ∧ Z.ans = [] ∧ vl = .slice none 0 0 := by
  unfold RSrc at h; rwa [if_pos ht] at h
theorem RSrc.no {w : World} {R : RLay} {Z : Src} {vl vy : Value} {k : Nat} (h : RSrc w R Z vl vy k) (ht : Z.ty = false) : vy = .slice none 0 0 ∧ ∃ A c, vl = .slice A (Z.ans.drop k).length c ∧ (Z.ans.drop k).length ≤ c ∧ Rd w R.base 1 A (Z.ans.drop k).length ((Z.ans.drop k).map Value.bool) := by
  unfold RSrc at h; rwa [if_neg (by rw [ht]; simp)] at h
set_option maxRecDepth 100000 in
set_option maxHeartbeats 8000000 in
theorem ans_any (R : RLay) (Z : Src) (kv : Nat → Nat → Value) (vt vl vy : Value) (S : Mst) (q : Qn) (w : World) (hm : RAt w R Z kv vt vl vy S) (hq : QOk R.L q) (hlen : S.told.length < 1000000) :
    Calls Try.prog 64 #[ptrR R, kq q] w (AnsP R Z kv vt vl vy S q w) := by
  obtain ⟨⟨hqp, hft, hqt⟩, hlt⟩ := hq
  have hqp : q.p < R.P := hqp
  have hqt : q.t ≤ R.n := hqt
  have hqf : q.f < R.n := by omega
  have hn := hm.st.hn
  obtain ⟨w1, hw1⟩ : ∃ w1, w1 = w.alloc (.cells #[.int .i64 q.p, .int .i64 q.f, .int .i64 q.t] 44) := ⟨_, rfl⟩
  have hb1 : Below w.heap.size w w1 := by rw [hw1]; exact (Below.refl _ _).alloc (Nat.le_refl _) _
  have hm1 := hm.below hb1
  have hbk : w1.heap[w.heap.size]? = some (.cells #[.int .i64 q.p, .int .i64 q.f, .int .i64 q.t] 44 (0, 0)) := by rw [hw1]; exact heap_alloc_new w _
  have q0 : w1.cell? ⟨w.heap.size, 0, none⟩ = some (.int .i64 q.p) := by rw [cell_of_row _ _ _ _ _ _ hbk]; rfl
  have q1 : w1.cell? ⟨w.heap.size, 1, none⟩ = some (.int .i64 q.f) := by rw [cell_of_row _ _ _ _ _ _ hbk]; rfl
  have q2 : w1.cell? ⟨w.heap.size, 2, none⟩ = some (.int .i64 q.t) := by rw [cell_of_row _ _ _ _ _ _ hbk]; rfl
  have c4 : w1.cell? ⟨R.p, 4, none⟩ = some (.slice (some ⟨R.gk, 0, none⟩) R.P R.ck) := hm1.cell 4
  have ck : w1.cell? ⟨R.gk, q.p, none⟩ = some (.slice (some ⟨R.kb q.p, 0, none⟩) R.n R.n) := by
    rw [hm1.st.kno.cellAt q.p (by omega), List.getElem?_map, List.getElem?_range hqp]; rfl
  have hrow := hm1.known.row q.p q.f hqp hqf
  obtain ⟨Ak, cak, hkv, hck⟩ := own_form hrow
  have ckf : w1.cell? ⟨R.kb q.p, q.f, none⟩ = some (.slice Ak (knL S.told q.p q.f).length cak) := by
    rw [(hm1.known.out q.p hqp).cellAt q.f (by omega), List.getElem?_map, List.getElem?_range hqf, ← hkv]; rfl
  have HKR := Lib.hid (Rd.own (by rw [← hkv]; exact hrow) : Rd w1 w1.heap.size 4 Ak (knL S.told q.p q.f).length (aCells (knL S.told q.p q.f)))
  obtain ⟨K, hK⟩ : ∃ K, K = (knL S.told q.p q.f).length := ⟨_, rfl⟩
  have hKb : K ≤ 1000000 := by rw [hK]; have := knL_le S.told q.p q.f; omega
  rw [← hK] at ckf HKR hck
  have HM := Lib.hid hm1; have HW := Lib.hid hw1; have HB := Lib.hid hb1; have HK := Lib.hid hK; have HBK := Lib.hid hbk; have HKV := Lib.hid hkv
  have i1 : (q.p : Int) < (R.P : Int) := by omega
  have i2 : (q.f : Int) < (R.n : Int) := by omega
  have HBW := Lib.hid hm.bw
  clear hm hm1 hbk hw1 hb1 hK hrow hkv
  go_enter Try.func64, Try.ntmps64
  go_wp2_with fail
  rw [← HW.out]
  go_quiet (fail)
  have q0 : (w1.drewN nq).cell? ⟨w.heap.size, 0, none⟩ = some (.int .i64 q.p) := q0
  have HQ0 : Hid (Qw w1 (w1.drewN nq)) := Lib.hid ⟨nq, rfl⟩
  generalize w1.drewN nq = w2 at HQ0 q0 ⊢
  clear q0
  go_wp2_with fail
  go_loopw [7] (fun i wr => ∃ k : Nat, k ≤ K ∧ i = .int .i64 k ∧ (∀ j (hj : j < (knL S.told q.p q.f).length), j < k → ((knL S.told q.p q.f)[j]).1.t ≠ q.t) ∧ Qw w1 wr) (fun i _ => K - (intOf i).toNat)
  case atStart => exact ⟨0, Nat.zero_le _, rfl, fun j hj h => absurd h (by omega), HQ0.out⟩
  case round =>
    obtain ⟨k, hk, rfl, hall, hqw⟩ := hrel
    obtain ⟨wa, rfl⟩ : ∃ z : World, z = wr := ⟨_, rfl⟩
    have HALL := Lib.hid hall; have HQ := Lib.hid hqw
    have x0 := (hqw.cell _).trans q0; have x1 := (hqw.cell _).trans q1; have x2 := (hqw.cell _).trans q2
    clear hall hqw HQ0
    by_cases hki : k < K
    · have hkI : (k : Int) < (K : Int) := by omega
      have hkl : k < (knL S.told q.p q.f).length := by rw [← HK.out]; exact hki
      obtain ⟨b, off, rfl, hb, hc⟩ := HKR.out.2 (by omega)
      obtain ⟨a0, a1, a2, a3⟩ := aCells_at (knL S.told q.p q.f) k hkl
      have d0 := (HQ.out.cell _).trans (hc _ _ a0)
      have d1 := (HQ.out.cell _).trans (hc _ _ a1)
      have d2 := (HQ.out.cell _).trans (hc _ _ a2)
      have d3 := (HQ.out.cell _).trans (hc _ _ a3)
      simp only [← Nat.add_assoc] at d1 d2 d3
      obtain ⟨e1, e2, _⟩ := knL_mem (List.getElem_mem hkl)
      rw [e1] at d0
      rw [e2] at d1
      have HS : Hid (((knL S.told q.p q.f)[k]).1.t = q.t → toldHas S.told q = true ∧ toldAns S.told q = ((knL S.told q.p q.f)[k]).2) := Lib.hid (kn_some hkl HALL.out)
      have HN : Hid (((knL S.told q.p q.f)[k]).1.t ≠ q.t → ∀ j (hj : j < (knL S.told q.p q.f).length), j < k + 1 → ((knL S.told q.p q.f)[j]).1.t ≠ q.t) := Lib.hid (fun hne j hj hjk => by
        by_cases e : j = k
        · subst e; exact hne
        · exact HALL.out j hj (by omega))
      generalize ((knL S.told q.p q.f)[k]).1.t = xt at d2 HS HN
      generalize ((knL S.told q.p q.f)[k]).2 = xa at d3 HS
      clear a0 a1 a2 a3 hc e1 e2
      by_cases he : xt = q.t
      · subst he
        have HS := Lib.hid (HS.out rfl)
        clear HN
        go_wp2_with fail
        go_quiet (fail)
        have d3 : (wa.drewN nq).cell? ⟨b, off + k * 4 + 3, none⟩ = some (.bool xa) := d3
        have HQ2 : Hid (Qw w1 (wa.drewN nq)) := Lib.hid (HQ.out.drewN nq)
        generalize wa.drewN nq = w3 at HQ2 d3 ⊢
        go_wp2_with fail
        go_ret2
        exact ⟨xa, true, rfl, (RTurn.of HB.out HBW.out).trans (.of (HQ2.out.below _) HM.out.bw), .inl ⟨(HS.out trivial).1, rfl, (HS.out trivial).2.symm, HM.out.q HQ2.out⟩⟩
      · have hbe : ((xt : Int) == (q.t : Int)) = false := by rw [beq_eq_false_iff_ne]; omega
        have HN := Lib.hid (HN.out he)
        clear HS he
        go_wp2_with fail
        go_quiet (fail)
        go_wp2_with fail
        go_roundw
        case rel => exact ⟨k + 1, by omega, by go_num, HN.out, HQ.out.drewN _⟩
        case measure => simp [intOf]; omega
    · have hkI : ¬ (k : Int) < (K : Int) := by omega
      obtain rfl : k = K := by omega
      have HNO := Lib.hid (kn_none (fun j hj => HALL.out j hj (by rw [HK.out]; exact hj)))
      have HA := Lib.hid (HM.out.q HQ.out)
      have HXA : Hid (wa.heap[w.heap.size]? = some (.cells #[.int .i64 q.p, .int .i64 q.f, .int .i64 q.t] 44 (0, 0))) := Lib.hid (by rw [HQ.out.heap]; exact HBK.out)
      have HTA := Lib.hid ((RTurn.of HB.out HBW.out).trans (.of (HQ.out.below _) HM.out.bw))
      clear HALL HM HQ HBK q0 q1 q2 c4 ck ckf hki
      by_cases hty : Z.ty = true
      · obtain ⟨⟨Ay, cy, hvy, hcy, hry⟩, hans, hvl⟩ := HA.out.src.yes hty
        subst hvy hvl
        have c9 : wa.cell? ⟨R.p, 9, none⟩ = some (.slice Ay R.n cy) := HA.out.cell 9
        have c3 : wa.cell? ⟨R.p, 3, none⟩ = some (.slice (some ⟨R.go, 0, none⟩) R.P R.co) := HA.out.cell 3
        have hql : q.p < R.os.length := by rw [HA.out.st.ol]; exact hqp
        obtain ⟨Ao, co', hA⟩ : ∃ A c, R.os[q.p]? = some (A, c) := ⟨_, _, List.getElem?_eq_getElem hql⟩
        have co : wa.cell? ⟨R.go, q.p, none⟩ = some (.slice Ao R.n co') := by
          rw [HA.out.st.ord.cellAt q.p (by omega), List.getElem?_map, hA]; rfl
        obtain ⟨hnc, hro⟩ := HA.out.st.ordr q.p Ao co' hA
        obtain ⟨A2, hsl, hr2⟩ := slice_cut (P := Try.prog) (t := 53) (sz := 1) Try.underlying53 Try.sizeOf3 (Rd.own hro) q.f q.t co' hft hqt hnc
        have HR : Hid (Rd wa wa.heap.size 1 A2 (q.t - q.f) ((placesL R.s R.n q).map (Value.int .i64))) := Lib.hid (by
          simpa [placesL, List.map_drop, List.map_take] using hr2)
        have HY : Hid (Rd wa wa.heap.size 1 Ay R.n (Z.ys.map Value.bool)) := Lib.hid (hry.mono HA.out.bw)
        have HP : Hid (∀ k : Nat, Calls Try.prog 54 #[.slice Ay R.n cy, .slice A2 (q.t - q.f) (co' - q.f)] (wa.drewN k) fun e w' => e = .returned (.bool (parL Z.ys (placesL R.s R.n q))) ∧ wa.drewN k = w') := Lib.hid fun k =>
          refparity_any Ay A2 R.n cy (q.t - q.f) (co' - q.f) Z.ys (placesL R.s R.n q) _ _ (by omega) (by omega) (HY.out.drewN k) (HR.out.drewN k) (fun x hx => placesL_mem hx)
        have HOR : Hid (oR R.L Z { S with next := q } = some (parL Z.ys (placesL R.s R.n q))) := Lib.hid (by unfold oR; rw [if_pos hty]; rfl)
        have hn0 : (0 : Int) < (R.n : Int) := by omega
        clear hr2 hro hA hql hry
        generalize parL Z.ys (placesL R.s R.n q) = av at HP HOR
        go_wp2_with fail
        go_quiet ((go_at_call 54; exact quiet_e (HP.out _)))
        have HQ3 : Hid (Qw wa (wa.drewN nq)) := Lib.hid ⟨nq, rfl⟩
        have x0 : (wa.drewN nq).cell? ⟨w.heap.size, 0, none⟩ = some (.int .i64 q.p) := x0
        have x1 : (wa.drewN nq).cell? ⟨w.heap.size, 1, none⟩ = some (.int .i64 q.f) := x1
        have x2 : (wa.drewN nq).cell? ⟨w.heap.size, 2, none⟩ = some (.int .i64 q.t) := x2
        generalize wa.drewN nq = w3 at HQ3 x0 x1 x2 ⊢
        have HA3 := Lib.hid (HA.out.q HQ3.out)
        have HT3 := Lib.hid (HTA.out.trans (.of (HQ3.out.below _) HA.out.bw))
        have HX3 : Hid (w3.heap[w.heap.size]? = some (.cells #[.int .i64 q.p, .int .i64 q.f, .int .i64 q.t] 44 (0, 0))) := Lib.hid (by rw [HQ3.out.heap]; exact HXA.out)
        have HMI : Hid (RMid w3 R Z kv vt (.slice none 0 0) (.slice Ay R.n cy) S) := Lib.hid ⟨HA3.out.cells, HA3.out.told, HA3.out.bits, HA3.out.known, HA3.out.pb, HA3.out.st, by
          unfold RSrc; rw [if_pos hty]; exact HA3.out.src.yes hty⟩
        clear c9 c3 co hsl HP HR HY HA HXA HTA HA3 HQ3
        have hlb3 : R.base ≤ w3.heap.size := HMI.out.bw
        have hsm0 : Same3 w3 w3 R.p R.gk w.heap.size := ⟨Nat.le_refl _, rfl, rfl, rfl⟩
        have hblt : w.heap.size < w3.heap.size := (Array.getElem?_eq_some_iff.1 HX3.out).1
        have hgkl : R.gk < w3.heap.size := (HMI.out.st.kno.lt R.gk rfl).2
        have hpl := HMI.out.lt
        have HROW : Hid (w3.ownsRow R.base 46 4 (.slice Ak k cak) k (aCells (knL S.told q.p q.f))) := Lib.hid (by have hrw := HMI.out.known.row q.p q.f hqp hqf; rw [HKV.out, ← HK.out] at hrw; exact hrw)
        have HC4 : Hid (∀ w', Same3 w3 w' R.p R.gk w.heap.size → w'.cell? ⟨R.p, 4, none⟩ = some (.slice (some ⟨R.gk, 0, none⟩) R.P R.ck) ∧ w'.cell? ⟨R.gk, q.p, none⟩ = some (.slice (some ⟨R.kb q.p, 0, none⟩) R.n R.n) ∧ w'.cell? ⟨w.heap.size, 0, none⟩ = some (.int .i64 q.p) ∧ w'.cell? ⟨w.heap.size, 1, none⟩ = some (.int .i64 q.f) ∧ w'.cell? ⟨w.heap.size, 2, none⟩ = some (.int .i64 q.t)) := Lib.hid (fun w' hs => HMI.out.cells3 hqp HX3.out hs)
        clear x0 x1 x2
        try go_wp2_with fail
        refine wp_region_held_drew (S := fun w' => Same3 w3 w' R.p R.gk w.heap.size) (by kernel_rfl) ?_ (fun hHeld => ?_)
        · (try dsimp only); first | exact hsm0 | exact hsm0.drew | exact hHeld.alloc hpl hgkl hblt _ | exact hsm8 | exact hsm9
        refine wpAnyH_take (i := 0) (oi := ⟨some 90, _, _, _, _, _⟩) (v := ?_) rfl (by kernel_rfl) (by kernel_rfl) (by kernel_rfl) (fun _ _ _ h => h) (Or.inl ⟨by rfl, ?_⟩) (by assumption) ?_
        rotate_left
        · (intro w hSw; (try dsimp only at hSw); go_simp; try with_reducible rfl)
        try simp only [Act.put, List.setIfInBounds_toArray, List.set_cons_zero, List.set_cons_succ]
        refine wpAnyH_take (i := 1) (oi := ⟨some 91, _, _, _, _, _⟩) (v := ?_) rfl (by kernel_rfl) (by kernel_rfl) (by kernel_rfl) (fun _ _ _ h => h) (Or.inl ⟨by rfl, ?_⟩) (by assumption) ?_
        rotate_left
        · (intro w hSw; (try dsimp only at hSw); go_simp; try with_reducible rfl)
        try simp only [Act.put, List.setIfInBounds_toArray, List.set_cons_zero, List.set_cons_succ]
        refine wpAnyH_take (i := 2) (oi := ⟨some 92, _, _, _, _, _⟩) (v := ?_) rfl (by kernel_rfl) (by kernel_rfl) (by kernel_rfl) (fun _ _ _ h => h) (Or.inl ⟨by rfl, ?_⟩) (by assumption) ?_
        rotate_left
        · (intro w hSw; (try dsimp only at hSw); go_simp; try with_reducible rfl)
        try simp only [Act.put, List.setIfInBounds_toArray, List.set_cons_zero, List.set_cons_succ]
        refine wpAnyH_take (i := 3) (oi := ⟨some 93, _, _, _, _, _⟩) (v := .slice (some ⟨R.gk, 0, none⟩) R.P R.ck) rfl (by kernel_rfl) (by kernel_rfl) (by kernel_rfl) (fun _ _ _ h => h) (Or.inl ⟨by rfl, ?_⟩) (by assumption) ?_
        · (intro w hSw; (try dsimp only at hSw); obtain ⟨h0, h1, h2, h3, h4⟩ := HC4.out _ hSw; go_simp)
        try simp only [Act.put, List.setIfInBounds_toArray, List.set_cons_zero, List.set_cons_succ]
        refine wpAnyH_take (i := 4) (oi := ⟨some 94, _, _, _, _, _⟩) (v := ?_) rfl (by kernel_rfl) (by kernel_rfl) (by kernel_rfl) (fun _ _ _ h => h) (Or.inl ⟨by rfl, ?_⟩) (by assumption) ?_
        rotate_left
        · (intro w hSw; (try dsimp only at hSw); go_simp; try with_reducible rfl)
        try simp only [Act.put, List.setIfInBounds_toArray, List.set_cons_zero, List.set_cons_succ]
        refine wpAnyH_take (i := 5) (oi := ⟨some 95, _, _, _, _, _⟩) (v := .int .i64 q.p) rfl (by kernel_rfl) (by kernel_rfl) (by kernel_rfl) (fun _ _ _ h => h) (Or.inl ⟨by rfl, ?_⟩) (by assumption) ?_
        · (intro w hSw; (try dsimp only at hSw); obtain ⟨h0, h1, h2, h3, h4⟩ := HC4.out _ hSw; go_simp)
        try simp only [Act.put, List.setIfInBounds_toArray, List.set_cons_zero, List.set_cons_succ]
        refine wpAnyH_take (i := 6) (oi := ⟨some 96, _, _, _, _, _⟩) (v := ?_) rfl (by kernel_rfl) (by kernel_rfl) (by kernel_rfl) (fun _ _ _ h => h) (Or.inl ⟨by rfl, ?_⟩) (by assumption) ?_
        rotate_left
        · (intro w hSw; (try dsimp only at hSw); go_simp; try with_reducible rfl)
        try simp only [Act.put, List.setIfInBounds_toArray, List.set_cons_zero, List.set_cons_succ]
        refine wpAnyH_take (i := 7) (oi := ⟨some 97, _, _, _, _, _⟩) (v := .slice (some ⟨R.kb q.p, 0, none⟩) R.n R.n) rfl (by kernel_rfl) (by kernel_rfl) (by kernel_rfl) (fun _ _ _ h => h) (Or.inl ⟨by rfl, ?_⟩) (by assumption) ?_
        · (intro w hSw; (try dsimp only at hSw); obtain ⟨h0, h1, h2, h3, h4⟩ := HC4.out _ hSw; go_simp)
        try simp only [Act.put, List.setIfInBounds_toArray, List.set_cons_zero, List.set_cons_succ]
        refine wpAnyH_take (i := 8) (oi := ⟨some 98, _, _, _, _, _⟩) (v := ?_) rfl (by kernel_rfl) (by kernel_rfl) (by kernel_rfl) (fun _ _ _ h => h) (Or.inl ⟨by rfl, ?_⟩) (by assumption) ?_
        rotate_left
        · (intro w hSw; (try dsimp only at hSw); go_simp; try with_reducible rfl)
        try simp only [Act.put, List.setIfInBounds_toArray, List.set_cons_zero, List.set_cons_succ]
        refine wpAnyH_take (i := 9) (oi := ⟨some 99, _, _, _, _, _⟩) (v := .int .i64 q.f) rfl (by kernel_rfl) (by kernel_rfl) (by kernel_rfl) (fun _ _ _ h => h) (Or.inl ⟨by rfl, ?_⟩) (by assumption) ?_
        · (intro w hSw; (try dsimp only at hSw); obtain ⟨h0, h1, h2, h3, h4⟩ := HC4.out _ hSw; go_simp)
        try simp only [Act.put, List.setIfInBounds_toArray, List.set_cons_zero, List.set_cons_succ]
        refine wpAnyH_take (i := 10) (oi := ⟨some 100, _, _, _, _, _⟩) (v := ?_) rfl (by kernel_rfl) (by kernel_rfl) (by kernel_rfl) (fun _ _ _ h => h) (Or.inl ⟨by rfl, ?_⟩) (by assumption) ?_
        rotate_left
        · (intro w hSw; (try dsimp only at hSw); go_simp; try with_reducible rfl)
        try simp only [Act.put, List.setIfInBounds_toArray, List.set_cons_zero, List.set_cons_succ]
        refine wpAnyH_take (i := 11) (oi := ⟨some 101, _, _, _, _, _⟩) (v := .agg #[.int .i64 q.p, .int .i64 q.f, .int .i64 q.t]) rfl (by kernel_rfl) (by kernel_rfl) (by kernel_rfl) (fun _ _ _ h => h) (Or.inl ⟨by rfl, ?_⟩) (by assumption) ?_
        · (intro w hSw; (try dsimp only at hSw); obtain ⟨h0, h1, h2, h3, h4⟩ := HC4.out _ hSw; go_simp)
        try simp only [Act.put, List.setIfInBounds_toArray, List.set_cons_zero, List.set_cons_succ]
        refine wpAnyH_take (i := 12) (oi := ⟨some 102, _, _, _, _, _⟩) (v := ?_) rfl (by kernel_rfl) (by kernel_rfl) (by kernel_rfl) (fun _ _ _ h => h) (Or.inl ⟨by rfl, ?_⟩) (by assumption) ?_
        rotate_left
        · (intro w hSw; (try dsimp only at hSw); go_simp; try with_reducible rfl)
        try simp only [Act.put, List.setIfInBounds_toArray, List.set_cons_zero, List.set_cons_succ]
        refine wpAnyH_take (i := 13) (oi := ⟨some 103, _, _, _, _, _⟩) (v := ?_) rfl (by kernel_rfl) (by kernel_rfl) (by kernel_rfl) (fun _ _ _ h => h) (Or.inl ⟨by rfl, ?_⟩) (by assumption) ?_
        rotate_left
        · (intro w hSw; (try dsimp only at hSw); go_simp; try with_reducible rfl)
        try simp only [Act.put, List.setIfInBounds_toArray, List.set_cons_zero, List.set_cons_succ]
        refine wpAnyH_ready (rs := [14]) (by kernel_rfl) (by simp) ?_
        refine AllReadyH.cons (o := ⟨some 104, _, _, _, _, _⟩) rfl (fun K hK => ?_) AllReadyH.nil
        go_simp
        refine hK.out _ _ ?_ (fun hHeld => ?_)
        · (try dsimp only); first | exact hsm0 | exact hsm0.drew | exact hHeld.alloc hpl hgkl hblt _ | exact hsm8 | exact hsm9
        clear hK K
        try simp only [Act.put, List.setIfInBounds_toArray, List.set_cons_zero, List.set_cons_succ]
        refine wpAnyH_ready (rs := [15]) (by kernel_rfl) (by simp) ?_
        refine AllReadyH.cons (o := ⟨some 105, _, _, _, _, _⟩) rfl (fun K hK => ?_) AllReadyH.nil
        refine step_pushL elB_answer (.tmp 100) (.tmp 104) (by rfl) (by rfl) R.base k _ (by rfl) HROW.out.drew (by rfl) (by rfl) (by intro u hu; simp at hu; rcases hu with rfl | rfl | rfl | rfl <;> rfl) (by omega) (by decide) hlb3 ?_
        intro v8 w8 hown8 hb8 hg8 hL8
        obtain ⟨A8, c8, rfl, hc8⟩ := own_form hown8
        have hsm8 : Same3 w3 w8 R.p R.gk w.heap.size := HMI.out.same8 HROW.out HX3.out ⟨hg8.os, hg8.tape, hg8.output, hg8.size, hg8.block⟩
        have hm8 := HMI.out.drew.push1 (a := av) hqp hqf (by rw [← HK.out]; exact hown8) (by rw [HKV.out, ← HK.out]; exact hg8) hb8 (by rw [HKV.out, ← HK.out]; exact hL8) (Nat.le_succ _)
        have HM8 := Lib.hid hm8
        have hsm9 := hm8.same HMI.out HX3.out
        have fk := HM8.out.fk; have ckf8 := HM8.out.ck
        clear hm8 hown8 hb8 hg8 hL8
        refine hK.out _ _ ?_ (fun hHeld => ?_)
        · (try dsimp only); first | exact hsm0 | exact hsm0.drew | exact hHeld.alloc hpl hgkl hblt _ | exact hsm8 | exact hsm9
        clear hK K
        try simp only [Act.put, List.setIfInBounds_toArray, List.set_cons_zero, List.set_cons_succ]
        refine wpAnyH_take (i := 16) (oi := ⟨some 106, _, _, _, _, _⟩) (v := ?_) rfl (by kernel_rfl) (by kernel_rfl) (by kernel_rfl) (fun _ _ _ h => h) (Or.inl ⟨by rfl, ?_⟩) (by assumption) ?_
        rotate_left
        · (intro w hSw; (try dsimp only at hSw); go_simp; try with_reducible rfl)
        try simp only [Act.put, List.setIfInBounds_toArray, List.set_cons_zero, List.set_cons_succ]
        refine wpAnyH_ready (rs := [17]) (by kernel_rfl) (by simp) ?_
        refine AllReadyH.cons (o := ⟨none, _, _, _, _, _⟩) rfl (fun K hK => ?_) AllReadyH.nil
        go_simp
        refine hK.out _ _ ?_ (fun hHeld => ?_)
        · (try dsimp only); first | exact hsm0 | exact hsm0.drew | exact hHeld.alloc hpl hgkl hblt _ | exact hsm8 | exact hsm9
        clear hK K
        try simp only [Act.put, List.setIfInBounds_toArray, List.set_cons_zero, List.set_cons_succ]
        refine wpAnyH_done (by kernel_rfl) ?_ _
        try go_wp2_with fail
        have HM9 := Lib.hid HM8.out.mid
        have HT9 := Lib.hid ((HT3.out.trans (.of (Qw.below (⟨1, rfl⟩ : Qw w3 w3.drew) _) hlb3)).trans HM8.out.turn)
        have HX9 := Lib.hid ((HM8.out.turn.keep _ _ _ HX3.out (by decide) (by decide) (by decide) (by decide)).trans HX3.out)
        generalize w8.setCell ⟨R.kb q.p, q.f, none⟩ (.slice A8 (k + 1) c8) = w9 at HM9 HT9 HX9 ⊢
        obtain ⟨At, ct, hvt, hct⟩ := own_form HM9.out.told
        have hlb9 : R.base ≤ w9.heap.size := HM9.out.bw
        have hsm90 : Same3 w9 w9 R.p R.gk w.heap.size := ⟨Nat.le_refl _, rfl, rfl, rfl⟩
        have hbl9 : w.heap.size < w9.heap.size := (Array.getElem?_eq_some_iff.1 HX9.out).1
        have hgk9 : R.gk < w9.heap.size := (HM9.out.st.kno.lt R.gk rfl).2
        have hpl9 := HM9.out.lt
        have HTO : Hid (w9.ownsRow R.base 46 4 (.slice At S.told.length ct) S.told.length (aCells S.told)) := Lib.hid (by rw [← hvt]; exact HM9.out.told)
        have HC7 : Hid (∀ w', Same3 w9 w' R.p R.gk w.heap.size → w'.cell? ⟨R.p, 7, none⟩ = some (.slice At S.told.length ct) ∧ w'.cell? ⟨w.heap.size, 0, none⟩ = some (.int .i64 q.p) ∧ w'.cell? ⟨w.heap.size, 1, none⟩ = some (.int .i64 q.f) ∧ w'.cell? ⟨w.heap.size, 2, none⟩ = some (.int .i64 q.t)) := Lib.hid (fun w' hs => by rw [← hvt]; exact HM9.out.cells7 HX9.out hs)
        obtain ⟨y7, y0, y1, y2⟩ := HC7.out _ hsm90
        have HVT := Lib.hid hvt
        clear hvt HM8 HMI HT3 HX3 HC4 HROW fk ckf8 hsm8 hsm9 hsm0 hHeld
        go_wp2_with fail
        refine wp_region_held_drew (S := fun w' => True) (by kernel_rfl) ?_ (fun hHeld => ?_)
        · (try dsimp only); all_goals trivial
        refine wpAnyH_take (i := 0) (oi := ⟨some 107, _, _, _, _, _⟩) (v := ?_) rfl (by kernel_rfl) (by kernel_rfl) (by kernel_rfl) (fun _ _ _ h => h) (Or.inl ⟨by rfl, ?_⟩) (by assumption) ?_
        rotate_left
        · (intro w hSw; (try dsimp only at hSw); go_simp; try with_reducible rfl)
        try simp only [Act.put, List.setIfInBounds_toArray, List.set_cons_zero, List.set_cons_succ]
        refine wpAnyH_take (i := 1) (oi := ⟨some 108, _, _, _, _, _⟩) (v := ?_) rfl (by kernel_rfl) (by kernel_rfl) (by kernel_rfl) (fun _ _ _ h => h) (Or.inl ⟨by rfl, ?_⟩) (by assumption) ?_
        rotate_left
        · (intro w hSw; (try dsimp only at hSw); go_simp; try with_reducible rfl)
        try simp only [Act.put, List.setIfInBounds_toArray, List.set_cons_zero, List.set_cons_succ]
        refine wpAnyH_take (i := 2) (oi := ⟨some 109, _, _, _, _, _⟩) (v := ?_) rfl (by kernel_rfl) (by kernel_rfl) (by kernel_rfl) (fun _ _ _ h => h) (Or.inl ⟨by rfl, ?_⟩) (by assumption) ?_
        rotate_left
        · (intro w hSw; (try dsimp only at hSw); go_simp; try with_reducible rfl)
        try simp only [Act.put, List.setIfInBounds_toArray, List.set_cons_zero, List.set_cons_succ]
        refine wpAnyH_take (i := 3) (oi := ⟨some 110, _, _, _, _, _⟩) (v := ?_) rfl (by kernel_rfl) (by kernel_rfl) (by kernel_rfl) (fun _ _ _ h => h) (Or.inl ⟨by rfl, ?_⟩) (by assumption) ?_
        rotate_left
        · (intro w hSw; (try dsimp only at hSw); go_simp; try with_reducible rfl)
        try simp only [Act.put, List.setIfInBounds_toArray, List.set_cons_zero, List.set_cons_succ]
        refine wpAnyH_take (i := 6) (oi := ⟨some 113, _, _, _, _, _⟩) (v := ?_) rfl (by kernel_rfl) (by kernel_rfl) (by kernel_rfl) (fun _ _ _ h => h) (Or.inl ⟨by rfl, ?_⟩) (by assumption) ?_
        rotate_left
        · (intro w hSw; (try dsimp only at hSw); go_simp; try with_reducible rfl)
        try simp only [Act.put, List.setIfInBounds_toArray, List.set_cons_zero, List.set_cons_succ]
        refine wpAnyH_ready (rs := [4, 5]) (by kernel_rfl) (by simp) ?_
        refine AllReadyH.cons (o := ⟨some 111, _, _, _, _, _⟩) rfl (fun K hK => ?_) ?_
        · skip
          go_simp
          refine hK.out _ _ ?_ (fun hHeld => ?_)
          · (try dsimp only); all_goals trivial
          clear hK K
          try simp only [Act.put, List.setIfInBounds_toArray, List.set_cons_zero, List.set_cons_succ]
          refine wpAnyH_ready (rs := [5]) (by kernel_rfl) (by simp) ?_
          refine AllReadyH.cons (o := ⟨some 112, _, _, _, _, _⟩) rfl (fun K hK => ?_) AllReadyH.nil
          go_simp
          refine hK.out _ _ ?_ (fun hHeld => ?_)
          · (try dsimp only); all_goals trivial
          clear hK K
          try simp only [Act.put, List.setIfInBounds_toArray, List.set_cons_zero, List.set_cons_succ]
          refine wpAnyH_take (i := 7) (oi := ⟨some 114, _, _, _, _, _⟩) (v := ?_) rfl (by kernel_rfl) (by kernel_rfl) (by kernel_rfl) (fun _ _ _ h => h) (Or.inl ⟨by rfl, ?_⟩) (by assumption) ?_
          rotate_left
          · (intro w hSw; (try dsimp only at hSw); go_simp; try with_reducible rfl)
          try simp only [Act.put, List.setIfInBounds_toArray, List.set_cons_zero, List.set_cons_succ]
          refine wpAnyH_ready (rs := [8]) (by kernel_rfl) (by simp) ?_
          refine AllReadyH.cons (o := ⟨some 115, _, _, _, _, _⟩) rfl (fun K hK => ?_) AllReadyH.nil
          go_simp
          refine hK.out _ _ ?_ (fun hHeld => ?_)
          · (try dsimp only); all_goals trivial
          clear hK K
          try simp only [Act.put, List.setIfInBounds_toArray, List.set_cons_zero, List.set_cons_succ]
          refine wpAnyH_ready (rs := [9]) (by kernel_rfl) (by simp) ?_
          refine AllReadyH.cons (o := ⟨some 116, _, _, _, _, _⟩) rfl (fun K hK => ?_) AllReadyH.nil
          refine step_pushL elB_answer (.tmp 111) (.tmp 115) (by rfl) (by rfl) R.base S.told.length _ (by rfl) HTO.out.drew (by rfl) (by rfl) (by intro u hu; simp at hu; rcases hu with rfl | rfl | rfl | rfl <;> rfl) (by omega) (by decide) hlb9 ?_
          intro v10 w10 hown10 hb10 hg10 hL10
          obtain ⟨A10, c10, rfl, hc10⟩ := own_form hown10
          have hsm10 : Same3 w9 w10 R.p R.gk w.heap.size := HM9.out.same10 HX9.out (by rw [HVT.out]; exact ⟨hg10.os, hg10.tape, hg10.output, hg10.size, hg10.block⟩)
          have HM10 := Lib.hid (HM9.out.drew.push2 hown10 (by rw [HVT.out]; exact hg10) hb10 (by rw [HVT.out]; exact hL10) (Nat.le_succ _))
          have fk2 := HM10.out.fk; have ck2 := HM10.out.ck
          clear hown10 hb10 hg10 hL10
          refine hK.out _ _ ?_ (fun hHeld => ?_)
          · (try dsimp only); all_goals trivial
          clear hK K
          try simp only [Act.put, List.setIfInBounds_toArray, List.set_cons_zero, List.set_cons_succ]
          refine wpAnyH_take (i := 10) (oi := ⟨some 117, _, _, _, _, _⟩) (v := ?_) rfl (by kernel_rfl) (by kernel_rfl) (by kernel_rfl) (fun _ _ _ h => h) (Or.inl ⟨by rfl, ?_⟩) (by assumption) ?_
          rotate_left
          · (intro w hSw; (try dsimp only at hSw); go_simp; try with_reducible rfl)
          try simp only [Act.put, List.setIfInBounds_toArray, List.set_cons_zero, List.set_cons_succ]
          refine wpAnyH_take (i := 11) (oi := ⟨some 118, _, _, _, _, _⟩) (v := ?_) rfl (by kernel_rfl) (by kernel_rfl) (by kernel_rfl) (fun _ _ _ h => h) (Or.inl ⟨by rfl, ?_⟩) (by assumption) ?_
          rotate_left
          · (intro w hSw; (try dsimp only at hSw); go_simp; try with_reducible rfl)
          try simp only [Act.put, List.setIfInBounds_toArray, List.set_cons_zero, List.set_cons_succ]
          refine wpAnyH_ready (rs := [12]) (by kernel_rfl) (by simp) ?_
          refine AllReadyH.cons (o := ⟨none, _, _, _, _, _⟩) rfl (fun K hK => ?_) AllReadyH.nil
          go_simp
          refine hK.out _ _ ?_ (fun hHeld => ?_)
          · (try dsimp only); all_goals trivial
          clear hK K
          try simp only [Act.put, List.setIfInBounds_toArray, List.set_cons_zero, List.set_cons_succ]
          refine wpAnyH_done (by kernel_rfl) ?_ _
          go_wp2_with fail
          go_ret2
          exact ⟨_, true, rfl, (HT9.out.trans (.of (Qw.below (⟨1, rfl⟩ : Qw w9 w9.drew) _) hlb9)).trans HM10.out.turn, .inr (.inr ⟨HNO.out, HOR.out, rfl, _, _, _, HM10.out.at_⟩)⟩
        refine AllReadyH.cons (o := ⟨some 112, _, _, _, _, _⟩) rfl (fun K hK => ?_) AllReadyH.nil
        go_simp
        refine hK.out _ _ ?_ (fun hHeld => ?_)
        · (try dsimp only); all_goals trivial
        clear hK K
        try simp only [Act.put, List.setIfInBounds_toArray, List.set_cons_zero, List.set_cons_succ]
        refine wpAnyH_take (i := 7) (oi := ⟨some 114, _, _, _, _, _⟩) (v := ?_) rfl (by kernel_rfl) (by kernel_rfl) (by kernel_rfl) (fun _ _ _ h => h) (Or.inl ⟨by rfl, ?_⟩) (by assumption) ?_
        rotate_left
        · (intro w hSw; (try dsimp only at hSw); go_simp; try with_reducible rfl)
        try simp only [Act.put, List.setIfInBounds_toArray, List.set_cons_zero, List.set_cons_succ]
        refine wpAnyH_ready (rs := [4, 8]) (by kernel_rfl) (by simp) ?_
        refine AllReadyH.cons (o := ⟨some 111, _, _, _, _, _⟩) rfl (fun K hK => ?_) ?_
        · skip
          go_simp
          refine hK.out _ _ ?_ (fun hHeld => ?_)
          · (try dsimp only); all_goals trivial
          clear hK K
          try simp only [Act.put, List.setIfInBounds_toArray, List.set_cons_zero, List.set_cons_succ]
          refine wpAnyH_ready (rs := [8]) (by kernel_rfl) (by simp) ?_
          refine AllReadyH.cons (o := ⟨some 115, _, _, _, _, _⟩) rfl (fun K hK => ?_) AllReadyH.nil
          go_simp
          refine hK.out _ _ ?_ (fun hHeld => ?_)
          · (try dsimp only); all_goals trivial
          clear hK K
          try simp only [Act.put, List.setIfInBounds_toArray, List.set_cons_zero, List.set_cons_succ]
          refine wpAnyH_ready (rs := [9]) (by kernel_rfl) (by simp) ?_
          refine AllReadyH.cons (o := ⟨some 116, _, _, _, _, _⟩) rfl (fun K hK => ?_) AllReadyH.nil
          refine step_pushL elB_answer (.tmp 111) (.tmp 115) (by rfl) (by rfl) R.base S.told.length _ (by rfl) HTO.out.drew (by rfl) (by rfl) (by intro u hu; simp at hu; rcases hu with rfl | rfl | rfl | rfl <;> rfl) (by omega) (by decide) hlb9 ?_
          intro v10 w10 hown10 hb10 hg10 hL10
          obtain ⟨A10, c10, rfl, hc10⟩ := own_form hown10
          have hsm10 : Same3 w9 w10 R.p R.gk w.heap.size := HM9.out.same10 HX9.out (by rw [HVT.out]; exact ⟨hg10.os, hg10.tape, hg10.output, hg10.size, hg10.block⟩)
          have HM10 := Lib.hid (HM9.out.drew.push2 hown10 (by rw [HVT.out]; exact hg10) hb10 (by rw [HVT.out]; exact hL10) (Nat.le_succ _))
          have fk2 := HM10.out.fk; have ck2 := HM10.out.ck
          clear hown10 hb10 hg10 hL10
          refine hK.out _ _ ?_ (fun hHeld => ?_)
          · (try dsimp only); all_goals trivial
          clear hK K
          try simp only [Act.put, List.setIfInBounds_toArray, List.set_cons_zero, List.set_cons_succ]
          refine wpAnyH_take (i := 10) (oi := ⟨some 117, _, _, _, _, _⟩) (v := ?_) rfl (by kernel_rfl) (by kernel_rfl) (by kernel_rfl) (fun _ _ _ h => h) (Or.inl ⟨by rfl, ?_⟩) (by assumption) ?_
          rotate_left
          · (intro w hSw; (try dsimp only at hSw); go_simp; try with_reducible rfl)
          try simp only [Act.put, List.setIfInBounds_toArray, List.set_cons_zero, List.set_cons_succ]
          refine wpAnyH_take (i := 11) (oi := ⟨some 118, _, _, _, _, _⟩) (v := ?_) rfl (by kernel_rfl) (by kernel_rfl) (by kernel_rfl) (fun _ _ _ h => h) (Or.inl ⟨by rfl, ?_⟩) (by assumption) ?_
          rotate_left
          · (intro w hSw; (try dsimp only at hSw); go_simp; try with_reducible rfl)
          try simp only [Act.put, List.setIfInBounds_toArray, List.set_cons_zero, List.set_cons_succ]
          refine wpAnyH_ready (rs := [12]) (by kernel_rfl) (by simp) ?_
          refine AllReadyH.cons (o := ⟨none, _, _, _, _, _⟩) rfl (fun K hK => ?_) AllReadyH.nil
          go_simp
          refine hK.out _ _ ?_ (fun hHeld => ?_)
          · (try dsimp only); all_goals trivial
          clear hK K
          try simp only [Act.put, List.setIfInBounds_toArray, List.set_cons_zero, List.set_cons_succ]
          refine wpAnyH_done (by kernel_rfl) ?_ _
          go_wp2_with fail
          go_ret2
          exact ⟨_, true, rfl, (HT9.out.trans (.of (Qw.below (⟨1, rfl⟩ : Qw w9 w9.drew) _) hlb9)).trans HM10.out.turn, .inr (.inr ⟨HNO.out, HOR.out, rfl, _, _, _, HM10.out.at_⟩)⟩
        refine AllReadyH.cons (o := ⟨some 115, _, _, _, _, _⟩) rfl (fun K hK => ?_) AllReadyH.nil
        go_simp
        refine hK.out _ _ ?_ (fun hHeld => ?_)
        · (try dsimp only); all_goals trivial
        clear hK K
        try simp only [Act.put, List.setIfInBounds_toArray, List.set_cons_zero, List.set_cons_succ]
        refine wpAnyH_ready (rs := [4]) (by kernel_rfl) (by simp) ?_
        refine AllReadyH.cons (o := ⟨some 111, _, _, _, _, _⟩) rfl (fun K hK => ?_) AllReadyH.nil
        go_simp
        refine hK.out _ _ ?_ (fun hHeld => ?_)
        · (try dsimp only); all_goals trivial
        clear hK K
        try simp only [Act.put, List.setIfInBounds_toArray, List.set_cons_zero, List.set_cons_succ]
        refine wpAnyH_ready (rs := [9]) (by kernel_rfl) (by simp) ?_
        refine AllReadyH.cons (o := ⟨some 116, _, _, _, _, _⟩) rfl (fun K hK => ?_) AllReadyH.nil
        refine step_pushL elB_answer (.tmp 111) (.tmp 115) (by rfl) (by rfl) R.base S.told.length _ (by rfl) HTO.out.drew (by rfl) (by rfl) (by intro u hu; simp at hu; rcases hu with rfl | rfl | rfl | rfl <;> rfl) (by omega) (by decide) hlb9 ?_
        intro v10 w10 hown10 hb10 hg10 hL10
        obtain ⟨A10, c10, rfl, hc10⟩ := own_form hown10
        have hsm10 : Same3 w9 w10 R.p R.gk w.heap.size := HM9.out.same10 HX9.out (by rw [HVT.out]; exact ⟨hg10.os, hg10.tape, hg10.output, hg10.size, hg10.block⟩)
        have HM10 := Lib.hid (HM9.out.drew.push2 hown10 (by rw [HVT.out]; exact hg10) hb10 (by rw [HVT.out]; exact hL10) (Nat.le_succ _))
        have fk2 := HM10.out.fk; have ck2 := HM10.out.ck
        clear hown10 hb10 hg10 hL10
        refine hK.out _ _ ?_ (fun hHeld => ?_)
        · (try dsimp only); all_goals trivial
        clear hK K
        try simp only [Act.put, List.setIfInBounds_toArray, List.set_cons_zero, List.set_cons_succ]
        refine wpAnyH_take (i := 10) (oi := ⟨some 117, _, _, _, _, _⟩) (v := ?_) rfl (by kernel_rfl) (by kernel_rfl) (by kernel_rfl) (fun _ _ _ h => h) (Or.inl ⟨by rfl, ?_⟩) (by assumption) ?_
        rotate_left
        · (intro w hSw; (try dsimp only at hSw); go_simp; try with_reducible rfl)
        try simp only [Act.put, List.setIfInBounds_toArray, List.set_cons_zero, List.set_cons_succ]
        refine wpAnyH_take (i := 11) (oi := ⟨some 118, _, _, _, _, _⟩) (v := ?_) rfl (by kernel_rfl) (by kernel_rfl) (by kernel_rfl) (fun _ _ _ h => h) (Or.inl ⟨by rfl, ?_⟩) (by assumption) ?_
        rotate_left
        · (intro w hSw; (try dsimp only at hSw); go_simp; try with_reducible rfl)
        try simp only [Act.put, List.setIfInBounds_toArray, List.set_cons_zero, List.set_cons_succ]
        refine wpAnyH_ready (rs := [12]) (by kernel_rfl) (by simp) ?_
        refine AllReadyH.cons (o := ⟨none, _, _, _, _, _⟩) rfl (fun K hK => ?_) AllReadyH.nil
        go_simp
        refine hK.out _ _ ?_ (fun hHeld => ?_)
        · (try dsimp only); all_goals trivial
        clear hK K
        try simp only [Act.put, List.setIfInBounds_toArray, List.set_cons_zero, List.set_cons_succ]
        refine wpAnyH_done (by kernel_rfl) ?_ _
        go_wp2_with fail
        go_ret2
        exact ⟨_, true, rfl, (HT9.out.trans (.of (Qw.below (⟨1, rfl⟩ : Qw w9 w9.drew) _) hlb9)).trans HM10.out.turn, .inr (.inr ⟨HNO.out, HOR.out, rfl, _, _, _, HM10.out.at_⟩)⟩
      · have hty' : Z.ty = false := by simpa using hty
        obtain ⟨hvy, Al, cl, hvl, hcl, hrl⟩ := HA.out.src.no hty'
        subst hvy
        have HOR0 : Hid (oR R.L Z { S with next := q } = Z.ans[S.told.length]?) := Lib.hid (by unfold oR; rw [if_neg hty])
        have c9 : wa.cell? ⟨R.p, 9, none⟩ = some (.slice none 0 0) := HA.out.cell 9
        have c8 : wa.cell? ⟨R.p, 8, none⟩ = some (.slice Al (Z.ans.drop S.told.length).length cl) := by rw [← hvl]; exact HA.out.cell 8
        obtain ⟨N, hN⟩ : ∃ N, N = (Z.ans.drop S.told.length).length := ⟨_, rfl⟩
        have HN := Lib.hid hN
        have hrl2 := hrl
        rw [← hN] at c8 hrl2 hcl
        have HRL := Lib.hid hrl2
        clear hrl hrl2 hN hvl
        by_cases hN0 : N = 0
        · subst hN0
          have HNONE : Hid (oR R.L Z { S with next := q } = none) := Lib.hid (by
            rw [HOR0.out, List.getElem?_eq_none]
            have := HN.out
            rw [List.length_drop] at this
            omega)
          have fz : ∀ o, wa.frozen? ⟨R.p, o, none⟩ = false := fun o => HA.out.frozen o
          have k10 : wa.cell? ⟨R.p, 10, none⟩ = some (.int .i64 S.next.p) := HA.out.cell 10
          have k11 : wa.cell? ⟨R.p, 11, none⟩ = some (.int .i64 S.next.f) := HA.out.cell 11
          have k12 : wa.cell? ⟨R.p, 12, none⟩ = some (.int .i64 S.next.t) := HA.out.cell 12
          have k13 : wa.cell? ⟨R.p, 13, none⟩ = some (.bool S.opn) := HA.out.cell 13
          have m1 := HA.out.set 10 (.int .i64 q.p) { S with next := ⟨q.p, S.next.f, S.next.t⟩ } rfl rfl rfl HA.out.src
          have m2 := m1.set 11 (.int .i64 q.f) { S with next := ⟨q.p, q.f, S.next.t⟩ } rfl rfl rfl m1.src
          have m3 := m2.set 12 (.int .i64 q.t) { S with next := q } rfl rfl rfl m2.src
          have m4 := m3.set 13 (.bool true) { S with next := q, opn := true } rfl rfl rfl m3.src
          have t4 := (((RTurn.set HA.out.cells HA.out.pb (o := 10) (.int .i64 q.p)).trans (.set m1.cells m1.pb (o := 11) (.int .i64 q.f))).trans (.set m2.cells m2.pb (o := 12) (.int .i64 q.t))).trans (.set m3.cells m3.pb (o := 13) (.bool true))
          have HM4 := Lib.hid m4; have HT4 := Lib.hid (HTA.out.trans t4)
          clear m1 m2 m3 m4 t4
          go_wp2_with fail
          go_ret2
          exact ⟨false, false, rfl, HT4.out, .inr (.inl ⟨HNO.out, HNONE.out, rfl, HM4.out⟩)⟩
        · obtain ⟨bl, ol, rfl, hbl, hcl2⟩ := HRL.out.2 (by omega)
          have hlt2 : S.told.length < Z.ans.length := by
            have := HN.out
            rw [List.length_drop] at this
            omega
          have hdr : Z.ans.drop S.told.length = Z.ans[S.told.length] :: Z.ans.drop (S.told.length + 1) := List.drop_eq_getElem_cons hlt2
          have l0 : wa.cell? ⟨bl, ol, none⟩ = some (.bool Z.ans[S.told.length]) := by
            have := hcl2 0 (.bool Z.ans[S.told.length]) (by rw [hdr]; rfl)
            simpa using this
          have HOR : Hid (oR R.L Z { S with next := q } = some Z.ans[S.told.length]) := Lib.hid (by rw [HOR0.out, List.getElem?_eq_getElem hlt2])
          obtain ⟨A2, hsl0, hr2⟩ := slice_tl (P := Try.prog) (t := 25) (sz := 1) Try.underlying25 Try.sizeOf4 HRL.out 1 cl (by omega) hcl
          have hsl : ∀ w', (Instr.sliceAt 25 (.slice (some ⟨bl, ol, none⟩) N cl) (some (.int .i64 1)) none none).run Try.prog w' = .ok (.slice A2 (N - 1) (cl - 1)) w' := hsl0
          have hN1 : N - 1 = (Z.ans.drop (S.told.length + 1)).length := by
            have := HN.out
            rw [List.length_drop] at this ⊢
            omega
          have hsrc : RSrc wa R Z (.slice A2 (N - 1) (cl - 1)) (.slice none 0 0) (S.told.length + 1) := by
            unfold RSrc
            rw [if_neg hty]
            refine ⟨rfl, A2, cl - 1, by rw [hN1], by omega, ?_⟩
            rw [← hN1]
            have e : (((Z.ans.drop S.told.length).map Value.bool).drop (1 * 1)).take ((N - 1) * 1) = (Z.ans.drop (S.told.length + 1)).map Value.bool := by
              rw [hdr, List.map_cons, Nat.one_mul, List.drop_succ_cons, List.drop_zero, Nat.mul_one, hN1, List.take_of_length_le (by rw [List.length_map]; exact Nat.le_refl _)]
            rw [e] at hr2
            exact hr2
          have hmi := HA.out.left (.slice A2 (N - 1) (cl - 1)) hsrc
          have ht3 := HTA.out.trans (.set HA.out.cells HA.out.pb (o := 8) (.slice A2 (N - 1) (cl - 1)))
          have hx3 := ((RTurn.set HA.out.cells HA.out.pb (o := 8) (.slice A2 (N - 1) (cl - 1)) : RTurn R.base wa _).keep _ _ _ HXA.out (by decide) (by decide) (by decide) (by decide)).trans HXA.out
          have HMI := Lib.hid hmi; have HT3 := Lib.hid ht3; have HX3 := Lib.hid hx3
          have f8 : wa.frozen? ⟨R.p, 8, none⟩ = false := HA.out.frozen 8
          have hN0i : ((N : Int) == 0) = false := by rw [beq_eq_false_iff_ne]; omega
          have hN0j : (0 : Int) < (N : Int) := by omega
          generalize Z.ans[S.told.length] = av at l0 HOR
          clear hmi ht3 hx3 hsrc hsl0 hr2 hdr hcl2 HRL HN hN1 HOR0 HXA HTA HA hN0
          go_wp2_with fail
          generalize wa.setCell ⟨R.p, 8, none⟩ (.slice A2 (N - 1) (cl - 1)) = w3 at HMI HT3 HX3 ⊢
          clear c8 c9 l0 f8 hsl hN0i hN0j hcl
          have hlb3 : R.base ≤ w3.heap.size := HMI.out.bw
          have hsm0 : Same3 w3 w3 R.p R.gk w.heap.size := ⟨Nat.le_refl _, rfl, rfl, rfl⟩
          have hblt : w.heap.size < w3.heap.size := (Array.getElem?_eq_some_iff.1 HX3.out).1
          have hgkl : R.gk < w3.heap.size := (HMI.out.st.kno.lt R.gk rfl).2
          have hpl := HMI.out.lt
          have HROW : Hid (w3.ownsRow R.base 46 4 (.slice Ak k cak) k (aCells (knL S.told q.p q.f))) := Lib.hid (by have hrw := HMI.out.known.row q.p q.f hqp hqf; rw [HKV.out, ← HK.out] at hrw; exact hrw)
          have HC4 : Hid (∀ w', Same3 w3 w' R.p R.gk w.heap.size → w'.cell? ⟨R.p, 4, none⟩ = some (.slice (some ⟨R.gk, 0, none⟩) R.P R.ck) ∧ w'.cell? ⟨R.gk, q.p, none⟩ = some (.slice (some ⟨R.kb q.p, 0, none⟩) R.n R.n) ∧ w'.cell? ⟨w.heap.size, 0, none⟩ = some (.int .i64 q.p) ∧ w'.cell? ⟨w.heap.size, 1, none⟩ = some (.int .i64 q.f) ∧ w'.cell? ⟨w.heap.size, 2, none⟩ = some (.int .i64 q.t)) := Lib.hid (fun w' hs => HMI.out.cells3 hqp HX3.out hs)
          clear x0 x1 x2
          try go_wp2_with fail
          refine wp_region_held_drew (S := fun w' => Same3 w3 w' R.p R.gk w.heap.size) (by kernel_rfl) ?_ (fun hHeld => ?_)
          · (try dsimp only); first | exact hsm0 | exact hsm0.drew | exact hHeld.alloc hpl hgkl hblt _ | exact hsm8 | exact hsm9
          refine wpAnyH_take (i := 0) (oi := ⟨some 90, _, _, _, _, _⟩) (v := ?_) rfl (by kernel_rfl) (by kernel_rfl) (by kernel_rfl) (fun _ _ _ h => h) (Or.inl ⟨by rfl, ?_⟩) (by assumption) ?_
          rotate_left
          · (intro w hSw; (try dsimp only at hSw); go_simp; try with_reducible rfl)
          try simp only [Act.put, List.setIfInBounds_toArray, List.set_cons_zero, List.set_cons_succ]
          refine wpAnyH_take (i := 1) (oi := ⟨some 91, _, _, _, _, _⟩) (v := ?_) rfl (by kernel_rfl) (by kernel_rfl) (by kernel_rfl) (fun _ _ _ h => h) (Or.inl ⟨by rfl, ?_⟩) (by assumption) ?_
          rotate_left
          · (intro w hSw; (try dsimp only at hSw); go_simp; try with_reducible rfl)
          try simp only [Act.put, List.setIfInBounds_toArray, List.set_cons_zero, List.set_cons_succ]
          refine wpAnyH_take (i := 2) (oi := ⟨some 92, _, _, _, _, _⟩) (v := ?_) rfl (by kernel_rfl) (by kernel_rfl) (by kernel_rfl) (fun _ _ _ h => h) (Or.inl ⟨by rfl, ?_⟩) (by assumption) ?_
          rotate_left
          · (intro w hSw; (try dsimp only at hSw); go_simp; try with_reducible rfl)
          try simp only [Act.put, List.setIfInBounds_toArray, List.set_cons_zero, List.set_cons_succ]
          refine wpAnyH_take (i := 3) (oi := ⟨some 93, _, _, _, _, _⟩) (v := .slice (some ⟨R.gk, 0, none⟩) R.P R.ck) rfl (by kernel_rfl) (by kernel_rfl) (by kernel_rfl) (fun _ _ _ h => h) (Or.inl ⟨by rfl, ?_⟩) (by assumption) ?_
          · (intro w hSw; (try dsimp only at hSw); obtain ⟨h0, h1, h2, h3, h4⟩ := HC4.out _ hSw; go_simp)
          try simp only [Act.put, List.setIfInBounds_toArray, List.set_cons_zero, List.set_cons_succ]
          refine wpAnyH_take (i := 4) (oi := ⟨some 94, _, _, _, _, _⟩) (v := ?_) rfl (by kernel_rfl) (by kernel_rfl) (by kernel_rfl) (fun _ _ _ h => h) (Or.inl ⟨by rfl, ?_⟩) (by assumption) ?_
          rotate_left
          · (intro w hSw; (try dsimp only at hSw); go_simp; try with_reducible rfl)
          try simp only [Act.put, List.setIfInBounds_toArray, List.set_cons_zero, List.set_cons_succ]
          refine wpAnyH_take (i := 5) (oi := ⟨some 95, _, _, _, _, _⟩) (v := .int .i64 q.p) rfl (by kernel_rfl) (by kernel_rfl) (by kernel_rfl) (fun _ _ _ h => h) (Or.inl ⟨by rfl, ?_⟩) (by assumption) ?_
          · (intro w hSw; (try dsimp only at hSw); obtain ⟨h0, h1, h2, h3, h4⟩ := HC4.out _ hSw; go_simp)
          try simp only [Act.put, List.setIfInBounds_toArray, List.set_cons_zero, List.set_cons_succ]
          refine wpAnyH_take (i := 6) (oi := ⟨some 96, _, _, _, _, _⟩) (v := ?_) rfl (by kernel_rfl) (by kernel_rfl) (by kernel_rfl) (fun _ _ _ h => h) (Or.inl ⟨by rfl, ?_⟩) (by assumption) ?_
          rotate_left
          · (intro w hSw; (try dsimp only at hSw); go_simp; try with_reducible rfl)
          try simp only [Act.put, List.setIfInBounds_toArray, List.set_cons_zero, List.set_cons_succ]
          refine wpAnyH_take (i := 7) (oi := ⟨some 97, _, _, _, _, _⟩) (v := .slice (some ⟨R.kb q.p, 0, none⟩) R.n R.n) rfl (by kernel_rfl) (by kernel_rfl) (by kernel_rfl) (fun _ _ _ h => h) (Or.inl ⟨by rfl, ?_⟩) (by assumption) ?_
          · (intro w hSw; (try dsimp only at hSw); obtain ⟨h0, h1, h2, h3, h4⟩ := HC4.out _ hSw; go_simp)
          try simp only [Act.put, List.setIfInBounds_toArray, List.set_cons_zero, List.set_cons_succ]
          refine wpAnyH_take (i := 8) (oi := ⟨some 98, _, _, _, _, _⟩) (v := ?_) rfl (by kernel_rfl) (by kernel_rfl) (by kernel_rfl) (fun _ _ _ h => h) (Or.inl ⟨by rfl, ?_⟩) (by assumption) ?_
          rotate_left
          · (intro w hSw; (try dsimp only at hSw); go_simp; try with_reducible rfl)
          try simp only [Act.put, List.setIfInBounds_toArray, List.set_cons_zero, List.set_cons_succ]
          refine wpAnyH_take (i := 9) (oi := ⟨some 99, _, _, _, _, _⟩) (v := .int .i64 q.f) rfl (by kernel_rfl) (by kernel_rfl) (by kernel_rfl) (fun _ _ _ h => h) (Or.inl ⟨by rfl, ?_⟩) (by assumption) ?_
          · (intro w hSw; (try dsimp only at hSw); obtain ⟨h0, h1, h2, h3, h4⟩ := HC4.out _ hSw; go_simp)
          try simp only [Act.put, List.setIfInBounds_toArray, List.set_cons_zero, List.set_cons_succ]
          refine wpAnyH_take (i := 10) (oi := ⟨some 100, _, _, _, _, _⟩) (v := ?_) rfl (by kernel_rfl) (by kernel_rfl) (by kernel_rfl) (fun _ _ _ h => h) (Or.inl ⟨by rfl, ?_⟩) (by assumption) ?_
          rotate_left
          · (intro w hSw; (try dsimp only at hSw); go_simp; try with_reducible rfl)
          try simp only [Act.put, List.setIfInBounds_toArray, List.set_cons_zero, List.set_cons_succ]
          refine wpAnyH_take (i := 11) (oi := ⟨some 101, _, _, _, _, _⟩) (v := .agg #[.int .i64 q.p, .int .i64 q.f, .int .i64 q.t]) rfl (by kernel_rfl) (by kernel_rfl) (by kernel_rfl) (fun _ _ _ h => h) (Or.inl ⟨by rfl, ?_⟩) (by assumption) ?_
          · (intro w hSw; (try dsimp only at hSw); obtain ⟨h0, h1, h2, h3, h4⟩ := HC4.out _ hSw; go_simp)
          try simp only [Act.put, List.setIfInBounds_toArray, List.set_cons_zero, List.set_cons_succ]
          refine wpAnyH_take (i := 12) (oi := ⟨some 102, _, _, _, _, _⟩) (v := ?_) rfl (by kernel_rfl) (by kernel_rfl) (by kernel_rfl) (fun _ _ _ h => h) (Or.inl ⟨by rfl, ?_⟩) (by assumption) ?_
          rotate_left
          · (intro w hSw; (try dsimp only at hSw); go_simp; try with_reducible rfl)
          try simp only [Act.put, List.setIfInBounds_toArray, List.set_cons_zero, List.set_cons_succ]
          refine wpAnyH_take (i := 13) (oi := ⟨some 103, _, _, _, _, _⟩) (v := ?_) rfl (by kernel_rfl) (by kernel_rfl) (by kernel_rfl) (fun _ _ _ h => h) (Or.inl ⟨by rfl, ?_⟩) (by assumption) ?_
          rotate_left
          · (intro w hSw; (try dsimp only at hSw); go_simp; try with_reducible rfl)
          try simp only [Act.put, List.setIfInBounds_toArray, List.set_cons_zero, List.set_cons_succ]
          refine wpAnyH_ready (rs := [14]) (by kernel_rfl) (by simp) ?_
          refine AllReadyH.cons (o := ⟨some 104, _, _, _, _, _⟩) rfl (fun K hK => ?_) AllReadyH.nil
          go_simp
          refine hK.out _ _ ?_ (fun hHeld => ?_)
          · (try dsimp only); first | exact hsm0 | exact hsm0.drew | exact hHeld.alloc hpl hgkl hblt _ | exact hsm8 | exact hsm9
          clear hK K
          try simp only [Act.put, List.setIfInBounds_toArray, List.set_cons_zero, List.set_cons_succ]
          refine wpAnyH_ready (rs := [15]) (by kernel_rfl) (by simp) ?_
          refine AllReadyH.cons (o := ⟨some 105, _, _, _, _, _⟩) rfl (fun K hK => ?_) AllReadyH.nil
          refine step_pushL elB_answer (.tmp 100) (.tmp 104) (by rfl) (by rfl) R.base k _ (by rfl) HROW.out.drew (by rfl) (by rfl) (by intro u hu; simp at hu; rcases hu with rfl | rfl | rfl | rfl <;> rfl) (by omega) (by decide) hlb3 ?_
          intro v8 w8 hown8 hb8 hg8 hL8
          obtain ⟨A8, c8, rfl, hc8⟩ := own_form hown8
          have hsm8 : Same3 w3 w8 R.p R.gk w.heap.size := HMI.out.same8 HROW.out HX3.out ⟨hg8.os, hg8.tape, hg8.output, hg8.size, hg8.block⟩
          have hm8 := HMI.out.drew.push1 (a := av) hqp hqf (by rw [← HK.out]; exact hown8) (by rw [HKV.out, ← HK.out]; exact hg8) hb8 (by rw [HKV.out, ← HK.out]; exact hL8) (Nat.le_succ _)
          have HM8 := Lib.hid hm8
          have hsm9 := hm8.same HMI.out HX3.out
          have fk := HM8.out.fk; have ckf8 := HM8.out.ck
          clear hm8 hown8 hb8 hg8 hL8
          refine hK.out _ _ ?_ (fun hHeld => ?_)
          · (try dsimp only); first | exact hsm0 | exact hsm0.drew | exact hHeld.alloc hpl hgkl hblt _ | exact hsm8 | exact hsm9
          clear hK K
          try simp only [Act.put, List.setIfInBounds_toArray, List.set_cons_zero, List.set_cons_succ]
          refine wpAnyH_take (i := 16) (oi := ⟨some 106, _, _, _, _, _⟩) (v := ?_) rfl (by kernel_rfl) (by kernel_rfl) (by kernel_rfl) (fun _ _ _ h => h) (Or.inl ⟨by rfl, ?_⟩) (by assumption) ?_
          rotate_left
          · (intro w hSw; (try dsimp only at hSw); go_simp; try with_reducible rfl)
          try simp only [Act.put, List.setIfInBounds_toArray, List.set_cons_zero, List.set_cons_succ]
          refine wpAnyH_ready (rs := [17]) (by kernel_rfl) (by simp) ?_
          refine AllReadyH.cons (o := ⟨none, _, _, _, _, _⟩) rfl (fun K hK => ?_) AllReadyH.nil
          go_simp
          refine hK.out _ _ ?_ (fun hHeld => ?_)
          · (try dsimp only); first | exact hsm0 | exact hsm0.drew | exact hHeld.alloc hpl hgkl hblt _ | exact hsm8 | exact hsm9
          clear hK K
          try simp only [Act.put, List.setIfInBounds_toArray, List.set_cons_zero, List.set_cons_succ]
          refine wpAnyH_done (by kernel_rfl) ?_ _
          try go_wp2_with fail
          have HM9 := Lib.hid HM8.out.mid
          have HT9 := Lib.hid ((HT3.out.trans (.of (Qw.below (⟨1, rfl⟩ : Qw w3 w3.drew) _) hlb3)).trans HM8.out.turn)
          have HX9 := Lib.hid ((HM8.out.turn.keep _ _ _ HX3.out (by decide) (by decide) (by decide) (by decide)).trans HX3.out)
          generalize w8.setCell ⟨R.kb q.p, q.f, none⟩ (.slice A8 (k + 1) c8) = w9 at HM9 HT9 HX9 ⊢
          obtain ⟨At, ct, hvt, hct⟩ := own_form HM9.out.told
          have hlb9 : R.base ≤ w9.heap.size := HM9.out.bw
          have hsm90 : Same3 w9 w9 R.p R.gk w.heap.size := ⟨Nat.le_refl _, rfl, rfl, rfl⟩
          have hbl9 : w.heap.size < w9.heap.size := (Array.getElem?_eq_some_iff.1 HX9.out).1
          have hgk9 : R.gk < w9.heap.size := (HM9.out.st.kno.lt R.gk rfl).2
          have hpl9 := HM9.out.lt
          have HTO : Hid (w9.ownsRow R.base 46 4 (.slice At S.told.length ct) S.told.length (aCells S.told)) := Lib.hid (by rw [← hvt]; exact HM9.out.told)
          have HC7 : Hid (∀ w', Same3 w9 w' R.p R.gk w.heap.size → w'.cell? ⟨R.p, 7, none⟩ = some (.slice At S.told.length ct) ∧ w'.cell? ⟨w.heap.size, 0, none⟩ = some (.int .i64 q.p) ∧ w'.cell? ⟨w.heap.size, 1, none⟩ = some (.int .i64 q.f) ∧ w'.cell? ⟨w.heap.size, 2, none⟩ = some (.int .i64 q.t)) := Lib.hid (fun w' hs => by rw [← hvt]; exact HM9.out.cells7 HX9.out hs)
          obtain ⟨y7, y0, y1, y2⟩ := HC7.out _ hsm90
          have HVT := Lib.hid hvt
          clear hvt HM8 HMI HT3 HX3 HC4 HROW fk ckf8 hsm8 hsm9 hsm0 hHeld
          go_wp2_with fail
          refine wp_region_held_drew (S := fun w' => True) (by kernel_rfl) ?_ (fun hHeld => ?_)
          · (try dsimp only); all_goals trivial
          refine wpAnyH_take (i := 0) (oi := ⟨some 107, _, _, _, _, _⟩) (v := ?_) rfl (by kernel_rfl) (by kernel_rfl) (by kernel_rfl) (fun _ _ _ h => h) (Or.inl ⟨by rfl, ?_⟩) (by assumption) ?_
          rotate_left
          · (intro w hSw; (try dsimp only at hSw); go_simp; try with_reducible rfl)
          try simp only [Act.put, List.setIfInBounds_toArray, List.set_cons_zero, List.set_cons_succ]
          refine wpAnyH_take (i := 1) (oi := ⟨some 108, _, _, _, _, _⟩) (v := ?_) rfl (by kernel_rfl) (by kernel_rfl) (by kernel_rfl) (fun _ _ _ h => h) (Or.inl ⟨by rfl, ?_⟩) (by assumption) ?_
          rotate_left
          · (intro w hSw; (try dsimp only at hSw); go_simp; try with_reducible rfl)
          try simp only [Act.put, List.setIfInBounds_toArray, List.set_cons_zero, List.set_cons_succ]
          refine wpAnyH_take (i := 2) (oi := ⟨some 109, _, _, _, _, _⟩) (v := ?_) rfl (by kernel_rfl) (by kernel_rfl) (by kernel_rfl) (fun _ _ _ h => h) (Or.inl ⟨by rfl, ?_⟩) (by assumption) ?_
          rotate_left
          · (intro w hSw; (try dsimp only at hSw); go_simp; try with_reducible rfl)
          try simp only [Act.put, List.setIfInBounds_toArray, List.set_cons_zero, List.set_cons_succ]
          refine wpAnyH_take (i := 3) (oi := ⟨some 110, _, _, _, _, _⟩) (v := ?_) rfl (by kernel_rfl) (by kernel_rfl) (by kernel_rfl) (fun _ _ _ h => h) (Or.inl ⟨by rfl, ?_⟩) (by assumption) ?_
          rotate_left
          · (intro w hSw; (try dsimp only at hSw); go_simp; try with_reducible rfl)
          try simp only [Act.put, List.setIfInBounds_toArray, List.set_cons_zero, List.set_cons_succ]
          refine wpAnyH_take (i := 6) (oi := ⟨some 113, _, _, _, _, _⟩) (v := ?_) rfl (by kernel_rfl) (by kernel_rfl) (by kernel_rfl) (fun _ _ _ h => h) (Or.inl ⟨by rfl, ?_⟩) (by assumption) ?_
          rotate_left
          · (intro w hSw; (try dsimp only at hSw); go_simp; try with_reducible rfl)
          try simp only [Act.put, List.setIfInBounds_toArray, List.set_cons_zero, List.set_cons_succ]
          refine wpAnyH_ready (rs := [4, 5]) (by kernel_rfl) (by simp) ?_
          refine AllReadyH.cons (o := ⟨some 111, _, _, _, _, _⟩) rfl (fun K hK => ?_) ?_
          · skip
            go_simp
            refine hK.out _ _ ?_ (fun hHeld => ?_)
            · (try dsimp only); all_goals trivial
            clear hK K
            try simp only [Act.put, List.setIfInBounds_toArray, List.set_cons_zero, List.set_cons_succ]
            refine wpAnyH_ready (rs := [5]) (by kernel_rfl) (by simp) ?_
            refine AllReadyH.cons (o := ⟨some 112, _, _, _, _, _⟩) rfl (fun K hK => ?_) AllReadyH.nil
            go_simp
            refine hK.out _ _ ?_ (fun hHeld => ?_)
            · (try dsimp only); all_goals trivial
            clear hK K
            try simp only [Act.put, List.setIfInBounds_toArray, List.set_cons_zero, List.set_cons_succ]
            refine wpAnyH_take (i := 7) (oi := ⟨some 114, _, _, _, _, _⟩) (v := ?_) rfl (by kernel_rfl) (by kernel_rfl) (by kernel_rfl) (fun _ _ _ h => h) (Or.inl ⟨by rfl, ?_⟩) (by assumption) ?_
            rotate_left
            · (intro w hSw; (try dsimp only at hSw); go_simp; try with_reducible rfl)
            try simp only [Act.put, List.setIfInBounds_toArray, List.set_cons_zero, List.set_cons_succ]
            refine wpAnyH_ready (rs := [8]) (by kernel_rfl) (by simp) ?_
            refine AllReadyH.cons (o := ⟨some 115, _, _, _, _, _⟩) rfl (fun K hK => ?_) AllReadyH.nil
            go_simp
            refine hK.out _ _ ?_ (fun hHeld => ?_)
            · (try dsimp only); all_goals trivial
            clear hK K
            try simp only [Act.put, List.setIfInBounds_toArray, List.set_cons_zero, List.set_cons_succ]
            refine wpAnyH_ready (rs := [9]) (by kernel_rfl) (by simp) ?_
            refine AllReadyH.cons (o := ⟨some 116, _, _, _, _, _⟩) rfl (fun K hK => ?_) AllReadyH.nil
            refine step_pushL elB_answer (.tmp 111) (.tmp 115) (by rfl) (by rfl) R.base S.told.length _ (by rfl) HTO.out.drew (by rfl) (by rfl) (by intro u hu; simp at hu; rcases hu with rfl | rfl | rfl | rfl <;> rfl) (by omega) (by decide) hlb9 ?_
            intro v10 w10 hown10 hb10 hg10 hL10
            obtain ⟨A10, c10, rfl, hc10⟩ := own_form hown10
            have hsm10 : Same3 w9 w10 R.p R.gk w.heap.size := HM9.out.same10 HX9.out (by rw [HVT.out]; exact ⟨hg10.os, hg10.tape, hg10.output, hg10.size, hg10.block⟩)
            have HM10 := Lib.hid (HM9.out.drew.push2 hown10 (by rw [HVT.out]; exact hg10) hb10 (by rw [HVT.out]; exact hL10) (Nat.le_succ _))
            have fk2 := HM10.out.fk; have ck2 := HM10.out.ck
            clear hown10 hb10 hg10 hL10
            refine hK.out _ _ ?_ (fun hHeld => ?_)
            · (try dsimp only); all_goals trivial
            clear hK K
            try simp only [Act.put, List.setIfInBounds_toArray, List.set_cons_zero, List.set_cons_succ]
            refine wpAnyH_take (i := 10) (oi := ⟨some 117, _, _, _, _, _⟩) (v := ?_) rfl (by kernel_rfl) (by kernel_rfl) (by kernel_rfl) (fun _ _ _ h => h) (Or.inl ⟨by rfl, ?_⟩) (by assumption) ?_
            rotate_left
            · (intro w hSw; (try dsimp only at hSw); go_simp; try with_reducible rfl)
            try simp only [Act.put, List.setIfInBounds_toArray, List.set_cons_zero, List.set_cons_succ]
            refine wpAnyH_take (i := 11) (oi := ⟨some 118, _, _, _, _, _⟩) (v := ?_) rfl (by kernel_rfl) (by kernel_rfl) (by kernel_rfl) (fun _ _ _ h => h) (Or.inl ⟨by rfl, ?_⟩) (by assumption) ?_
            rotate_left
            · (intro w hSw; (try dsimp only at hSw); go_simp; try with_reducible rfl)
            try simp only [Act.put, List.setIfInBounds_toArray, List.set_cons_zero, List.set_cons_succ]
            refine wpAnyH_ready (rs := [12]) (by kernel_rfl) (by simp) ?_
            refine AllReadyH.cons (o := ⟨none, _, _, _, _, _⟩) rfl (fun K hK => ?_) AllReadyH.nil
            go_simp
            refine hK.out _ _ ?_ (fun hHeld => ?_)
            · (try dsimp only); all_goals trivial
            clear hK K
            try simp only [Act.put, List.setIfInBounds_toArray, List.set_cons_zero, List.set_cons_succ]
            refine wpAnyH_done (by kernel_rfl) ?_ _
            go_wp2_with fail
            go_ret2
            exact ⟨_, true, rfl, (HT9.out.trans (.of (Qw.below (⟨1, rfl⟩ : Qw w9 w9.drew) _) hlb9)).trans HM10.out.turn, .inr (.inr ⟨HNO.out, HOR.out, rfl, _, _, _, HM10.out.at_⟩)⟩
          refine AllReadyH.cons (o := ⟨some 112, _, _, _, _, _⟩) rfl (fun K hK => ?_) AllReadyH.nil
          go_simp
          refine hK.out _ _ ?_ (fun hHeld => ?_)
          · (try dsimp only); all_goals trivial
          clear hK K
          try simp only [Act.put, List.setIfInBounds_toArray, List.set_cons_zero, List.set_cons_succ]
          refine wpAnyH_take (i := 7) (oi := ⟨some 114, _, _, _, _, _⟩) (v := ?_) rfl (by kernel_rfl) (by kernel_rfl) (by kernel_rfl) (fun _ _ _ h => h) (Or.inl ⟨by rfl, ?_⟩) (by assumption) ?_
          rotate_left
          · (intro w hSw; (try dsimp only at hSw); go_simp; try with_reducible rfl)
          try simp only [Act.put, List.setIfInBounds_toArray, List.set_cons_zero, List.set_cons_succ]
          refine wpAnyH_ready (rs := [4, 8]) (by kernel_rfl) (by simp) ?_
          refine AllReadyH.cons (o := ⟨some 111, _, _, _, _, _⟩) rfl (fun K hK => ?_) ?_
          · skip
            go_simp
            refine hK.out _ _ ?_ (fun hHeld => ?_)
            · (try dsimp only); all_goals trivial
            clear hK K
            try simp only [Act.put, List.setIfInBounds_toArray, List.set_cons_zero, List.set_cons_succ]
            refine wpAnyH_ready (rs := [8]) (by kernel_rfl) (by simp) ?_
            refine AllReadyH.cons (o := ⟨some 115, _, _, _, _, _⟩) rfl (fun K hK => ?_) AllReadyH.nil
            go_simp
            refine hK.out _ _ ?_ (fun hHeld => ?_)
            · (try dsimp only); all_goals trivial
            clear hK K
            try simp only [Act.put, List.setIfInBounds_toArray, List.set_cons_zero, List.set_cons_succ]
            refine wpAnyH_ready (rs := [9]) (by kernel_rfl) (by simp) ?_
            refine AllReadyH.cons (o := ⟨some 116, _, _, _, _, _⟩) rfl (fun K hK => ?_) AllReadyH.nil
            refine step_pushL elB_answer (.tmp 111) (.tmp 115) (by rfl) (by rfl) R.base S.told.length _ (by rfl) HTO.out.drew (by rfl) (by rfl) (by intro u hu; simp at hu; rcases hu with rfl | rfl | rfl | rfl <;> rfl) (by omega) (by decide) hlb9 ?_
            intro v10 w10 hown10 hb10 hg10 hL10
            obtain ⟨A10, c10, rfl, hc10⟩ := own_form hown10
            have hsm10 : Same3 w9 w10 R.p R.gk w.heap.size := HM9.out.same10 HX9.out (by rw [HVT.out]; exact ⟨hg10.os, hg10.tape, hg10.output, hg10.size, hg10.block⟩)
            have HM10 := Lib.hid (HM9.out.drew.push2 hown10 (by rw [HVT.out]; exact hg10) hb10 (by rw [HVT.out]; exact hL10) (Nat.le_succ _))
            have fk2 := HM10.out.fk; have ck2 := HM10.out.ck
            clear hown10 hb10 hg10 hL10
            refine hK.out _ _ ?_ (fun hHeld => ?_)
            · (try dsimp only); all_goals trivial
            clear hK K
            try simp only [Act.put, List.setIfInBounds_toArray, List.set_cons_zero, List.set_cons_succ]
            refine wpAnyH_take (i := 10) (oi := ⟨some 117, _, _, _, _, _⟩) (v := ?_) rfl (by kernel_rfl) (by kernel_rfl) (by kernel_rfl) (fun _ _ _ h => h) (Or.inl ⟨by rfl, ?_⟩) (by assumption) ?_
            rotate_left
            · (intro w hSw; (try dsimp only at hSw); go_simp; try with_reducible rfl)
            try simp only [Act.put, List.setIfInBounds_toArray, List.set_cons_zero, List.set_cons_succ]
            refine wpAnyH_take (i := 11) (oi := ⟨some 118, _, _, _, _, _⟩) (v := ?_) rfl (by kernel_rfl) (by kernel_rfl) (by kernel_rfl) (fun _ _ _ h => h) (Or.inl ⟨by rfl, ?_⟩) (by assumption) ?_
            rotate_left
            · (intro w hSw; (try dsimp only at hSw); go_simp; try with_reducible rfl)
            try simp only [Act.put, List.setIfInBounds_toArray, List.set_cons_zero, List.set_cons_succ]
            refine wpAnyH_ready (rs := [12]) (by kernel_rfl) (by simp) ?_
            refine AllReadyH.cons (o := ⟨none, _, _, _, _, _⟩) rfl (fun K hK => ?_) AllReadyH.nil
            go_simp
            refine hK.out _ _ ?_ (fun hHeld => ?_)
            · (try dsimp only); all_goals trivial
            clear hK K
            try simp only [Act.put, List.setIfInBounds_toArray, List.set_cons_zero, List.set_cons_succ]
            refine wpAnyH_done (by kernel_rfl) ?_ _
            go_wp2_with fail
            go_ret2
            exact ⟨_, true, rfl, (HT9.out.trans (.of (Qw.below (⟨1, rfl⟩ : Qw w9 w9.drew) _) hlb9)).trans HM10.out.turn, .inr (.inr ⟨HNO.out, HOR.out, rfl, _, _, _, HM10.out.at_⟩)⟩
          refine AllReadyH.cons (o := ⟨some 115, _, _, _, _, _⟩) rfl (fun K hK => ?_) AllReadyH.nil
          go_simp
          refine hK.out _ _ ?_ (fun hHeld => ?_)
          · (try dsimp only); all_goals trivial
          clear hK K
          try simp only [Act.put, List.setIfInBounds_toArray, List.set_cons_zero, List.set_cons_succ]
          refine wpAnyH_ready (rs := [4]) (by kernel_rfl) (by simp) ?_
          refine AllReadyH.cons (o := ⟨some 111, _, _, _, _, _⟩) rfl (fun K hK => ?_) AllReadyH.nil
          go_simp
          refine hK.out _ _ ?_ (fun hHeld => ?_)
          · (try dsimp only); all_goals trivial
          clear hK K
          try simp only [Act.put, List.setIfInBounds_toArray, List.set_cons_zero, List.set_cons_succ]
          refine wpAnyH_ready (rs := [9]) (by kernel_rfl) (by simp) ?_
          refine AllReadyH.cons (o := ⟨some 116, _, _, _, _, _⟩) rfl (fun K hK => ?_) AllReadyH.nil
          refine step_pushL elB_answer (.tmp 111) (.tmp 115) (by rfl) (by rfl) R.base S.told.length _ (by rfl) HTO.out.drew (by rfl) (by rfl) (by intro u hu; simp at hu; rcases hu with rfl | rfl | rfl | rfl <;> rfl) (by omega) (by decide) hlb9 ?_
          intro v10 w10 hown10 hb10 hg10 hL10
          obtain ⟨A10, c10, rfl, hc10⟩ := own_form hown10
          have hsm10 : Same3 w9 w10 R.p R.gk w.heap.size := HM9.out.same10 HX9.out (by rw [HVT.out]; exact ⟨hg10.os, hg10.tape, hg10.output, hg10.size, hg10.block⟩)
          have HM10 := Lib.hid (HM9.out.drew.push2 hown10 (by rw [HVT.out]; exact hg10) hb10 (by rw [HVT.out]; exact hL10) (Nat.le_succ _))
          have fk2 := HM10.out.fk; have ck2 := HM10.out.ck
          clear hown10 hb10 hg10 hL10
          refine hK.out _ _ ?_ (fun hHeld => ?_)
          · (try dsimp only); all_goals trivial
          clear hK K
          try simp only [Act.put, List.setIfInBounds_toArray, List.set_cons_zero, List.set_cons_succ]
          refine wpAnyH_take (i := 10) (oi := ⟨some 117, _, _, _, _, _⟩) (v := ?_) rfl (by kernel_rfl) (by kernel_rfl) (by kernel_rfl) (fun _ _ _ h => h) (Or.inl ⟨by rfl, ?_⟩) (by assumption) ?_
          rotate_left
          · (intro w hSw; (try dsimp only at hSw); go_simp; try with_reducible rfl)
          try simp only [Act.put, List.setIfInBounds_toArray, List.set_cons_zero, List.set_cons_succ]
          refine wpAnyH_take (i := 11) (oi := ⟨some 118, _, _, _, _, _⟩) (v := ?_) rfl (by kernel_rfl) (by kernel_rfl) (by kernel_rfl) (fun _ _ _ h => h) (Or.inl ⟨by rfl, ?_⟩) (by assumption) ?_
          rotate_left
          · (intro w hSw; (try dsimp only at hSw); go_simp; try with_reducible rfl)
          try simp only [Act.put, List.setIfInBounds_toArray, List.set_cons_zero, List.set_cons_succ]
          refine wpAnyH_ready (rs := [12]) (by kernel_rfl) (by simp) ?_
          refine AllReadyH.cons (o := ⟨none, _, _, _, _, _⟩) rfl (fun K hK => ?_) AllReadyH.nil
          go_simp
          refine hK.out _ _ ?_ (fun hHeld => ?_)
          · (try dsimp only); all_goals trivial
          clear hK K
          try simp only [Act.put, List.setIfInBounds_toArray, List.set_cons_zero, List.set_cons_succ]
          refine wpAnyH_done (by kernel_rfl) ?_ _
          go_wp2_with fail
          go_ret2
          exact ⟨_, true, rfl, (HT9.out.trans (.of (Qw.below (⟨1, rfl⟩ : Qw w9 w9.drew) _) hlb9)).trans HM10.out.turn, .inr (.inr ⟨HNO.out, HOR.out, rfl, _, _, _, HM10.out.at_⟩)⟩
end Go.Proofs.Ytoofnkkbebjldaa
/- The contract of search of the document's course. Conditions: as each statement says. -/
namespace Go.Proofs.Ytoofnkkbebjldaa
open Go.RowKit
set_option linter.unusedVariables false
theorem rt_cell {w w' : World} {base g : Nat} {cs : Array Value} {t : TypeId} (hT : RTurn base w w') (hg : w.heap[g]? = some (.cells cs t (0, 0))) (h1 : t ≠ 74) (h2 : t ≠ 4) (h3 : t ≠ 46) (h4 : t ≠ 27) (o : Nat) : w'.cell? ⟨g, o, none⟩ = w.cell? ⟨g, o, none⟩ := by
  simp only [World.cell?, hT.keep g cs t hg h1 h2 h3 h4]
theorem BoxAt.rt {w w' : World} {base H : Nat} {o : Option Qn} (h : BoxAt w H o) (hT : RTurn base w w') : BoxAt w' H o := (hT.keep _ _ _ h (by decide) (by decide) (by decide) (by decide)).trans h
theorem RAt.step {w w' : World} {R : RLay} {Z : Src} {kv : Nat → Nat → Value} {vt vl vy : Value} {S : Mst} (h : RAt w R Z kv vt vl vy S) (hb : Below w.heap.size w w') : RAt w' R Z kv vt vl vy S ∧ RTurn R.base w w' := ⟨h.below hb, .of hb h.bw⟩
def ansO (S : Mst) : Option Qn → Bool
  | none => false
  | some q => toldAns S.told q
/-- What holds in the loops of search. -/
structure RsI (w0 w : World) (R : RLay) (Z : Src) (kv : Nat → Nat → Value) (vt vl vy : Value) (S : Mst) (o : Option Qn) : Prop where
  at_ : RAt w R Z kv vt vl vy S
  turn : RTurn R.base w0 w
  res : BoxAt w w0.heap.size none
  best : BoxAt w (w0.heap.size + 1) o
theorem RsI.rt {w0 w w' : World} {R : RLay} {Z : Src} {kv : Nat → Nat → Value} {vt vl vy : Value} {S : Mst} {o : Option Qn} (h : RsI w0 w R Z kv vt vl vy S o) (hm : RAt w' R Z kv vt vl vy S) (hT : RTurn R.base w w') : RsI w0 w' R Z kv vt vl vy S o :=
  ⟨hm, h.turn.trans hT, h.res.rt hT, h.best.rt hT⟩
theorem RsI.below {w0 w w' : World} {R : RLay} {Z : Src} {kv : Nat → Nat → Value} {vt vl vy : Value} {S : Mst} {o : Option Qn} (h : RsI w0 w R Z kv vt vl vy S o) (hb : Below w.heap.size w w') : RsI w0 w' R Z kv vt vl vy S o :=
  h.rt (h.at_.below hb) (.of hb h.at_.bw)
/-- A store into a box of a question leaves the course. -/
theorem RAt.setQ {w : World} {R : RLay} {Z : Src} {kv : Nat → Nat → Value} {vt vl vy : Value} {S : Mst} {H o : Nat} {cs : Array Value} (h : RAt w R Z kv vt vl vy S) (hH : w.heap[H]? = some (.cells cs 44 (0, 0))) (hb : R.base ≤ H) (u : Value) : RAt (w.setCell ⟨H, o, none⟩ u) R Z kv vt vl vy S where
  cells := (Below.heap_setCell _ _ _ _ (fun e => by
    simp only at e
    subst e
    have := h.cells.symm.trans hH
    injection this with this
    injection this with _ e _
    exact absurd e (by decide))).trans h.cells
  told := ownsRow_setCell_other h.told (row_ne h.told hH (by decide)) u
  bits := ownsRow_setCell_other h.bits (row_ne h.bits hH (by decide)) u
  known := { h.known with
    out := fun p hp => ownsRow_setCell_other (h.known.out p hp) (row_ne (h.known.out p hp) hH (by decide)) u
    row := fun p f hp hf => ownsRow_setCell_other (h.known.row p f hp hf) (row_ne (h.known.row p f hp hf) hH (by decide)) u }
  pb := h.pb
  st := { h.st with
    ord := ownsRow_setCell_other h.st.ord (row_ne h.st.ord hH (by decide)) u
    ordr := fun i A c hi => ⟨(h.st.ordr i A c hi).1, ownsRow_setCell_other (h.st.ordr i A c hi).2 (row_ne (h.st.ordr i A c hi).2 hH (by decide)) u⟩
    kno := ownsRow_setCell_other h.st.kno (row_ne h.st.kno hH (by decide)) u }
  src := h.src.turn ((Below.refl _ _).setCell (p := ⟨H, o, none⟩) hb u)
theorem row_block {w : World} {B t sz n c g : Nat} {xs : List Value} (h : w.ownsRow B t sz (.slice (some ⟨g, 0, none⟩) n c) n xs) : ∃ cs, w.heap[g]? = some (.cells cs t (0, 0)) := by
  rcases h.2 with ⟨hl, _⟩ | ⟨g', cap', cur', hv, _, hg', _⟩
  · cases hl
  · injection hv with hv _ _; injection hv with hv; injection hv with hv _ _
    rw [hv]; exact ⟨_, hg'⟩
theorem RTurn.setNew {w0 w : World} {base H o : Nat} (h : RTurn base w0 w) (hb : base ≤ H) (hH : w0.heap.size ≤ H) (u : Value) : RTurn base w0 (w.setCell ⟨H, o, none⟩ u) :=
  ⟨h.below.setCell (p := ⟨H, o, none⟩) hb u, fun k cs t hk h1 h2 h3 h4 => (Below.heap_setCell _ _ _ _ (fun e => by
    simp only at e
    have := (Array.getElem?_eq_some_iff.1 hk).1
    omega)).trans (h.keep k cs t hk h1 h2 h3 h4)⟩
theorem own_box3 {w : World} {B t sz n c H : Nat} {A : Option Addr} {xs : List Value} (h : w.ownsRow B t sz (.slice A n c) n xs) (hH : H < B) (x y z : Value) : (((w.setCell ⟨H, 0, none⟩ x).setCell ⟨H, 1, none⟩ y).setCell ⟨H, 2, none⟩ z).ownsRow B t sz (.slice A n c) n xs := by
  have ne : (Value.slice A n c).ownBlock ≠ some H := fun e => by have := (h.lt H e).1; omega
  exact ownsRow_setCell_other (ownsRow_setCell_other (ownsRow_setCell_other h (a := ⟨H, 0, none⟩) ne x) (a := ⟨H, 1, none⟩) ne y) (a := ⟨H, 2, none⟩) ne z
theorem RsI.putBest {w0 w : World} {R : RLay} {Z : Src} {kv : Nat → Nat → Value} {vt vl vy : Value} {S : Mst} {o : Option Qn} (h : RsI w0 w R Z kv vt vl vy S o) (hb : R.base ≤ w0.heap.size) (q : Qn) :
    RsI w0 (((w.setCell ⟨w0.heap.size + 1, 0, none⟩ (.int .i64 q.p)).setCell ⟨w0.heap.size + 1, 1, none⟩ (.int .i64 q.f)).setCell ⟨w0.heap.size + 1, 2, none⟩ (.int .i64 q.t)) R Z kv vt vl vy S (some q) where
  at_ := ((h.at_.setQ (o := 0) h.best (by omega) _).setQ (o := 1) (blk_setR h.best _) (by omega) _).setQ (o := 2) (blk_setR (blk_setR h.best _) _) (by omega) _
  turn := ((h.turn.setNew (by omega) (by omega) _).setNew (by omega) (by omega) _).setNew (by omega) (by omega) _
  res := by
    unfold BoxAt
    rw [Below.heap_setCell _ _ _ _ (by simp), Below.heap_setCell _ _ _ _ (by simp), Below.heap_setCell _ _ _ _ (by simp)]
    exact h.res
  best := h.best.put q
theorem bestStep_none (L : Lay) (S : Mst) (q : Qn) (h : oddB L S.b q (toldAns S.told q) = true) : bestStep L S none q = some q := by unfold bestStep; rw [if_neg (by rw [h]; simp)]
theorem bestStep_keep (L : Lay) (S : Mst) (b q : Qn) (h : oddB L S.b q (toldAns S.told q) = true) (hb : b.t - b.f ≤ q.t - q.f) : bestStep L S (some b) q = some b := by unfold bestStep; rw [if_neg (by rw [h]; simp)]; simp [hb]
theorem bestStep_new (L : Lay) (S : Mst) (b q : Qn) (h : oddB L S.b q (toldAns S.told q) = true) (hb : ¬ b.t - b.f ≤ q.t - q.f) : bestStep L S (some b) q = some q := by unfold bestStep; rw [if_neg (by rw [h]; simp)]; simp [hb]
theorem bestStep_even (L : Lay) (S : Mst) (o : Option Qn) (q : Qn) (h : oddB L S.b q (toldAns S.told q) = false) : bestStep L S o q = o := by unfold bestStep; rw [if_pos h]
/-- What search hands back. -/
def RSearchP (R : RLay) (Z : Src) (kv : Nat → Nat → Value) (vt vl vy : Value) (S : Mst) (w : World) (e : Ending) (w' : World) : Prop :=
  (∃ (q : Qn) (a f : Bool), e = .returned (.tuple #[kq q, .bool a, .bool f]) ∧ f = (bestS R.L S).isSome ∧ (∀ b, bestS R.L S = some b → q = b ∧ a = toldAns S.told b)) ∧ RAt w' R Z kv vt vl vy S ∧ RTurn R.base w w'
set_option maxRecDepth 100000 in
set_option maxHeartbeats 8000000 in
theorem rsearch_any (R : RLay) (Z : Src) (kv : Nat → Nat → Value) (vt vl vy : Value) (S : Mst) (w : World) (hm : RAt w R Z kv vt vl vy S) (hp : S.pass < R.P) (hk : ∀ q ∈ blocksTo R.L (S.pass + 1), toldHas S.told q = true) (hlen : S.told.length < 1000000) :
    Calls Try.prog 65 #[ptrR R, .int .i64 S.pass] w (RSearchP R Z kv vt vl vy S w) := by
  have hP6 := hm.st.hP
  have hB1 := hm.st.hB.1
  have hB5 := hm.st.hB.2
  have hn5 := hm.st.hn
  have HKN := Lib.hid hk
  obtain ⟨w1, hw1⟩ : ∃ w1, w1 = w.alloc (.cells #[.int .i64 0, .int .i64 0, .int .i64 0] 44) := ⟨_, rfl⟩
  have Bw1 : Below w.heap.size w w1 := by rw [hw1]; exact (Below.refl _ _).alloc (Nat.le_refl _) _
  have hx1 : BoxAt w1 w.heap.size none := by unfold BoxAt; rw [hw1]; exact heap_alloc_new w _
  have hs1 : w1.heap.size = w.heap.size + 1 := by rw [hw1]; simp
  obtain ⟨w2, hw2⟩ : ∃ w2, w2 = w1.alloc (.cells #[.int .i64 0, .int .i64 0, .int .i64 0] 44) := ⟨_, rfl⟩
  have Bw2 : Below w1.heap.size w1 w2 := by rw [hw2]; exact (Below.refl _ _).alloc (Nat.le_refl _) _
  have hx2 : BoxAt w2 (w.heap.size + 1) none := by unfold BoxAt; rw [hw2, ← hs1]; exact heap_alloc_new w1 _
  have HI0 : Hid (RsI w w2 R Z kv vt vl vy S none) := Lib.hid ⟨(hm.below Bw1).below Bw2, .of (Bw1.trans (Bw2.mono (by omega))) hm.bw, hx1.below Bw2, hx2⟩
  have HBW := Lib.hid hm.bw
  have HW : Hid (w2 = (w.alloc (.cells #[.int .i64 0, .int .i64 0, .int .i64 0] 44)).alloc (.cells #[.int .i64 0, .int .i64 0, .int .i64 0] 44)) := Lib.hid (by rw [hw2, hw1])
  clear hm hw1 hw2 Bw1 Bw2 hx1 hx2 hs1 hk
  go_enter Try.func65, Try.ntmps65
  go_wp2_with fail
  rw [← HW.out]
  clear HW
  go_loopw [8, 9, 10] (fun v8 v9 v10 wr => ∃ (p : Nat) (o : Option Qn), p ≤ S.pass + 1 ∧ v10 = .int .i64 p ∧ o = bestOf R.L S (blocksTo R.L p) ∧ v9 = .bool o.isSome ∧ v8 = .bool (ansO S o) ∧ RsI w wr R Z kv vt vl vy S o) (fun _ _ v _ => S.pass + 1 - (intOf v).toNat)
  case atStart => exact ⟨0, none, Nat.zero_le _, rfl, rfl, rfl, rfl, HI0.out⟩
  case round =>
    obtain ⟨p, o, hp1, rfl, ho, rfl, rfl, hI⟩ := hrel
    obtain ⟨wa, rfl⟩ : ∃ z : World, z = wr := ⟨_, rfl⟩
    have HI := Lib.hid hI; have HO := Lib.hid ho
    clear hI ho HI0
    by_cases hlp : p ≤ S.pass
    · have hpi : (p : Int) ≤ (S.pass : Int) := by omega
      have c0 : wa.cell? ⟨R.p, 0, none⟩ = some (.int .i64 R.P) := HI.out.at_.cell 0
      have c1 : wa.cell? ⟨R.p, 1, none⟩ = some (.int .i64 R.B) := HI.out.at_.cell 1
      have c2 : wa.cell? ⟨R.p, 2, none⟩ = some (.int .u64 R.s) := HI.out.at_.cell 2
      have c5 : wa.cell? ⟨R.p, 5, none⟩ = some (.slice R.Ab R.n R.cbt) := HI.out.at_.cell 5
      have hltp := HI.out.at_.lt
      go_wp2_with fail
      go_region_held3 (fun w' => w'.cell? ⟨R.p, 0, none⟩ = some (.int .i64 R.P) ∧ w'.cell? ⟨R.p, 1, none⟩ = some (.int .i64 R.B) ∧ w'.cell? ⟨R.p, 2, none⟩ = some (.int .u64 R.s) ∧ w'.cell? ⟨R.p, 5, none⟩ = some (.slice R.Ab R.n R.cbt)) (first | exact ⟨c0, c1, c2, c5⟩ | exact ⟨d0, d1, d2, d5⟩)
        ((go_at_call 52
          refine (refblocks_any R.P R.B R.s R.n p _ hB1 hB5 hn5 (by omega)).mono ?_
          rintro e w3 ⟨Aq, cq, rfl, hcq, hoq, hb3⟩
          have d0 := (hb3.cell (p := ⟨R.p, 0, none⟩) hltp).trans c0
          have d1 := (hb3.cell (p := ⟨R.p, 1, none⟩) hltp).trans c1
          have d2 := (hb3.cell (p := ⟨R.p, 2, none⟩) hltp).trans c2
          have d5 := (hb3.cell (p := ⟨R.p, 5, none⟩) hltp).trans c5
          have HI3 := Lib.hid ((HI.out.below (Qw.below (⟨1, rfl⟩ : Qw wa wa.drew) _)).below hb3)
          have HOQ := Lib.hid hoq
          have hB3 : w.heap.size + 1 < wa.heap.size := HI.out.best.lt
          dsimp only [id]
          clear hoq hb3))
      clear c0 c1 c2 c5 d0 d1 d2 d5 hltp HI
      have hcl : cutN R.n (sizeP R.B p) = (cutL R.B R.n p).length := by rw [cutL, cutK_len]
      obtain ⟨N, hN⟩ : ∃ N, N = (cutL R.B R.n p).length := ⟨_, rfl⟩
      rw [hcl, ← hN] at HOQ hcq ⊢
      have hN5 : N ≤ 512 := by rw [hN]; exact Nat.le_trans (cutL_len hB1) hn5
      have HN := Lib.hid hN
      clear hcl hN
      go_wp2_with fail
      go_loopw [8, 9, 12] (fun v8 v9 v12 wr => ∃ (i : Nat) (o : Option Qn), i ≤ N ∧ v12 = .int .i64 i ∧ o = bestOf R.L S (blocksTo R.L p ++ (cutL R.B R.n p).take i) ∧ v9 = .bool o.isSome ∧ v8 = .bool (ansO S o) ∧ RsI w wr R Z kv vt vl vy S o ∧ wr.ownsRow wa.drew.heap.size 44 3 (.slice Aq N cq) N (qCells (cutL R.B R.n p))) (fun _ _ v _ => N - (intOf v).toNat)
      case atStart => exact ⟨0, o, Nat.zero_le _, rfl, by rw [List.take_zero, List.append_nil]; exact HO.out, rfl, rfl, HI3.out, HOQ.out⟩
      case round =>
        obtain ⟨i, o, hi, rfl, ho2, rfl, rfl, hI, hoq⟩ := hrel
        obtain ⟨wb, rfl⟩ : ∃ z : World, z = wr := ⟨_, rfl⟩
        have HI4 := Lib.hid hI; have HO2 := Lib.hid ho2
        clear hI ho2 HI3 HO HOQ
        by_cases hli : i < N
        · have hii : (i : Int) < (N : Int) := by omega
          have hil : i < (cutL R.B R.n p).length := by rw [← HN.out]; exact hli
          obtain ⟨gq, cpq, hvq⟩ := own_head hoq (by omega)
          injection hvq with hvq1 _ hvq2
          subst hvq1
          clear hvq2
          obtain ⟨csq, hgq⟩ := row_block hoq
          obtain ⟨a0, a1, a2⟩ := qCells_at (cutL R.B R.n p) i hil
          have e0 : wb.cell? ⟨gq, i * 3, none⟩ = some (.int .i64 ((cutL R.B R.n p)[i]).p) := by rw [hoq.cellAt (i * 3) (by omega)]; exact a0
          have e1 : wb.cell? ⟨gq, i * 3 + 1, none⟩ = some (.int .i64 ((cutL R.B R.n p)[i]).f) := by rw [hoq.cellAt (i * 3 + 1) (by omega)]; exact a1
          have e2 : wb.cell? ⟨gq, i * 3 + 2, none⟩ = some (.int .i64 ((cutL R.B R.n p)[i]).t) := by rw [hoq.cellAt (i * 3 + 2) (by omega)]; exact a2
          obtain ⟨g1, g2, g3⟩ := cutL_in hB1 (List.getElem?_eq_getElem hil)
          have hmem : (cutL R.B R.n p)[i] ∈ blocksTo R.L (S.pass + 1) := List.mem_flatMap.2 ⟨p, List.mem_range.2 (by omega), List.getElem_mem hil⟩
          have HTH := Lib.hid (HKN.out _ hmem)
          have HNEW : Hid (bestOf R.L S (blocksTo R.L p ++ (cutL R.B R.n p).take (i + 1)) = bestStep R.L S o ((cutL R.B R.n p)[i])) := Lib.hid (by rw [take_snoc _ _ hil, ← List.append_assoc, bestOf_snoc, ← HO2.out])
          obtain ⟨q, hq⟩ : ∃ q, q = (cutL R.B R.n p)[i] := ⟨_, rfl⟩
          rw [← hq] at e0 e1 e2 g1 g2 g3 HTH HNEW
          have HQK : Hid (QOk R.L q) := Lib.hid ⟨⟨by show q.p < R.P; omega, by omega, g3⟩, g2⟩
          have HOB := Lib.hid hoq; have HGQ := Lib.hid hgq
          clear a0 a1 a2 hmem hq hoq hgq g1
          go_wp2_with fail
          refine (ans_any R Z kv vt vl vy S q _ HI4.out.at_ HQK.out hlen).mono ?_
          rintro e w5 ⟨ba, ok, rfl, hT5, hcase⟩
          rcases hcase with ⟨_, rfl, hba, hm5⟩ | ⟨hno, _⟩ | ⟨hno, _⟩
          · have HI5 := Lib.hid (HI4.out.rt hm5 hT5)
            have f0 := (rt_cell hT5 HGQ.out (by decide) (by decide) (by decide) (by decide) _).trans e0
            have f1 := (rt_cell hT5 HGQ.out (by decide) (by decide) (by decide) (by decide) _).trans e1
            have f2 := (rt_cell hT5 HGQ.out (by decide) (by decide) (by decide) (by decide) _).trans e2
            have HG5 := Lib.hid ((hT5.keep _ _ _ HGQ.out (by decide) (by decide) (by decide) (by decide)).trans HGQ.out)
            have HT5 := Lib.hid hT5
            have HBA := Lib.hid hba
            have hbw5 := hm5.bw
            clear hm5 hT5 hba e0 e1 e2 HI4 HGQ
            have HC : Hid (∀ w', RTurn R.base w5 w' → w'.cell? ⟨gq, i * 3, none⟩ = some (.int .i64 q.p) ∧ w'.cell? ⟨gq, i * 3 + 1, none⟩ = some (.int .i64 q.f) ∧ w'.cell? ⟨gq, i * 3 + 2, none⟩ = some (.int .i64 q.t)) := Lib.hid (fun w' hT =>
              ⟨(rt_cell hT HG5.out (by decide) (by decide) (by decide) (by decide) _).trans f0, (rt_cell hT HG5.out (by decide) (by decide) (by decide) (by decide) _).trans f1, (rt_cell hT HG5.out (by decide) (by decide) (by decide) (by decide) _).trans f2⟩)
            have hq3 : q.f < q.t := g2
            have hqi : (q.t : Int) ≤ 512 := by omega
            clear f0 f1 f2
            cases hod : oddB R.L S.b q ba
            · have HOD := Lib.hid hod
              clear hod
              go_wp2_with fail
              refine wp_region_held_drew (S := fun w' => RTurn R.base w5 w') (by kernel_rfl) ?_ (fun hHeld => ?_)
              · (try dsimp only); first | exact RTurn.refl _ _ | exact .of (Qw.below (⟨1, rfl⟩ : Qw w5 w5.drew) _) hbw5 | exact hT6
              refine wpAnyH_take (i := 0) (oi := ⟨some 47, _, _, _, _, _⟩) (v := ?_) rfl (by kernel_rfl) (by kernel_rfl) (by kernel_rfl) (fun _ _ _ h => h) (Or.inl ⟨by rfl, ?_⟩) (by assumption) ?_
              rotate_left
              · (intro w hSw; (try dsimp only at hSw); go_simp; try with_reducible rfl)
              try simp only [Act.put, List.setIfInBounds_toArray, List.set_cons_zero, List.set_cons_succ]
              refine wpAnyH_take (i := 1) (oi := ⟨some 48, _, _, _, _, _⟩) (v := ?_) rfl (by kernel_rfl) (by kernel_rfl) (by kernel_rfl) (fun _ _ _ h => h) (Or.inl ⟨by rfl, ?_⟩) (by assumption) ?_
              rotate_left
              · (intro w hSw; (try dsimp only at hSw); go_simp; try with_reducible rfl)
              try simp only [Act.put, List.setIfInBounds_toArray, List.set_cons_zero, List.set_cons_succ]
              refine wpAnyH_take (i := 2) (oi := ⟨some 49, _, _, _, _, _⟩) (v := ?_) rfl (by kernel_rfl) (by kernel_rfl) (by kernel_rfl) (fun _ _ _ h => h) (Or.inl ⟨by rfl, ?_⟩) (by assumption) ?_
              rotate_left
              · (intro w hSw; (try dsimp only at hSw); go_simp; try with_reducible rfl)
              try simp only [Act.put, List.setIfInBounds_toArray, List.set_cons_zero, List.set_cons_succ]
              refine wpAnyH_take (i := 3) (oi := ⟨some 50, _, _, _, _, _⟩) (v := ?_) rfl (by kernel_rfl) (by kernel_rfl) (by kernel_rfl) (fun _ _ _ h => h) (Or.inl ⟨by rfl, ?_⟩) (by assumption) ?_
              rotate_left
              · (intro w hSw; (try dsimp only at hSw); go_simp; try with_reducible rfl)
              try simp only [Act.put, List.setIfInBounds_toArray, List.set_cons_zero, List.set_cons_succ]
              refine wpAnyH_take (i := 4) (oi := ⟨some 51, _, _, _, _, _⟩) (v := .agg #[.int .i64 q.p, .int .i64 q.f, .int .i64 q.t]) rfl (by kernel_rfl) (by kernel_rfl) (by kernel_rfl) (fun _ _ _ h => h) (Or.inl ⟨by rfl, ?_⟩) (by assumption) ?_
              · (intro w hSw; (try dsimp only at hSw); obtain ⟨h0, h1, h2⟩ := HC.out _ hSw; go_simp)
              try simp only [Act.put, List.setIfInBounds_toArray, List.set_cons_zero, List.set_cons_succ]
              refine wpAnyH_take (i := 5) (oi := ⟨some 52, _, _, _, _, _⟩) (v := ?_) rfl (by kernel_rfl) (by kernel_rfl) (by kernel_rfl) (fun _ _ _ h => h) (Or.inl ⟨by rfl, ?_⟩) (by assumption) ?_
              rotate_left
              · (intro w hSw; (try dsimp only at hSw); go_simp; try with_reducible rfl)
              try simp only [Act.put, List.setIfInBounds_toArray, List.set_cons_zero, List.set_cons_succ]
              refine wpAnyH_ready (rs := [6]) (by kernel_rfl) (by simp) ?_
              refine AllReadyH.cons (o := ⟨some 53, _, _, _, _, _⟩) rfl (fun K hK => ?_) AllReadyH.nil
              go_simp
              refine (rodd_any R Z kv vt vl vy S q ba _ (HI5.out.at_.below (Qw.below (⟨1, rfl⟩ : Qw w5 w5.drew) _)) HQK.out.1).mono ?_
              rintro e w6 ⟨rfl, hb6⟩
              rw [HOD.out]
              have hT6 : RTurn R.base w5 w6 := (RTurn.of (Qw.below (⟨1, rfl⟩ : Qw w5 w5.drew) _) hbw5).trans (.of hb6 hbw5)
              go_wp2_with fail
              refine hK.out _ _ ?_ (fun hHeld => ?_)
              · (try dsimp only); first | exact RTurn.refl _ _ | exact .of (Qw.below (⟨1, rfl⟩ : Qw w5 w5.drew) _) hbw5 | exact hT6
              clear hK K
              try simp only [Act.put, List.setIfInBounds_toArray, List.set_cons_zero, List.set_cons_succ]
              refine wpAnyH_take (i := 7) (oi := ⟨some 54, _, _, _, _, _⟩) (v := ?_) rfl (by kernel_rfl) (by kernel_rfl) (by kernel_rfl) (fun _ _ _ h => h) (Or.inl ⟨by rfl, ?_⟩) (by assumption) ?_
              rotate_left
              · (intro w hSw; (try dsimp only at hSw); go_simp; try with_reducible rfl)
              try simp only [Act.put, List.setIfInBounds_toArray, List.set_cons_zero, List.set_cons_succ]
              refine wpAnyH_take (i := 8) (oi := ⟨some 55, _, _, _, _, _⟩) (v := undef) rfl (by kernel_rfl) (by kernel_rfl) (by kernel_rfl) (fun _ _ _ h => h) (Or.inr ⟨by rfl, rfl⟩) (by assumption) ?_
              try simp only [Act.put, List.setIfInBounds_toArray, List.set_cons_zero, List.set_cons_succ]
              refine wpAnyH_take (i := 9) (oi := ⟨some 56, _, _, _, _, _⟩) (v := undef) rfl (by kernel_rfl) (by kernel_rfl) (by kernel_rfl) (fun _ _ _ h => h) (Or.inr ⟨by rfl, rfl⟩) (by assumption) ?_
              try simp only [Act.put, List.setIfInBounds_toArray, List.set_cons_zero, List.set_cons_succ]
              refine wpAnyH_take (i := 10) (oi := ⟨some 57, _, _, _, _, _⟩) (v := undef) rfl (by kernel_rfl) (by kernel_rfl) (by kernel_rfl) (fun _ _ _ h => h) (Or.inr ⟨by rfl, rfl⟩) (by assumption) ?_
              try simp only [Act.put, List.setIfInBounds_toArray, List.set_cons_zero, List.set_cons_succ]
              refine wpAnyH_take (i := 11) (oi := ⟨some 58, _, _, _, _, _⟩) (v := undef) rfl (by kernel_rfl) (by kernel_rfl) (by kernel_rfl) (fun _ _ _ h => h) (Or.inr ⟨by rfl, rfl⟩) (by assumption) ?_
              try simp only [Act.put, List.setIfInBounds_toArray, List.set_cons_zero, List.set_cons_succ]
              refine wpAnyH_take (i := 12) (oi := ⟨some 59, _, _, _, _, _⟩) (v := undef) rfl (by kernel_rfl) (by kernel_rfl) (by kernel_rfl) (fun _ _ _ h => h) (Or.inr ⟨by rfl, rfl⟩) (by assumption) ?_
              try simp only [Act.put, List.setIfInBounds_toArray, List.set_cons_zero, List.set_cons_succ]
              refine wpAnyH_take (i := 13) (oi := ⟨some 60, _, _, _, _, _⟩) (v := undef) rfl (by kernel_rfl) (by kernel_rfl) (by kernel_rfl) (fun _ _ _ h => h) (Or.inr ⟨by rfl, rfl⟩) (by assumption) ?_
              try simp only [Act.put, List.setIfInBounds_toArray, List.set_cons_zero, List.set_cons_succ]
              refine wpAnyH_take (i := 14) (oi := ⟨some 61, _, _, _, _, _⟩) (v := undef) rfl (by kernel_rfl) (by kernel_rfl) (by kernel_rfl) (fun _ _ _ h => h) (Or.inr ⟨by rfl, rfl⟩) (by assumption) ?_
              try simp only [Act.put, List.setIfInBounds_toArray, List.set_cons_zero, List.set_cons_succ]
              refine wpAnyH_take (i := 15) (oi := ⟨some 62, _, _, _, _, _⟩) (v := undef) rfl (by kernel_rfl) (by kernel_rfl) (by kernel_rfl) (fun _ _ _ h => h) (Or.inr ⟨by rfl, rfl⟩) (by assumption) ?_
              try simp only [Act.put, List.setIfInBounds_toArray, List.set_cons_zero, List.set_cons_succ]
              refine wpAnyH_take (i := 16) (oi := ⟨some 63, _, _, _, _, _⟩) (v := undef) rfl (by kernel_rfl) (by kernel_rfl) (by kernel_rfl) (fun _ _ _ h => h) (Or.inr ⟨by rfl, rfl⟩) (by assumption) ?_
              try simp only [Act.put, List.setIfInBounds_toArray, List.set_cons_zero, List.set_cons_succ]
              refine wpAnyH_take (i := 17) (oi := ⟨some 64, _, _, _, _, _⟩) (v := undef) rfl (by kernel_rfl) (by kernel_rfl) (by kernel_rfl) (fun _ _ _ h => h) (Or.inr ⟨by rfl, rfl⟩) (by assumption) ?_
              try simp only [Act.put, List.setIfInBounds_toArray, List.set_cons_zero, List.set_cons_succ]
              refine wpAnyH_take (i := 18) (oi := ⟨some 65, _, _, _, _, _⟩) (v := undef) rfl (by kernel_rfl) (by kernel_rfl) (by kernel_rfl) (fun _ _ _ h => h) (Or.inr ⟨by rfl, rfl⟩) (by assumption) ?_
              try simp only [Act.put, List.setIfInBounds_toArray, List.set_cons_zero, List.set_cons_succ]
              refine wpAnyH_take (i := 19) (oi := ⟨some 66, _, _, _, _, _⟩) (v := undef) rfl (by kernel_rfl) (by kernel_rfl) (by kernel_rfl) (fun _ _ _ h => h) (Or.inr ⟨by rfl, rfl⟩) (by assumption) ?_
              try simp only [Act.put, List.setIfInBounds_toArray, List.set_cons_zero, List.set_cons_succ]
              refine wpAnyH_take (i := 20) (oi := ⟨some 67, _, _, _, _, _⟩) (v := undef) rfl (by kernel_rfl) (by kernel_rfl) (by kernel_rfl) (fun _ _ _ h => h) (Or.inr ⟨by rfl, rfl⟩) (by assumption) ?_
              try simp only [Act.put, List.setIfInBounds_toArray, List.set_cons_zero, List.set_cons_succ]
              refine wpAnyH_take (i := 21) (oi := ⟨some 68, _, _, _, _, _⟩) (v := undef) rfl (by kernel_rfl) (by kernel_rfl) (by kernel_rfl) (fun _ _ _ h => h) (Or.inr ⟨by rfl, rfl⟩) (by assumption) ?_
              try simp only [Act.put, List.setIfInBounds_toArray, List.set_cons_zero, List.set_cons_succ]
              refine wpAnyH_take (i := 22) (oi := ⟨some 69, _, _, _, _, _⟩) (v := undef) rfl (by kernel_rfl) (by kernel_rfl) (by kernel_rfl) (fun _ _ _ h => h) (Or.inr ⟨by rfl, rfl⟩) (by assumption) ?_
              try simp only [Act.put, List.setIfInBounds_toArray, List.set_cons_zero, List.set_cons_succ]
              refine wpAnyH_take (i := 23) (oi := ⟨some 70, _, _, _, _, _⟩) (v := undef) rfl (by kernel_rfl) (by kernel_rfl) (by kernel_rfl) (fun _ _ _ h => h) (Or.inr ⟨by rfl, rfl⟩) (by assumption) ?_
              try simp only [Act.put, List.setIfInBounds_toArray, List.set_cons_zero, List.set_cons_succ]
              refine wpAnyH_take (i := 24) (oi := ⟨some 71, _, _, _, _, _⟩) (v := undef) rfl (by kernel_rfl) (by kernel_rfl) (by kernel_rfl) (fun _ _ _ h => h) (Or.inr ⟨by rfl, rfl⟩) (by assumption) ?_
              try simp only [Act.put, List.setIfInBounds_toArray, List.set_cons_zero, List.set_cons_succ]
              refine wpAnyH_take (i := 25) (oi := ⟨some 72, _, _, _, _, _⟩) (v := undef) rfl (by kernel_rfl) (by kernel_rfl) (by kernel_rfl) (fun _ _ _ h => h) (Or.inr ⟨by rfl, rfl⟩) (by assumption) ?_
              try simp only [Act.put, List.setIfInBounds_toArray, List.set_cons_zero, List.set_cons_succ]
              refine wpAnyH_take (i := 26) (oi := ⟨some 73, _, _, _, _, _⟩) (v := undef) rfl (by kernel_rfl) (by kernel_rfl) (by kernel_rfl) (fun _ _ _ h => h) (Or.inr ⟨by rfl, rfl⟩) (by assumption) ?_
              try simp only [Act.put, List.setIfInBounds_toArray, List.set_cons_zero, List.set_cons_succ]
              refine wpAnyH_take (i := 27) (oi := ⟨some 74, _, _, _, _, _⟩) (v := undef) rfl (by kernel_rfl) (by kernel_rfl) (by kernel_rfl) (fun _ _ _ h => h) (Or.inr ⟨by rfl, rfl⟩) (by assumption) ?_
              try simp only [Act.put, List.setIfInBounds_toArray, List.set_cons_zero, List.set_cons_succ]
              refine wpAnyH_take (i := 28) (oi := ⟨some 75, _, _, _, _, _⟩) (v := undef) rfl (by kernel_rfl) (by kernel_rfl) (by kernel_rfl) (fun _ _ _ h => h) (Or.inr ⟨by rfl, rfl⟩) (by assumption) ?_
              try simp only [Act.put, List.setIfInBounds_toArray, List.set_cons_zero, List.set_cons_succ]
              refine wpAnyH_take (i := 29) (oi := ⟨some 76, _, _, _, _, _⟩) (v := ?_) rfl (by kernel_rfl) (by kernel_rfl) (by kernel_rfl) (fun _ _ _ h => h) (Or.inl ⟨by rfl, ?_⟩) (by assumption) ?_
              rotate_left
              · (intro w hSw; (try dsimp only at hSw); go_simp; try with_reducible rfl)
              try simp only [Act.put, List.setIfInBounds_toArray, List.set_cons_zero, List.set_cons_succ]
              refine wpAnyH_done (by kernel_rfl) ?_ _
              have HI6 := Lib.hid ((HI5.out.below (Qw.below (⟨1, rfl⟩ : Qw w5 w5.drew) _)).below hb6); have HR6 := Lib.hid (ownsRow_r HOB.out (HT5.out.trans hT6) (by decide) (by decide) (by decide) (by decide))
              have HST := Lib.hid (HNEW.out.trans (bestStep_even _ _ _ _ (by rw [← HBA.out]; exact HOD.out)))
              clear hT6 hb6 hHeld
              go_wp2_with fail
              go_roundw
              case rel => exact ⟨i + 1, _, hli, by go_num, HST.out.symm, rfl, rfl, HI6.out, HR6.out⟩
              case measure => simp [intOf]; omega
            · cases o with
              | none =>
                have HOD := Lib.hid hod
                clear hod
                go_wp2_with fail
                refine wp_region_held_drew (S := fun w' => RTurn R.base w5 w') (by kernel_rfl) ?_ (fun hHeld => ?_)
                · (try dsimp only); first | exact RTurn.refl _ _ | exact .of (Qw.below (⟨1, rfl⟩ : Qw w5 w5.drew) _) hbw5 | exact hT6
                refine wpAnyH_take (i := 0) (oi := ⟨some 47, _, _, _, _, _⟩) (v := ?_) rfl (by kernel_rfl) (by kernel_rfl) (by kernel_rfl) (fun _ _ _ h => h) (Or.inl ⟨by rfl, ?_⟩) (by assumption) ?_
                rotate_left
                · (intro w hSw; (try dsimp only at hSw); go_simp; try with_reducible rfl)
                try simp only [Act.put, List.setIfInBounds_toArray, List.set_cons_zero, List.set_cons_succ]
                refine wpAnyH_take (i := 1) (oi := ⟨some 48, _, _, _, _, _⟩) (v := ?_) rfl (by kernel_rfl) (by kernel_rfl) (by kernel_rfl) (fun _ _ _ h => h) (Or.inl ⟨by rfl, ?_⟩) (by assumption) ?_
                rotate_left
                · (intro w hSw; (try dsimp only at hSw); go_simp; try with_reducible rfl)
                try simp only [Act.put, List.setIfInBounds_toArray, List.set_cons_zero, List.set_cons_succ]
                refine wpAnyH_take (i := 2) (oi := ⟨some 49, _, _, _, _, _⟩) (v := ?_) rfl (by kernel_rfl) (by kernel_rfl) (by kernel_rfl) (fun _ _ _ h => h) (Or.inl ⟨by rfl, ?_⟩) (by assumption) ?_
                rotate_left
                · (intro w hSw; (try dsimp only at hSw); go_simp; try with_reducible rfl)
                try simp only [Act.put, List.setIfInBounds_toArray, List.set_cons_zero, List.set_cons_succ]
                refine wpAnyH_take (i := 3) (oi := ⟨some 50, _, _, _, _, _⟩) (v := ?_) rfl (by kernel_rfl) (by kernel_rfl) (by kernel_rfl) (fun _ _ _ h => h) (Or.inl ⟨by rfl, ?_⟩) (by assumption) ?_
                rotate_left
                · (intro w hSw; (try dsimp only at hSw); go_simp; try with_reducible rfl)
                try simp only [Act.put, List.setIfInBounds_toArray, List.set_cons_zero, List.set_cons_succ]
                refine wpAnyH_take (i := 4) (oi := ⟨some 51, _, _, _, _, _⟩) (v := .agg #[.int .i64 q.p, .int .i64 q.f, .int .i64 q.t]) rfl (by kernel_rfl) (by kernel_rfl) (by kernel_rfl) (fun _ _ _ h => h) (Or.inl ⟨by rfl, ?_⟩) (by assumption) ?_
                · (intro w hSw; (try dsimp only at hSw); obtain ⟨h0, h1, h2⟩ := HC.out _ hSw; go_simp)
                try simp only [Act.put, List.setIfInBounds_toArray, List.set_cons_zero, List.set_cons_succ]
                refine wpAnyH_take (i := 5) (oi := ⟨some 52, _, _, _, _, _⟩) (v := ?_) rfl (by kernel_rfl) (by kernel_rfl) (by kernel_rfl) (fun _ _ _ h => h) (Or.inl ⟨by rfl, ?_⟩) (by assumption) ?_
                rotate_left
                · (intro w hSw; (try dsimp only at hSw); go_simp; try with_reducible rfl)
                try simp only [Act.put, List.setIfInBounds_toArray, List.set_cons_zero, List.set_cons_succ]
                refine wpAnyH_ready (rs := [6]) (by kernel_rfl) (by simp) ?_
                refine AllReadyH.cons (o := ⟨some 53, _, _, _, _, _⟩) rfl (fun K hK => ?_) AllReadyH.nil
                go_simp
                refine (rodd_any R Z kv vt vl vy S q ba _ (HI5.out.at_.below (Qw.below (⟨1, rfl⟩ : Qw w5 w5.drew) _)) HQK.out.1).mono ?_
                rintro e w6 ⟨rfl, hb6⟩
                rw [HOD.out]
                have hT6 : RTurn R.base w5 w6 := (RTurn.of (Qw.below (⟨1, rfl⟩ : Qw w5 w5.drew) _) hbw5).trans (.of hb6 hbw5)
                go_wp2_with fail
                refine hK.out _ _ ?_ (fun hHeld => ?_)
                · (try dsimp only); first | exact RTurn.refl _ _ | exact .of (Qw.below (⟨1, rfl⟩ : Qw w5 w5.drew) _) hbw5 | exact hT6
                clear hK K
                try simp only [Act.put, List.setIfInBounds_toArray, List.set_cons_zero, List.set_cons_succ]
                refine wpAnyH_take (i := 7) (oi := ⟨some 54, _, _, _, _, _⟩) (v := ?_) rfl (by kernel_rfl) (by kernel_rfl) (by kernel_rfl) (fun _ _ _ h => h) (Or.inl ⟨by rfl, ?_⟩) (by assumption) ?_
                rotate_left
                · (intro w hSw; (try dsimp only at hSw); go_simp; try with_reducible rfl)
                try simp only [Act.put, List.setIfInBounds_toArray, List.set_cons_zero, List.set_cons_succ]
                refine wpAnyH_take (i := 8) (oi := ⟨some 55, _, _, _, _, _⟩) (v := ?_) rfl (by kernel_rfl) (by kernel_rfl) (by kernel_rfl) (fun _ _ _ h => h) (Or.inl ⟨by rfl, ?_⟩) (by assumption) ?_
                rotate_left
                · (intro w hSw; (try dsimp only at hSw); go_simp; try with_reducible rfl)
                try simp only [Act.put, List.setIfInBounds_toArray, List.set_cons_zero, List.set_cons_succ]
                refine wpAnyH_take (i := 9) (oi := ⟨some 56, _, _, _, _, _⟩) (v := ?_) rfl (by kernel_rfl) (by kernel_rfl) (by kernel_rfl) (fun _ _ _ h => h) (Or.inl ⟨by rfl, ?_⟩) (by assumption) ?_
                rotate_left
                · (intro w hSw; (try dsimp only at hSw); go_simp; try with_reducible rfl)
                try simp only [Act.put, List.setIfInBounds_toArray, List.set_cons_zero, List.set_cons_succ]
                refine wpAnyH_take (i := 10) (oi := ⟨some 57, _, _, _, _, _⟩) (v := ?_) rfl (by kernel_rfl) (by kernel_rfl) (by kernel_rfl) (fun _ _ _ h => h) (Or.inl ⟨by rfl, ?_⟩) (by assumption) ?_
                rotate_left
                · (intro w hSw; (try dsimp only at hSw); go_simp; try with_reducible rfl)
                try simp only [Act.put, List.setIfInBounds_toArray, List.set_cons_zero, List.set_cons_succ]
                refine wpAnyH_take (i := 11) (oi := ⟨some 58, _, _, _, _, _⟩) (v := undef) rfl (by kernel_rfl) (by kernel_rfl) (by kernel_rfl) (fun _ _ _ h => h) (Or.inr ⟨by rfl, rfl⟩) (by assumption) ?_
                try simp only [Act.put, List.setIfInBounds_toArray, List.set_cons_zero, List.set_cons_succ]
                refine wpAnyH_take (i := 12) (oi := ⟨some 59, _, _, _, _, _⟩) (v := undef) rfl (by kernel_rfl) (by kernel_rfl) (by kernel_rfl) (fun _ _ _ h => h) (Or.inr ⟨by rfl, rfl⟩) (by assumption) ?_
                try simp only [Act.put, List.setIfInBounds_toArray, List.set_cons_zero, List.set_cons_succ]
                refine wpAnyH_take (i := 13) (oi := ⟨some 60, _, _, _, _, _⟩) (v := undef) rfl (by kernel_rfl) (by kernel_rfl) (by kernel_rfl) (fun _ _ _ h => h) (Or.inr ⟨by rfl, rfl⟩) (by assumption) ?_
                try simp only [Act.put, List.setIfInBounds_toArray, List.set_cons_zero, List.set_cons_succ]
                refine wpAnyH_take (i := 14) (oi := ⟨some 61, _, _, _, _, _⟩) (v := undef) rfl (by kernel_rfl) (by kernel_rfl) (by kernel_rfl) (fun _ _ _ h => h) (Or.inr ⟨by rfl, rfl⟩) (by assumption) ?_
                try simp only [Act.put, List.setIfInBounds_toArray, List.set_cons_zero, List.set_cons_succ]
                refine wpAnyH_take (i := 15) (oi := ⟨some 62, _, _, _, _, _⟩) (v := undef) rfl (by kernel_rfl) (by kernel_rfl) (by kernel_rfl) (fun _ _ _ h => h) (Or.inr ⟨by rfl, rfl⟩) (by assumption) ?_
                try simp only [Act.put, List.setIfInBounds_toArray, List.set_cons_zero, List.set_cons_succ]
                refine wpAnyH_take (i := 16) (oi := ⟨some 63, _, _, _, _, _⟩) (v := undef) rfl (by kernel_rfl) (by kernel_rfl) (by kernel_rfl) (fun _ _ _ h => h) (Or.inr ⟨by rfl, rfl⟩) (by assumption) ?_
                try simp only [Act.put, List.setIfInBounds_toArray, List.set_cons_zero, List.set_cons_succ]
                refine wpAnyH_take (i := 17) (oi := ⟨some 64, _, _, _, _, _⟩) (v := undef) rfl (by kernel_rfl) (by kernel_rfl) (by kernel_rfl) (fun _ _ _ h => h) (Or.inr ⟨by rfl, rfl⟩) (by assumption) ?_
                try simp only [Act.put, List.setIfInBounds_toArray, List.set_cons_zero, List.set_cons_succ]
                refine wpAnyH_take (i := 18) (oi := ⟨some 65, _, _, _, _, _⟩) (v := undef) rfl (by kernel_rfl) (by kernel_rfl) (by kernel_rfl) (fun _ _ _ h => h) (Or.inr ⟨by rfl, rfl⟩) (by assumption) ?_
                try simp only [Act.put, List.setIfInBounds_toArray, List.set_cons_zero, List.set_cons_succ]
                refine wpAnyH_take (i := 19) (oi := ⟨some 66, _, _, _, _, _⟩) (v := undef) rfl (by kernel_rfl) (by kernel_rfl) (by kernel_rfl) (fun _ _ _ h => h) (Or.inr ⟨by rfl, rfl⟩) (by assumption) ?_
                try simp only [Act.put, List.setIfInBounds_toArray, List.set_cons_zero, List.set_cons_succ]
                refine wpAnyH_take (i := 20) (oi := ⟨some 67, _, _, _, _, _⟩) (v := undef) rfl (by kernel_rfl) (by kernel_rfl) (by kernel_rfl) (fun _ _ _ h => h) (Or.inr ⟨by rfl, rfl⟩) (by assumption) ?_
                try simp only [Act.put, List.setIfInBounds_toArray, List.set_cons_zero, List.set_cons_succ]
                refine wpAnyH_take (i := 21) (oi := ⟨some 68, _, _, _, _, _⟩) (v := undef) rfl (by kernel_rfl) (by kernel_rfl) (by kernel_rfl) (fun _ _ _ h => h) (Or.inr ⟨by rfl, rfl⟩) (by assumption) ?_
                try simp only [Act.put, List.setIfInBounds_toArray, List.set_cons_zero, List.set_cons_succ]
                refine wpAnyH_take (i := 22) (oi := ⟨some 69, _, _, _, _, _⟩) (v := undef) rfl (by kernel_rfl) (by kernel_rfl) (by kernel_rfl) (fun _ _ _ h => h) (Or.inr ⟨by rfl, rfl⟩) (by assumption) ?_
                try simp only [Act.put, List.setIfInBounds_toArray, List.set_cons_zero, List.set_cons_succ]
                refine wpAnyH_take (i := 23) (oi := ⟨some 70, _, _, _, _, _⟩) (v := undef) rfl (by kernel_rfl) (by kernel_rfl) (by kernel_rfl) (fun _ _ _ h => h) (Or.inr ⟨by rfl, rfl⟩) (by assumption) ?_
                try simp only [Act.put, List.setIfInBounds_toArray, List.set_cons_zero, List.set_cons_succ]
                refine wpAnyH_take (i := 24) (oi := ⟨some 71, _, _, _, _, _⟩) (v := undef) rfl (by kernel_rfl) (by kernel_rfl) (by kernel_rfl) (fun _ _ _ h => h) (Or.inr ⟨by rfl, rfl⟩) (by assumption) ?_
                try simp only [Act.put, List.setIfInBounds_toArray, List.set_cons_zero, List.set_cons_succ]
                refine wpAnyH_take (i := 25) (oi := ⟨some 72, _, _, _, _, _⟩) (v := undef) rfl (by kernel_rfl) (by kernel_rfl) (by kernel_rfl) (fun _ _ _ h => h) (Or.inr ⟨by rfl, rfl⟩) (by assumption) ?_
                try simp only [Act.put, List.setIfInBounds_toArray, List.set_cons_zero, List.set_cons_succ]
                refine wpAnyH_take (i := 26) (oi := ⟨some 73, _, _, _, _, _⟩) (v := undef) rfl (by kernel_rfl) (by kernel_rfl) (by kernel_rfl) (fun _ _ _ h => h) (Or.inr ⟨by rfl, rfl⟩) (by assumption) ?_
                try simp only [Act.put, List.setIfInBounds_toArray, List.set_cons_zero, List.set_cons_succ]
                refine wpAnyH_take (i := 27) (oi := ⟨some 74, _, _, _, _, _⟩) (v := undef) rfl (by kernel_rfl) (by kernel_rfl) (by kernel_rfl) (fun _ _ _ h => h) (Or.inr ⟨by rfl, rfl⟩) (by assumption) ?_
                try simp only [Act.put, List.setIfInBounds_toArray, List.set_cons_zero, List.set_cons_succ]
                refine wpAnyH_take (i := 28) (oi := ⟨some 75, _, _, _, _, _⟩) (v := ?_) rfl (by kernel_rfl) (by kernel_rfl) (by kernel_rfl) (fun _ _ _ h => h) (Or.inl ⟨by rfl, ?_⟩) (by assumption) ?_
                rotate_left
                · (intro w hSw; (try dsimp only at hSw); go_simp; try with_reducible rfl)
                try simp only [Act.put, List.setIfInBounds_toArray, List.set_cons_zero, List.set_cons_succ]
                refine wpAnyH_take (i := 29) (oi := ⟨some 76, _, _, _, _, _⟩) (v := ?_) rfl (by kernel_rfl) (by kernel_rfl) (by kernel_rfl) (fun _ _ _ h => h) (Or.inl ⟨by rfl, ?_⟩) (by assumption) ?_
                rotate_left
                · (intro w hSw; (try dsimp only at hSw); go_simp; try with_reducible rfl)
                try simp only [Act.put, List.setIfInBounds_toArray, List.set_cons_zero, List.set_cons_succ]
                refine wpAnyH_done (by kernel_rfl) ?_ _
                have HI6 := Lib.hid ((HI5.out.below (Qw.below (⟨1, rfl⟩ : Qw w5 w5.drew) _)).below hb6); have HR6 := Lib.hid (ownsRow_r HOB.out (HT5.out.trans hT6) (by decide) (by decide) (by decide) (by decide))
                have HST := Lib.hid (HNEW.out.trans (bestStep_none _ _ _ (by rw [← HBA.out]; exact HOD.out)))
                obtain ⟨h0, h1, h2⟩ := HC.out _ hT6
                have fz : ∀ k, w6.frozen? ⟨w.heap.size + 1, k, none⟩ = false := fun k => by have := HI6.out.best; unfold BoxAt at this; simp [World.frozen?, this]
                have y0 := HI6.out.best.cell 0; have y1 := HI6.out.best.cell 1; have y2 := HI6.out.best.cell 2
                simp only [boxC] at y0 y1 y2
                simp at y0 y1 y2
                have HP := Lib.hid (HI6.out.putBest HBW.out q)
                have HR7 := Lib.hid (own_box3 HR6.out hB3 (.int .i64 q.p) (.int .i64 q.f) (.int .i64 q.t))
                clear hT6 hb6 hHeld
                go_wp2_with fail
                go_roundw
                case rel => exact ⟨i + 1, some q, hli, by go_num, HST.out.symm, rfl, by rw [HBA.out]; rfl, HP.out, HR7.out⟩
                case measure => simp [intOf]; omega
              | some b =>
                have HBX : Hid (BoxAt w5 (w.heap.size + 1) (some b)) := Lib.hid HI5.out.best
                have HBB : Hid (b.f < b.t ∧ b.t ≤ R.n) := Lib.hid (by
                  have := HO2.out
                  refine bestOf_in (L := R.L) (S := S) (P := fun b => b.f < b.t ∧ b.t ≤ R.n) _ (fun q hq => ?_) b this.symm
                  rcases List.mem_append.1 hq with h | h
                  · exact (blocksTo_in (L := R.L) hB1 h).2
                  · obtain ⟨i, hi⟩ := List.mem_iff_getElem?.1 (List.mem_of_mem_take h)
                    exact (cutL_in hB1 hi).2)
                have hb1 := HBB.out.1
                have hb2 := HBB.out.2
                have wq1 : IntKind.i64.wrap ((q.t : Int) - (q.f : Int)) = (q.t : Int) - (q.f : Int) := IntWalk.i64_in _ ⟨by omega, by omega⟩
                have wb1 : IntKind.i64.wrap ((b.t : Int) - (b.f : Int)) = (b.t : Int) - (b.f : Int) := IntWalk.i64_in _ ⟨by omega, by omega⟩
                by_cases hcmp : b.t - b.f ≤ q.t - q.f
                · have hci : ¬ ((q.t : Int) - (q.f : Int) < (b.t : Int) - (b.f : Int)) := by omega
                  have HOD := Lib.hid hod
                  clear hod
                  go_wp2_with fail
                  refine wp_region_held_drew (S := fun w' => RTurn R.base w5 w') (by kernel_rfl) ?_ (fun hHeld => ?_)
                  · (try dsimp only); first | exact RTurn.refl _ _ | exact .of (Qw.below (⟨1, rfl⟩ : Qw w5 w5.drew) _) hbw5 | exact hT6
                  refine wpAnyH_take (i := 0) (oi := ⟨some 47, _, _, _, _, _⟩) (v := ?_) rfl (by kernel_rfl) (by kernel_rfl) (by kernel_rfl) (fun _ _ _ h => h) (Or.inl ⟨by rfl, ?_⟩) (by assumption) ?_
                  rotate_left
                  · (intro w hSw; (try dsimp only at hSw); go_simp; try with_reducible rfl)
                  try simp only [Act.put, List.setIfInBounds_toArray, List.set_cons_zero, List.set_cons_succ]
                  refine wpAnyH_take (i := 1) (oi := ⟨some 48, _, _, _, _, _⟩) (v := ?_) rfl (by kernel_rfl) (by kernel_rfl) (by kernel_rfl) (fun _ _ _ h => h) (Or.inl ⟨by rfl, ?_⟩) (by assumption) ?_
                  rotate_left
                  · (intro w hSw; (try dsimp only at hSw); go_simp; try with_reducible rfl)
                  try simp only [Act.put, List.setIfInBounds_toArray, List.set_cons_zero, List.set_cons_succ]
                  refine wpAnyH_take (i := 2) (oi := ⟨some 49, _, _, _, _, _⟩) (v := ?_) rfl (by kernel_rfl) (by kernel_rfl) (by kernel_rfl) (fun _ _ _ h => h) (Or.inl ⟨by rfl, ?_⟩) (by assumption) ?_
                  rotate_left
                  · (intro w hSw; (try dsimp only at hSw); go_simp; try with_reducible rfl)
                  try simp only [Act.put, List.setIfInBounds_toArray, List.set_cons_zero, List.set_cons_succ]
                  refine wpAnyH_take (i := 3) (oi := ⟨some 50, _, _, _, _, _⟩) (v := ?_) rfl (by kernel_rfl) (by kernel_rfl) (by kernel_rfl) (fun _ _ _ h => h) (Or.inl ⟨by rfl, ?_⟩) (by assumption) ?_
                  rotate_left
                  · (intro w hSw; (try dsimp only at hSw); go_simp; try with_reducible rfl)
                  try simp only [Act.put, List.setIfInBounds_toArray, List.set_cons_zero, List.set_cons_succ]
                  refine wpAnyH_take (i := 4) (oi := ⟨some 51, _, _, _, _, _⟩) (v := .agg #[.int .i64 q.p, .int .i64 q.f, .int .i64 q.t]) rfl (by kernel_rfl) (by kernel_rfl) (by kernel_rfl) (fun _ _ _ h => h) (Or.inl ⟨by rfl, ?_⟩) (by assumption) ?_
                  · (intro w hSw; (try dsimp only at hSw); obtain ⟨h0, h1, h2⟩ := HC.out _ hSw; go_simp)
                  try simp only [Act.put, List.setIfInBounds_toArray, List.set_cons_zero, List.set_cons_succ]
                  refine wpAnyH_take (i := 5) (oi := ⟨some 52, _, _, _, _, _⟩) (v := ?_) rfl (by kernel_rfl) (by kernel_rfl) (by kernel_rfl) (fun _ _ _ h => h) (Or.inl ⟨by rfl, ?_⟩) (by assumption) ?_
                  rotate_left
                  · (intro w hSw; (try dsimp only at hSw); go_simp; try with_reducible rfl)
                  try simp only [Act.put, List.setIfInBounds_toArray, List.set_cons_zero, List.set_cons_succ]
                  refine wpAnyH_ready (rs := [6]) (by kernel_rfl) (by simp) ?_
                  refine AllReadyH.cons (o := ⟨some 53, _, _, _, _, _⟩) rfl (fun K hK => ?_) AllReadyH.nil
                  go_simp
                  refine (rodd_any R Z kv vt vl vy S q ba _ (HI5.out.at_.below (Qw.below (⟨1, rfl⟩ : Qw w5 w5.drew) _)) HQK.out.1).mono ?_
                  rintro e w6 ⟨rfl, hb6⟩
                  rw [HOD.out]
                  have hT6 : RTurn R.base w5 w6 := (RTurn.of (Qw.below (⟨1, rfl⟩ : Qw w5 w5.drew) _) hbw5).trans (.of hb6 hbw5)
                  go_wp2_with fail
                  refine hK.out _ _ ?_ (fun hHeld => ?_)
                  · (try dsimp only); first | exact RTurn.refl _ _ | exact .of (Qw.below (⟨1, rfl⟩ : Qw w5 w5.drew) _) hbw5 | exact hT6
                  clear hK K
                  try simp only [Act.put, List.setIfInBounds_toArray, List.set_cons_zero, List.set_cons_succ]
                  refine wpAnyH_take (i := 7) (oi := ⟨some 54, _, _, _, _, _⟩) (v := ?_) rfl (by kernel_rfl) (by kernel_rfl) (by kernel_rfl) (fun _ _ _ h => h) (Or.inl ⟨by rfl, ?_⟩) (by assumption) ?_
                  rotate_left
                  · (intro w hSw; (try dsimp only at hSw); go_simp; try with_reducible rfl)
                  try simp only [Act.put, List.setIfInBounds_toArray, List.set_cons_zero, List.set_cons_succ]
                  refine wpAnyH_take (i := 8) (oi := ⟨some 55, _, _, _, _, _⟩) (v := ?_) rfl (by kernel_rfl) (by kernel_rfl) (by kernel_rfl) (fun _ _ _ h => h) (Or.inl ⟨by rfl, ?_⟩) (by assumption) ?_
                  rotate_left
                  · (intro w hSw; (try dsimp only at hSw); go_simp; try with_reducible rfl)
                  try simp only [Act.put, List.setIfInBounds_toArray, List.set_cons_zero, List.set_cons_succ]
                  refine wpAnyH_take (i := 9) (oi := ⟨some 56, _, _, _, _, _⟩) (v := ?_) rfl (by kernel_rfl) (by kernel_rfl) (by kernel_rfl) (fun _ _ _ h => h) (Or.inl ⟨by rfl, ?_⟩) (by assumption) ?_
                  rotate_left
                  · (intro w hSw; (try dsimp only at hSw); go_simp; try with_reducible rfl)
                  try simp only [Act.put, List.setIfInBounds_toArray, List.set_cons_zero, List.set_cons_succ]
                  refine wpAnyH_take (i := 10) (oi := ⟨some 57, _, _, _, _, _⟩) (v := ?_) rfl (by kernel_rfl) (by kernel_rfl) (by kernel_rfl) (fun _ _ _ h => h) (Or.inl ⟨by rfl, ?_⟩) (by assumption) ?_
                  rotate_left
                  · (intro w hSw; (try dsimp only at hSw); go_simp; try with_reducible rfl)
                  try simp only [Act.put, List.setIfInBounds_toArray, List.set_cons_zero, List.set_cons_succ]
                  refine wpAnyH_take (i := 11) (oi := ⟨some 58, _, _, _, _, _⟩) (v := ?_) rfl (by kernel_rfl) (by kernel_rfl) (by kernel_rfl) (fun _ _ _ h => h) (Or.inl ⟨by rfl, ?_⟩) (by assumption) ?_
                  rotate_left
                  · (intro w hSw; (try dsimp only at hSw); go_simp; try with_reducible rfl)
                  try simp only [Act.put, List.setIfInBounds_toArray, List.set_cons_zero, List.set_cons_succ]
                  refine wpAnyH_take (i := 12) (oi := ⟨some 59, _, _, _, _, _⟩) (v := ?_) rfl (by kernel_rfl) (by kernel_rfl) (by kernel_rfl) (fun _ _ _ h => h) (Or.inl ⟨by rfl, ?_⟩) (by assumption) ?_
                  rotate_left
                  · (intro w hSw; (try dsimp only at hSw); go_simp; try with_reducible rfl)
                  try simp only [Act.put, List.setIfInBounds_toArray, List.set_cons_zero, List.set_cons_succ]
                  refine wpAnyH_take (i := 13) (oi := ⟨some 60, _, _, _, _, _⟩) (v := ?_) rfl (by kernel_rfl) (by kernel_rfl) (by kernel_rfl) (fun _ _ _ h => h) (Or.inl ⟨by rfl, ?_⟩) (by assumption) ?_
                  rotate_left
                  · (intro w hSw; (try dsimp only at hSw); go_simp; try with_reducible rfl)
                  try simp only [Act.put, List.setIfInBounds_toArray, List.set_cons_zero, List.set_cons_succ]
                  refine wpAnyH_take (i := 14) (oi := ⟨some 61, _, _, _, _, _⟩) (v := ?_) rfl (by kernel_rfl) (by kernel_rfl) (by kernel_rfl) (fun _ _ _ h => h) (Or.inl ⟨by rfl, ?_⟩) (by assumption) ?_
                  rotate_left
                  · (intro w hSw; (try dsimp only at hSw); go_simp; try with_reducible rfl)
                  try simp only [Act.put, List.setIfInBounds_toArray, List.set_cons_zero, List.set_cons_succ]
                  refine wpAnyH_take (i := 15) (oi := ⟨some 62, _, _, _, _, _⟩) (v := .int .i64 q.t) rfl (by kernel_rfl) (by kernel_rfl) (by kernel_rfl) (fun _ _ _ h => h) (Or.inl ⟨by rfl, ?_⟩) (by assumption) ?_
                  · (intro w hSw; (try dsimp only at hSw); obtain ⟨h0, h1, h2⟩ := HC.out _ hSw; go_simp)
                  try simp only [Act.put, List.setIfInBounds_toArray, List.set_cons_zero, List.set_cons_succ]
                  refine wpAnyH_take (i := 16) (oi := ⟨some 63, _, _, _, _, _⟩) (v := ?_) rfl (by kernel_rfl) (by kernel_rfl) (by kernel_rfl) (fun _ _ _ h => h) (Or.inl ⟨by rfl, ?_⟩) (by assumption) ?_
                  rotate_left
                  · (intro w hSw; (try dsimp only at hSw); go_simp; try with_reducible rfl)
                  try simp only [Act.put, List.setIfInBounds_toArray, List.set_cons_zero, List.set_cons_succ]
                  refine wpAnyH_take (i := 17) (oi := ⟨some 64, _, _, _, _, _⟩) (v := ?_) rfl (by kernel_rfl) (by kernel_rfl) (by kernel_rfl) (fun _ _ _ h => h) (Or.inl ⟨by rfl, ?_⟩) (by assumption) ?_
                  rotate_left
                  · (intro w hSw; (try dsimp only at hSw); go_simp; try with_reducible rfl)
                  try simp only [Act.put, List.setIfInBounds_toArray, List.set_cons_zero, List.set_cons_succ]
                  refine wpAnyH_take (i := 18) (oi := ⟨some 65, _, _, _, _, _⟩) (v := ?_) rfl (by kernel_rfl) (by kernel_rfl) (by kernel_rfl) (fun _ _ _ h => h) (Or.inl ⟨by rfl, ?_⟩) (by assumption) ?_
                  rotate_left
                  · (intro w hSw; (try dsimp only at hSw); go_simp; try with_reducible rfl)
                  try simp only [Act.put, List.setIfInBounds_toArray, List.set_cons_zero, List.set_cons_succ]
                  refine wpAnyH_take (i := 19) (oi := ⟨some 66, _, _, _, _, _⟩) (v := ?_) rfl (by kernel_rfl) (by kernel_rfl) (by kernel_rfl) (fun _ _ _ h => h) (Or.inl ⟨by rfl, ?_⟩) (by assumption) ?_
                  rotate_left
                  · (intro w hSw; (try dsimp only at hSw); go_simp; try with_reducible rfl)
                  try simp only [Act.put, List.setIfInBounds_toArray, List.set_cons_zero, List.set_cons_succ]
                  refine wpAnyH_take (i := 20) (oi := ⟨some 67, _, _, _, _, _⟩) (v := .int .i64 q.f) rfl (by kernel_rfl) (by kernel_rfl) (by kernel_rfl) (fun _ _ _ h => h) (Or.inl ⟨by rfl, ?_⟩) (by assumption) ?_
                  · (intro w hSw; (try dsimp only at hSw); obtain ⟨h0, h1, h2⟩ := HC.out _ hSw; go_simp)
                  try simp only [Act.put, List.setIfInBounds_toArray, List.set_cons_zero, List.set_cons_succ]
                  refine wpAnyH_take (i := 21) (oi := ⟨some 68, _, _, _, _, _⟩) (v := ?_) rfl (by kernel_rfl) (by kernel_rfl) (by kernel_rfl) (fun _ _ _ h => h) (Or.inl ⟨by rfl, ?_⟩) (by assumption) ?_
                  rotate_left
                  · (intro w hSw; (try dsimp only at hSw); go_simp; try with_reducible rfl)
                  try simp only [Act.put, List.setIfInBounds_toArray, List.set_cons_zero, List.set_cons_succ]
                  refine wpAnyH_take (i := 22) (oi := ⟨some 69, _, _, _, _, _⟩) (v := ?_) rfl (by kernel_rfl) (by kernel_rfl) (by kernel_rfl) (fun _ _ _ h => h) (Or.inl ⟨by rfl, ?_⟩) (by assumption) ?_
                  rotate_left
                  · (intro w hSw; (try dsimp only at hSw); go_simp; try with_reducible rfl)
                  try simp only [Act.put, List.setIfInBounds_toArray, List.set_cons_zero, List.set_cons_succ]
                  refine wpAnyH_take (i := 23) (oi := ⟨some 70, _, _, _, _, _⟩) (v := .int .i64 b.t) rfl (by kernel_rfl) (by kernel_rfl) (by kernel_rfl) (fun _ _ _ h => h) (Or.inl ⟨by rfl, ?_⟩) (by assumption) ?_
                  · (intro w hSw; (try dsimp only at hSw); have h0 := (HBX.out.rt hSw).cell 2; simp only [boxC] at h0; simp at h0; go_simp)
                  try simp only [Act.put, List.setIfInBounds_toArray, List.set_cons_zero, List.set_cons_succ]
                  refine wpAnyH_take (i := 24) (oi := ⟨some 71, _, _, _, _, _⟩) (v := ?_) rfl (by kernel_rfl) (by kernel_rfl) (by kernel_rfl) (fun _ _ _ h => h) (Or.inl ⟨by rfl, ?_⟩) (by assumption) ?_
                  rotate_left
                  · (intro w hSw; (try dsimp only at hSw); go_simp; try with_reducible rfl)
                  try simp only [Act.put, List.setIfInBounds_toArray, List.set_cons_zero, List.set_cons_succ]
                  refine wpAnyH_take (i := 25) (oi := ⟨some 72, _, _, _, _, _⟩) (v := .int .i64 b.f) rfl (by kernel_rfl) (by kernel_rfl) (by kernel_rfl) (fun _ _ _ h => h) (Or.inl ⟨by rfl, ?_⟩) (by assumption) ?_
                  · (intro w hSw; (try dsimp only at hSw); have h0 := (HBX.out.rt hSw).cell 1; simp only [boxC] at h0; simp at h0; go_simp)
                  try simp only [Act.put, List.setIfInBounds_toArray, List.set_cons_zero, List.set_cons_succ]
                  refine wpAnyH_take (i := 26) (oi := ⟨some 73, _, _, _, _, _⟩) (v := ?_) rfl (by kernel_rfl) (by kernel_rfl) (by kernel_rfl) (fun _ _ _ h => h) (Or.inl ⟨by rfl, ?_⟩) (by assumption) ?_
                  rotate_left
                  · (intro w hSw; (try dsimp only at hSw); go_simp; try with_reducible rfl)
                  try simp only [Act.put, List.setIfInBounds_toArray, List.set_cons_zero, List.set_cons_succ]
                  refine wpAnyH_take (i := 27) (oi := ⟨some 74, _, _, _, _, _⟩) (v := ?_) rfl (by kernel_rfl) (by kernel_rfl) (by kernel_rfl) (fun _ _ _ h => h) (Or.inl ⟨by rfl, ?_⟩) (by assumption) ?_
                  rotate_left
                  · (intro w hSw; (try dsimp only at hSw); go_simp; try with_reducible rfl)
                  try simp only [Act.put, List.setIfInBounds_toArray, List.set_cons_zero, List.set_cons_succ]
                  refine wpAnyH_take (i := 28) (oi := ⟨some 75, _, _, _, _, _⟩) (v := ?_) rfl (by kernel_rfl) (by kernel_rfl) (by kernel_rfl) (fun _ _ _ h => h) (Or.inl ⟨by rfl, ?_⟩) (by assumption) ?_
                  rotate_left
                  · (intro w hSw; (try dsimp only at hSw); go_simp; try with_reducible rfl)
                  try simp only [Act.put, List.setIfInBounds_toArray, List.set_cons_zero, List.set_cons_succ]
                  refine wpAnyH_take (i := 29) (oi := ⟨some 76, _, _, _, _, _⟩) (v := ?_) rfl (by kernel_rfl) (by kernel_rfl) (by kernel_rfl) (fun _ _ _ h => h) (Or.inl ⟨by rfl, ?_⟩) (by assumption) ?_
                  rotate_left
                  · (intro w hSw; (try dsimp only at hSw); go_simp; try with_reducible rfl)
                  try simp only [Act.put, List.setIfInBounds_toArray, List.set_cons_zero, List.set_cons_succ]
                  refine wpAnyH_done (by kernel_rfl) ?_ _
                  have HI6 := Lib.hid ((HI5.out.below (Qw.below (⟨1, rfl⟩ : Qw w5 w5.drew) _)).below hb6); have HR6 := Lib.hid (ownsRow_r HOB.out (HT5.out.trans hT6) (by decide) (by decide) (by decide) (by decide))
                  have HST := Lib.hid (HNEW.out.trans (bestStep_keep _ _ _ _ (by rw [← HBA.out]; exact HOD.out) hcmp))
                  clear hT6 hb6 hHeld
                  go_wp2_with fail
                  go_roundw
                  case rel => exact ⟨i + 1, _, hli, by go_num, HST.out.symm, rfl, rfl, HI6.out, HR6.out⟩
                  case measure => simp [intOf]; omega
                · have hci : (q.t : Int) - (q.f : Int) < (b.t : Int) - (b.f : Int) := by omega
                  have HOD := Lib.hid hod
                  clear hod
                  go_wp2_with fail
                  refine wp_region_held_drew (S := fun w' => RTurn R.base w5 w') (by kernel_rfl) ?_ (fun hHeld => ?_)
                  · (try dsimp only); first | exact RTurn.refl _ _ | exact .of (Qw.below (⟨1, rfl⟩ : Qw w5 w5.drew) _) hbw5 | exact hT6
                  refine wpAnyH_take (i := 0) (oi := ⟨some 47, _, _, _, _, _⟩) (v := ?_) rfl (by kernel_rfl) (by kernel_rfl) (by kernel_rfl) (fun _ _ _ h => h) (Or.inl ⟨by rfl, ?_⟩) (by assumption) ?_
                  rotate_left
                  · (intro w hSw; (try dsimp only at hSw); go_simp; try with_reducible rfl)
                  try simp only [Act.put, List.setIfInBounds_toArray, List.set_cons_zero, List.set_cons_succ]
                  refine wpAnyH_take (i := 1) (oi := ⟨some 48, _, _, _, _, _⟩) (v := ?_) rfl (by kernel_rfl) (by kernel_rfl) (by kernel_rfl) (fun _ _ _ h => h) (Or.inl ⟨by rfl, ?_⟩) (by assumption) ?_
                  rotate_left
                  · (intro w hSw; (try dsimp only at hSw); go_simp; try with_reducible rfl)
                  try simp only [Act.put, List.setIfInBounds_toArray, List.set_cons_zero, List.set_cons_succ]
                  refine wpAnyH_take (i := 2) (oi := ⟨some 49, _, _, _, _, _⟩) (v := ?_) rfl (by kernel_rfl) (by kernel_rfl) (by kernel_rfl) (fun _ _ _ h => h) (Or.inl ⟨by rfl, ?_⟩) (by assumption) ?_
                  rotate_left
                  · (intro w hSw; (try dsimp only at hSw); go_simp; try with_reducible rfl)
                  try simp only [Act.put, List.setIfInBounds_toArray, List.set_cons_zero, List.set_cons_succ]
                  refine wpAnyH_take (i := 3) (oi := ⟨some 50, _, _, _, _, _⟩) (v := ?_) rfl (by kernel_rfl) (by kernel_rfl) (by kernel_rfl) (fun _ _ _ h => h) (Or.inl ⟨by rfl, ?_⟩) (by assumption) ?_
                  rotate_left
                  · (intro w hSw; (try dsimp only at hSw); go_simp; try with_reducible rfl)
                  try simp only [Act.put, List.setIfInBounds_toArray, List.set_cons_zero, List.set_cons_succ]
                  refine wpAnyH_take (i := 4) (oi := ⟨some 51, _, _, _, _, _⟩) (v := .agg #[.int .i64 q.p, .int .i64 q.f, .int .i64 q.t]) rfl (by kernel_rfl) (by kernel_rfl) (by kernel_rfl) (fun _ _ _ h => h) (Or.inl ⟨by rfl, ?_⟩) (by assumption) ?_
                  · (intro w hSw; (try dsimp only at hSw); obtain ⟨h0, h1, h2⟩ := HC.out _ hSw; go_simp)
                  try simp only [Act.put, List.setIfInBounds_toArray, List.set_cons_zero, List.set_cons_succ]
                  refine wpAnyH_take (i := 5) (oi := ⟨some 52, _, _, _, _, _⟩) (v := ?_) rfl (by kernel_rfl) (by kernel_rfl) (by kernel_rfl) (fun _ _ _ h => h) (Or.inl ⟨by rfl, ?_⟩) (by assumption) ?_
                  rotate_left
                  · (intro w hSw; (try dsimp only at hSw); go_simp; try with_reducible rfl)
                  try simp only [Act.put, List.setIfInBounds_toArray, List.set_cons_zero, List.set_cons_succ]
                  refine wpAnyH_ready (rs := [6]) (by kernel_rfl) (by simp) ?_
                  refine AllReadyH.cons (o := ⟨some 53, _, _, _, _, _⟩) rfl (fun K hK => ?_) AllReadyH.nil
                  go_simp
                  refine (rodd_any R Z kv vt vl vy S q ba _ (HI5.out.at_.below (Qw.below (⟨1, rfl⟩ : Qw w5 w5.drew) _)) HQK.out.1).mono ?_
                  rintro e w6 ⟨rfl, hb6⟩
                  rw [HOD.out]
                  have hT6 : RTurn R.base w5 w6 := (RTurn.of (Qw.below (⟨1, rfl⟩ : Qw w5 w5.drew) _) hbw5).trans (.of hb6 hbw5)
                  go_wp2_with fail
                  refine hK.out _ _ ?_ (fun hHeld => ?_)
                  · (try dsimp only); first | exact RTurn.refl _ _ | exact .of (Qw.below (⟨1, rfl⟩ : Qw w5 w5.drew) _) hbw5 | exact hT6
                  clear hK K
                  try simp only [Act.put, List.setIfInBounds_toArray, List.set_cons_zero, List.set_cons_succ]
                  refine wpAnyH_take (i := 7) (oi := ⟨some 54, _, _, _, _, _⟩) (v := ?_) rfl (by kernel_rfl) (by kernel_rfl) (by kernel_rfl) (fun _ _ _ h => h) (Or.inl ⟨by rfl, ?_⟩) (by assumption) ?_
                  rotate_left
                  · (intro w hSw; (try dsimp only at hSw); go_simp; try with_reducible rfl)
                  try simp only [Act.put, List.setIfInBounds_toArray, List.set_cons_zero, List.set_cons_succ]
                  refine wpAnyH_take (i := 8) (oi := ⟨some 55, _, _, _, _, _⟩) (v := ?_) rfl (by kernel_rfl) (by kernel_rfl) (by kernel_rfl) (fun _ _ _ h => h) (Or.inl ⟨by rfl, ?_⟩) (by assumption) ?_
                  rotate_left
                  · (intro w hSw; (try dsimp only at hSw); go_simp; try with_reducible rfl)
                  try simp only [Act.put, List.setIfInBounds_toArray, List.set_cons_zero, List.set_cons_succ]
                  refine wpAnyH_take (i := 9) (oi := ⟨some 56, _, _, _, _, _⟩) (v := ?_) rfl (by kernel_rfl) (by kernel_rfl) (by kernel_rfl) (fun _ _ _ h => h) (Or.inl ⟨by rfl, ?_⟩) (by assumption) ?_
                  rotate_left
                  · (intro w hSw; (try dsimp only at hSw); go_simp; try with_reducible rfl)
                  try simp only [Act.put, List.setIfInBounds_toArray, List.set_cons_zero, List.set_cons_succ]
                  refine wpAnyH_take (i := 10) (oi := ⟨some 57, _, _, _, _, _⟩) (v := ?_) rfl (by kernel_rfl) (by kernel_rfl) (by kernel_rfl) (fun _ _ _ h => h) (Or.inl ⟨by rfl, ?_⟩) (by assumption) ?_
                  rotate_left
                  · (intro w hSw; (try dsimp only at hSw); go_simp; try with_reducible rfl)
                  try simp only [Act.put, List.setIfInBounds_toArray, List.set_cons_zero, List.set_cons_succ]
                  refine wpAnyH_take (i := 11) (oi := ⟨some 58, _, _, _, _, _⟩) (v := ?_) rfl (by kernel_rfl) (by kernel_rfl) (by kernel_rfl) (fun _ _ _ h => h) (Or.inl ⟨by rfl, ?_⟩) (by assumption) ?_
                  rotate_left
                  · (intro w hSw; (try dsimp only at hSw); go_simp; try with_reducible rfl)
                  try simp only [Act.put, List.setIfInBounds_toArray, List.set_cons_zero, List.set_cons_succ]
                  refine wpAnyH_take (i := 12) (oi := ⟨some 59, _, _, _, _, _⟩) (v := ?_) rfl (by kernel_rfl) (by kernel_rfl) (by kernel_rfl) (fun _ _ _ h => h) (Or.inl ⟨by rfl, ?_⟩) (by assumption) ?_
                  rotate_left
                  · (intro w hSw; (try dsimp only at hSw); go_simp; try with_reducible rfl)
                  try simp only [Act.put, List.setIfInBounds_toArray, List.set_cons_zero, List.set_cons_succ]
                  refine wpAnyH_take (i := 13) (oi := ⟨some 60, _, _, _, _, _⟩) (v := ?_) rfl (by kernel_rfl) (by kernel_rfl) (by kernel_rfl) (fun _ _ _ h => h) (Or.inl ⟨by rfl, ?_⟩) (by assumption) ?_
                  rotate_left
                  · (intro w hSw; (try dsimp only at hSw); go_simp; try with_reducible rfl)
                  try simp only [Act.put, List.setIfInBounds_toArray, List.set_cons_zero, List.set_cons_succ]
                  refine wpAnyH_take (i := 14) (oi := ⟨some 61, _, _, _, _, _⟩) (v := ?_) rfl (by kernel_rfl) (by kernel_rfl) (by kernel_rfl) (fun _ _ _ h => h) (Or.inl ⟨by rfl, ?_⟩) (by assumption) ?_
                  rotate_left
                  · (intro w hSw; (try dsimp only at hSw); go_simp; try with_reducible rfl)
                  try simp only [Act.put, List.setIfInBounds_toArray, List.set_cons_zero, List.set_cons_succ]
                  refine wpAnyH_take (i := 15) (oi := ⟨some 62, _, _, _, _, _⟩) (v := .int .i64 q.t) rfl (by kernel_rfl) (by kernel_rfl) (by kernel_rfl) (fun _ _ _ h => h) (Or.inl ⟨by rfl, ?_⟩) (by assumption) ?_
                  · (intro w hSw; (try dsimp only at hSw); obtain ⟨h0, h1, h2⟩ := HC.out _ hSw; go_simp)
                  try simp only [Act.put, List.setIfInBounds_toArray, List.set_cons_zero, List.set_cons_succ]
                  refine wpAnyH_take (i := 16) (oi := ⟨some 63, _, _, _, _, _⟩) (v := ?_) rfl (by kernel_rfl) (by kernel_rfl) (by kernel_rfl) (fun _ _ _ h => h) (Or.inl ⟨by rfl, ?_⟩) (by assumption) ?_
                  rotate_left
                  · (intro w hSw; (try dsimp only at hSw); go_simp; try with_reducible rfl)
                  try simp only [Act.put, List.setIfInBounds_toArray, List.set_cons_zero, List.set_cons_succ]
                  refine wpAnyH_take (i := 17) (oi := ⟨some 64, _, _, _, _, _⟩) (v := ?_) rfl (by kernel_rfl) (by kernel_rfl) (by kernel_rfl) (fun _ _ _ h => h) (Or.inl ⟨by rfl, ?_⟩) (by assumption) ?_
                  rotate_left
                  · (intro w hSw; (try dsimp only at hSw); go_simp; try with_reducible rfl)
                  try simp only [Act.put, List.setIfInBounds_toArray, List.set_cons_zero, List.set_cons_succ]
                  refine wpAnyH_take (i := 18) (oi := ⟨some 65, _, _, _, _, _⟩) (v := ?_) rfl (by kernel_rfl) (by kernel_rfl) (by kernel_rfl) (fun _ _ _ h => h) (Or.inl ⟨by rfl, ?_⟩) (by assumption) ?_
                  rotate_left
                  · (intro w hSw; (try dsimp only at hSw); go_simp; try with_reducible rfl)
                  try simp only [Act.put, List.setIfInBounds_toArray, List.set_cons_zero, List.set_cons_succ]
                  refine wpAnyH_take (i := 19) (oi := ⟨some 66, _, _, _, _, _⟩) (v := ?_) rfl (by kernel_rfl) (by kernel_rfl) (by kernel_rfl) (fun _ _ _ h => h) (Or.inl ⟨by rfl, ?_⟩) (by assumption) ?_
                  rotate_left
                  · (intro w hSw; (try dsimp only at hSw); go_simp; try with_reducible rfl)
                  try simp only [Act.put, List.setIfInBounds_toArray, List.set_cons_zero, List.set_cons_succ]
                  refine wpAnyH_take (i := 20) (oi := ⟨some 67, _, _, _, _, _⟩) (v := .int .i64 q.f) rfl (by kernel_rfl) (by kernel_rfl) (by kernel_rfl) (fun _ _ _ h => h) (Or.inl ⟨by rfl, ?_⟩) (by assumption) ?_
                  · (intro w hSw; (try dsimp only at hSw); obtain ⟨h0, h1, h2⟩ := HC.out _ hSw; go_simp)
                  try simp only [Act.put, List.setIfInBounds_toArray, List.set_cons_zero, List.set_cons_succ]
                  refine wpAnyH_take (i := 21) (oi := ⟨some 68, _, _, _, _, _⟩) (v := ?_) rfl (by kernel_rfl) (by kernel_rfl) (by kernel_rfl) (fun _ _ _ h => h) (Or.inl ⟨by rfl, ?_⟩) (by assumption) ?_
                  rotate_left
                  · (intro w hSw; (try dsimp only at hSw); go_simp; try with_reducible rfl)
                  try simp only [Act.put, List.setIfInBounds_toArray, List.set_cons_zero, List.set_cons_succ]
                  refine wpAnyH_take (i := 22) (oi := ⟨some 69, _, _, _, _, _⟩) (v := ?_) rfl (by kernel_rfl) (by kernel_rfl) (by kernel_rfl) (fun _ _ _ h => h) (Or.inl ⟨by rfl, ?_⟩) (by assumption) ?_
                  rotate_left
                  · (intro w hSw; (try dsimp only at hSw); go_simp; try with_reducible rfl)
                  try simp only [Act.put, List.setIfInBounds_toArray, List.set_cons_zero, List.set_cons_succ]
                  refine wpAnyH_take (i := 23) (oi := ⟨some 70, _, _, _, _, _⟩) (v := .int .i64 b.t) rfl (by kernel_rfl) (by kernel_rfl) (by kernel_rfl) (fun _ _ _ h => h) (Or.inl ⟨by rfl, ?_⟩) (by assumption) ?_
                  · (intro w hSw; (try dsimp only at hSw); have h0 := (HBX.out.rt hSw).cell 2; simp only [boxC] at h0; simp at h0; go_simp)
                  try simp only [Act.put, List.setIfInBounds_toArray, List.set_cons_zero, List.set_cons_succ]
                  refine wpAnyH_take (i := 24) (oi := ⟨some 71, _, _, _, _, _⟩) (v := ?_) rfl (by kernel_rfl) (by kernel_rfl) (by kernel_rfl) (fun _ _ _ h => h) (Or.inl ⟨by rfl, ?_⟩) (by assumption) ?_
                  rotate_left
                  · (intro w hSw; (try dsimp only at hSw); go_simp; try with_reducible rfl)
                  try simp only [Act.put, List.setIfInBounds_toArray, List.set_cons_zero, List.set_cons_succ]
                  refine wpAnyH_take (i := 25) (oi := ⟨some 72, _, _, _, _, _⟩) (v := .int .i64 b.f) rfl (by kernel_rfl) (by kernel_rfl) (by kernel_rfl) (fun _ _ _ h => h) (Or.inl ⟨by rfl, ?_⟩) (by assumption) ?_
                  · (intro w hSw; (try dsimp only at hSw); have h0 := (HBX.out.rt hSw).cell 1; simp only [boxC] at h0; simp at h0; go_simp)
                  try simp only [Act.put, List.setIfInBounds_toArray, List.set_cons_zero, List.set_cons_succ]
                  refine wpAnyH_take (i := 26) (oi := ⟨some 73, _, _, _, _, _⟩) (v := ?_) rfl (by kernel_rfl) (by kernel_rfl) (by kernel_rfl) (fun _ _ _ h => h) (Or.inl ⟨by rfl, ?_⟩) (by assumption) ?_
                  rotate_left
                  · (intro w hSw; (try dsimp only at hSw); go_simp; try with_reducible rfl)
                  try simp only [Act.put, List.setIfInBounds_toArray, List.set_cons_zero, List.set_cons_succ]
                  refine wpAnyH_take (i := 27) (oi := ⟨some 74, _, _, _, _, _⟩) (v := ?_) rfl (by kernel_rfl) (by kernel_rfl) (by kernel_rfl) (fun _ _ _ h => h) (Or.inl ⟨by rfl, ?_⟩) (by assumption) ?_
                  rotate_left
                  · (intro w hSw; (try dsimp only at hSw); go_simp; try with_reducible rfl)
                  try simp only [Act.put, List.setIfInBounds_toArray, List.set_cons_zero, List.set_cons_succ]
                  refine wpAnyH_take (i := 28) (oi := ⟨some 75, _, _, _, _, _⟩) (v := ?_) rfl (by kernel_rfl) (by kernel_rfl) (by kernel_rfl) (fun _ _ _ h => h) (Or.inl ⟨by rfl, ?_⟩) (by assumption) ?_
                  rotate_left
                  · (intro w hSw; (try dsimp only at hSw); go_simp; try with_reducible rfl)
                  try simp only [Act.put, List.setIfInBounds_toArray, List.set_cons_zero, List.set_cons_succ]
                  refine wpAnyH_take (i := 29) (oi := ⟨some 76, _, _, _, _, _⟩) (v := ?_) rfl (by kernel_rfl) (by kernel_rfl) (by kernel_rfl) (fun _ _ _ h => h) (Or.inl ⟨by rfl, ?_⟩) (by assumption) ?_
                  rotate_left
                  · (intro w hSw; (try dsimp only at hSw); go_simp; try with_reducible rfl)
                  try simp only [Act.put, List.setIfInBounds_toArray, List.set_cons_zero, List.set_cons_succ]
                  refine wpAnyH_done (by kernel_rfl) ?_ _
                  have HI6 := Lib.hid ((HI5.out.below (Qw.below (⟨1, rfl⟩ : Qw w5 w5.drew) _)).below hb6); have HR6 := Lib.hid (ownsRow_r HOB.out (HT5.out.trans hT6) (by decide) (by decide) (by decide) (by decide))
                  have HST := Lib.hid (HNEW.out.trans (bestStep_new _ _ _ _ (by rw [← HBA.out]; exact HOD.out) hcmp))
                  obtain ⟨h0, h1, h2⟩ := HC.out _ hT6
                  have fz : ∀ k, w6.frozen? ⟨w.heap.size + 1, k, none⟩ = false := fun k => by have := HI6.out.best; unfold BoxAt at this; simp [World.frozen?, this]
                  have y0 := HI6.out.best.cell 0; have y1 := HI6.out.best.cell 1; have y2 := HI6.out.best.cell 2
                  simp only [boxC] at y0 y1 y2
                  simp at y0 y1 y2
                  have HP := Lib.hid (HI6.out.putBest HBW.out q)
                  have HR7 := Lib.hid (own_box3 HR6.out hB3 (.int .i64 q.p) (.int .i64 q.f) (.int .i64 q.t))
                  clear hT6 hb6 hHeld
                  go_wp2_with fail
                  go_roundw
                  case rel => exact ⟨i + 1, some q, hli, by go_num, HST.out.symm, rfl, by rw [HBA.out]; rfl, HP.out, HR7.out⟩
                  case measure => simp [intOf]; omega
          · rw [HTH.out] at hno; cases hno
          · rw [HTH.out] at hno; cases hno
        · have hii : ¬ (i : Int) < (N : Int) := by omega
          obtain rfl : i = N := by omega
          have HO3 : Hid (o = bestOf R.L S (blocksTo R.L (p + 1))) := Lib.hid (by
            rw [blocksTo_succ, HO2.out, HN.out, List.take_length]; rfl)
          clear hoq
          go_wp2_with fail
          go_roundw
          case rel => exact ⟨p + 1, o, by omega, by go_num, HO3.out, rfl, rfl, HI4.out⟩
          case measure => simp [intOf]; omega
    · have hpi : ¬ (p : Int) ≤ (S.pass : Int) := by omega
      obtain rfl : p = S.pass + 1 := by omega
      have HBS : Hid (bestS R.L S = o) := Lib.hid (by unfold bestS; exact HO.out.symm)
      have hres := HI.out.res; have hbest := HI.out.best
      have fz : ∀ k, wa.frozen? ⟨w.heap.size, k, none⟩ = false := fun k => by have := HI.out.res; unfold BoxAt at this; simp [World.frozen?, this]
      have r0 := hres.cell 0; have r1 := hres.cell 1; have r2 := hres.cell 2
      have HRES := Lib.hid hres
      obtain ⟨q, hq⟩ : ∃ q : Qn, boxC o = boxC (some q) ∧ (∀ b, o = some b → q = b) := by
        cases o with
        | none => exact ⟨⟨0, 0, 0⟩, rfl, fun b h => by cases h⟩
        | some b => exact ⟨b, rfl, fun c h => by injection h⟩
      obtain ⟨hq1, hq2⟩ := hq
      have b0 := hbest.cell 0; have b1 := hbest.cell 1; have b2 := hbest.cell 2
      rw [hq1] at b0 b1 b2
      simp only [boxC] at r0 r1 r2 b0 b1 b2
      simp at r0 r1 r2 b0 b1 b2
      have HQ2 := Lib.hid hq2
      clear hq1 hq2 hres hbest
      go_wp2_with fail
      have hput := HRES.out.put q
      have x0 := hput.cell 0; have x1 := hput.cell 1; have x2 := hput.cell 2
      simp only [boxC] at x0 x1 x2
      simp at x0 x1 x2
      refine bodyPost_ret (v := .tuple #[kq q, .bool (ansO S o), .bool o.isSome]) (by simp [results, Try.results65, go_sem, x0, x1, x2]) rfl ?_
      have hbr : R.base ≤ w.heap.size := HBW.out
      have m1 := HI.out.at_.setQ (o := 0) HRES.out hbr (.int .i64 q.p)
      have m2 := m1.setQ (o := 1) (blk_setR HRES.out _) hbr (.int .i64 q.f)
      have m3 := m2.setQ (o := 2) (blk_setR (blk_setR HRES.out _) _) hbr (.int .i64 q.t)
      refine ⟨⟨q, _, _, rfl, by rw [HBS.out], fun b hb => ?_⟩, m3, ((HI.out.turn.setNew (o := 0) hbr (Nat.le_refl _) (.int .i64 q.p)).setNew (o := 1) hbr (Nat.le_refl _) (.int .i64 q.f)).setNew (o := 2) hbr (Nat.le_refl _) (.int .i64 q.t)⟩
      rw [HBS.out] at hb
      exact ⟨HQ2.out b hb, by rw [hb]; rfl⟩
end Go.Proofs.Ytoofnkkbebjldaa
/- The contract of halve of the document's course. Conditions: as each statement says. -/
namespace Go.Proofs.Ytoofnkkbebjldaa
open Go.RowKit
set_option linter.unusedVariables false
/-- What halve leaves: the course has gone on to a search, or waits for an answer. -/
def RHalveP (R : RLay) (Z : Src) (vy : Value) (S : Mst) (w : World) (e : Ending) (w' : World) : Prop :=
  ∃ (ok : Bool) (S' : Mst) (kv' : Nat → Nat → Value) (vt' vl' : Value), e = .returned (.bool ok) ∧ RTurn R.base w w' ∧ RAt w' R Z kv' vt' vl' vy S' ∧
    if ok = true then GoT R.L (oR R.L Z) (3, S) (2, S') ∧ S'.flips = S.flips + 1 ∧ S'.pass = S.pass else GoT R.L (oR R.L Z) (3, S) (0, S') ∧ Fin (oR R.L Z) (0, S')
/-- An answer to the next question of a search. -/
theorem goT_half {L : Lay} {Z : Src} {S : Mst} {a : Bool} (h1 : S.odd.t ≠ S.odd.f + 1) (hno : toldHas S.told (firstH S.odd) = false) (hs : S.searching = true) (hnx : S.next = ⟨0, 0, 0⟩) (hop : S.opn = false) (ho : oR L Z { S with next := firstH S.odd } = some a) :
    GoT L (oR L Z) (3, S) (3, { S with told := S.told ++ [(firstH S.odd, a)] }) := by
  have e1 : stepS L 3 S = (0, { S with next := firstH S.odd, opn := true }) := by unfold stepS; rw [if_neg (by decide), if_neg (by decide), if_pos rfl, if_neg h1, if_neg (by rw [hno]; simp)]
  have g1 : GoT L (oR L Z) (3, S) (0, { S with next := firstH S.odd, opn := true }) := by
    have := GoT.step (L := L) (o := oR L Z) (c := 3) (S := S) (by decide)
    rw [e1] at this; exact this
  have ho' : oR L Z { S with next := firstH S.odd, opn := true } = some a := ho
  have g2 := GoT.tell (L := L) (o := oR L Z) (S := { S with next := firstH S.odd, opn := true }) rfl ho'
  have e2 : (advC (tellS { S with next := firstH S.odd, opn := true } a), advS0 (tellS { S with next := firstH S.odd, opn := true } a)) = ((3 : Nat), { S with told := S.told ++ [(firstH S.odd, a)] }) := by
    unfold advC advS0 tellS
    simp only [hs, if_true]
    cases S
    simp only at hnx hop
    subst hnx hop
    rfl
  rw [e2] at g2
  exact g1.trans g2
theorem goT_wait {L : Lay} {Z : Src} {S : Mst} (h1 : S.odd.t ≠ S.odd.f + 1) (hno : toldHas S.told (firstH S.odd) = false) (ho : oR L Z { S with next := firstH S.odd } = none) :
    GoT L (oR L Z) (3, S) (0, { S with next := firstH S.odd, opn := true }) ∧ Fin (oR L Z) (0, { S with next := firstH S.odd, opn := true }) := by
  have e1 : stepS L 3 S = (0, { S with next := firstH S.odd, opn := true }) := by unfold stepS; rw [if_neg (by decide), if_neg (by decide), if_pos rfl, if_neg h1, if_neg (by rw [hno]; simp)]
  refine ⟨?_, rfl, .inr ho⟩
  have := GoT.step (L := L) (o := oR L Z) (c := 3) (S := S) (by decide)
  rw [e1] at this; exact this
theorem goT_take {L : Lay} {Z : Src} {S : Mst} (h1 : S.odd.t ≠ S.odd.f + 1) (hyes : toldHas S.told (firstH S.odd) = true) : GoT L (oR L Z) (3, S) (3, halve2 L S) := by
  have e1 : stepS L 3 S = (3, halve2 L S) := by unfold stepS; rw [if_neg (by decide), if_neg (by decide), if_pos rfl, if_neg h1, if_pos hyes]
  have := GoT.step (L := L) (o := oR L Z) (c := 3) (S := S) (by decide)
  rw [e1] at this; exact this
theorem goT_one {L : Lay} {Z : Src} {S : Mst} (h1 : S.odd.t = S.odd.f + 1) : GoT L (oR L Z) (3, S) (2, halve1 L S) := by
  have e1 : stepS L 3 S = (2, halve1 L S) := by unfold stepS; rw [if_neg (by decide), if_neg (by decide), if_pos rfl, if_pos h1]
  have := GoT.step (L := L) (o := oR L Z) (c := 3) (S := S) (by decide)
  rw [e1] at this; exact this
/-- A store into the course's string. -/
theorem RAt.bit {w : World} {R : RLay} {Z : Src} {kv : Nat → Nat → Value} {vt vl vy : Value} {S : Mst} (h : RAt w R Z kv vt vl vy S) {g : Nat} (hg : R.Ab = some ⟨g, 0, none⟩) (i : Nat) (y : Bool) : RAt (w.setCell ⟨g, i, none⟩ (.bool y)) R Z kv vt vl vy { S with b := S.b.set i y } ∧ RTurn R.base w (w.setCell ⟨g, i, none⟩ (.bool y)) := by
  have hb := h.bits
  rw [hg] at hb
  obtain ⟨cs, hcur⟩ := row_block hb
  have hT : RTurn R.base w (w.setCell ⟨g, i, none⟩ (.bool y)) := .store hb (.inl rfl) (Nat.le_refl _) (.bool y)
  have ne : ∀ {k : Nat} {cs' : Array Value} {t : TypeId}, w.heap[k]? = some (.cells cs' t (0, 0)) → t ≠ 4 → k ≠ g := fun {k cs' t} hk ht e => by
    subst e
    have := hk.symm.trans hcur
    injection this with this
    injection this with _ e _
    exact ht e
  refine ⟨⟨(Below.heap_setCell _ _ _ _ (ne h.cells (by decide))).trans h.cells, ownsRow_setCell_other h.told (row_ne h.told hcur (by decide)) _, ?_, { h.known with
    out := fun p hp => ownsRow_setCell_other (h.known.out p hp) (row_ne (h.known.out p hp) hcur (by decide)) _
    row := fun p f hp hf => ownsRow_setCell_other (h.known.row p f hp hf) (row_ne (h.known.row p f hp hf) hcur (by decide)) _ }, h.pb, h.st.turn hT, h.src.turn hT.below⟩, hT⟩
  have h2 := (hb.stored i (.bool y)).1
  rw [← List.map_set] at h2
  rw [hg]; exact h2
theorem BoxAt.set2 {w : World} {H : Nat} {q : Qn} (h : BoxAt w H (some q)) (m : Nat) : BoxAt (w.setCell ⟨H, 1, none⟩ (.int .i64 m)) H (some ⟨q.p, m, q.t⟩) := by
  have h1 := blk_setR h (o := 1) (.int .i64 m)
  unfold BoxAt
  rw [h1]; rfl
/-- What an answer to the half of an odd question leaves. -/
theorem ans_half {R : RLay} {Z : Src} {kv : Nat → Nat → Value} {vt vl vy : Value} {X : Mst} {q : Qn} {w w' : World} {e : Ending} (hB : 1 ≤ R.B) (hn : R.n ≤ 512) (hinv : Inv R.L 3 X) (h1 : X.odd.t ≠ X.odd.f + 1) (hq : firstH X.odd = q) (h : AnsP R Z kv vt vl vy X q w e w') :
    ∃ b ok : Bool, e = .returned (.tuple #[.bool b, .bool ok]) ∧ RTurn R.base w w' ∧
      ((ok = true ∧ ∃ X1 kv1 vt1 vl1, RAt w' R Z kv1 vt1 vl1 vy X1 ∧ GoT R.L (oR R.L Z) (3, X) (3, X1) ∧ Inv R.L 3 X1 ∧ X1.odd = X.odd ∧ X1.ans = X.ans ∧ (X1.flips = X.flips ∧ X1.pass = X.pass) ∧ toldHas X1.told q = true ∧ b = toldAns X1.told q) ∨
       (ok = false ∧ ∃ X1, RAt w' R Z kv vt vl vy X1 ∧ GoT R.L (oR R.L Z) (3, X) (0, X1) ∧ Fin (oR R.L Z) (0, X1))) := by
  obtain ⟨b, ok, he, hT, hc⟩ := h
  refine ⟨b, ok, he, hT, ?_⟩
  obtain ⟨g1, g2, g3⟩ := hinv.go (by decide)
  have hsr := hinv.s3 rfl
  rcases hc with ⟨h2, h3, h4, h5⟩ | ⟨h2, h3, h4, h5⟩ | ⟨h2, h3, h4, kv', vt', vl', h5⟩
  · exact .inl ⟨h3, X, kv, vt, vl, h5, GoT.refl _ _ _, hinv, rfl, rfl, ⟨rfl, rfl⟩, h2, h4⟩
  · refine .inr ⟨h4, _, h5, ?_⟩
    rw [← hq] at h2 h3 ⊢
    exact goT_wait h1 h2 h3
  · refine .inl ⟨h4, _, kv', vt', vl', h5, ?_, ?_, rfl, rfl, ⟨rfl, rfl⟩, ?_, ?_⟩
    · rw [← hq] at h2 h3 ⊢
      exact goT_half h1 h2 hsr g2 g1 h3
    · have hg : GoT R.L (oR R.L Z) (3, X) (3, { X with told := X.told ++ [(q, b)] }) := by
        rw [← hq] at h2 h3 ⊢
        exact goT_half h1 h2 hsr g2 g1 h3
      exact hg.inv (I := fun z => Inv R.L z.1 z.2) (fun z hz => hz.stepO hB hn z) hinv
    · rw [toldHas_snoc]; simp
    · exact (toldAns_same h2).symm
/-- What holds in the loop of halve. -/
structure RhI (w0 w : World) (R : RLay) (Z : Src) (kv : Nat → Nat → Value) (vt vl vy : Value) (S0 S : Mst) : Prop where
  at_ : RAt w R Z kv vt vl vy S
  turn : RTurn R.base w0 w
  box : BoxAt w w0.heap.size (some S.odd)
  go : GoT R.L (oR R.L Z) (3, S0) (3, S)
  inv : Inv R.L 3 S
  fl : S.flips = S0.flips
  ps : S.pass = S0.pass
set_option maxRecDepth 100000 in
set_option maxHeartbeats 8000000 in
theorem rhalve_any (R : RLay) (Z : Src) (kv : Nat → Nat → Value) (vt vl vy : Value) (S : Mst) (w : World) (hm : RAt w R Z kv vt vl vy S) (hinv : Inv R.L 3 S) :
    Calls Try.prog 66 #[ptrR R, kq S.odd, .bool S.ans] w (RHalveP R Z vy S w) := by
  have hB1 := hm.st.hB.1
  have hn5 := hm.st.hn
  have hP6 := hm.st.hP
  obtain ⟨w1, hw1⟩ : ∃ w1, w1 = w.alloc (.cells #[.int .i64 S.odd.p, .int .i64 S.odd.f, .int .i64 S.odd.t] 44) := ⟨_, rfl⟩
  have Bw1 : Below w.heap.size w w1 := by rw [hw1]; exact (Below.refl _ _).alloc (Nat.le_refl _) _
  have hx1 : BoxAt w1 w.heap.size (some S.odd) := by unfold BoxAt; rw [hw1]; exact heap_alloc_new w _
  have HI0 : Hid (RhI w w1 R Z kv vt vl vy S S) := Lib.hid ⟨hm.below Bw1, .of Bw1 hm.bw, hx1, GoT.refl _ _ _, hinv, rfl, rfl⟩
  have HBW := Lib.hid hm.bw
  have HW := Lib.hid hw1
  clear hm hw1 Bw1 hx1 hinv
  go_enter Try.func66, Try.ntmps66
  go_wp2_with fail
  rw [← HW.out]
  clear HW
  go_loopg [2] 1000 (fun g v2 wr => ∃ (X : Mst) (kv : Nat → Nat → Value) (vt vl : Value), v2 = .bool X.ans ∧ X.odd.t - X.odd.f < g ∧ RhI w wr R Z kv vt vl vy S X)
  case atStart =>
    obtain ⟨_, ⟨h1, h2, h3⟩, h4⟩ := HI0.out.inv.odd (HI0.out.inv.s3 rfl)
    exact ⟨S, kv, vt, vl, rfl, by have : S.odd.t ≤ R.n := h3; omega, HI0.out⟩
  case round =>
    obtain ⟨X, kv, vt, vl, rfl, hg, hI⟩ := hrel
    obtain ⟨wa, rfl⟩ : ∃ z : World, z = wr := ⟨_, rfl⟩
    have HI := Lib.hid hI; have HG := Lib.hid hg
    have hsr := hI.inv.s3 rfl
    obtain ⟨hfl, ⟨hqp, hft, hqt⟩, hlt⟩ := hI.inv.odd hsr
    have hqp : X.odd.p < R.P := hqp
    have hqt : X.odd.t ≤ R.n := hqt
    have hfl : X.flips < R.n := hfl
    have x0 := hI.box.cell 0; have x1 := hI.box.cell 1; have x2 := hI.box.cell 2
    simp only [boxC] at x0 x1 x2
    simp at x0 x1 x2
    obtain ⟨d, hd⟩ : ∃ d, d = X.odd.t - X.odd.f := ⟨_, rfl⟩
    have hdi : (X.odd.t : Int) - (X.odd.f : Int) = (d : Int) := by omega
    have hd2 : (d : Int) ≤ 512 := by omega
    have hfm : (X.odd.f : Int) ≤ 512 := by omega
    have hlen : X.told.length < 1000000 := by have := hI.inv.len hP6.2 hn5; omega
    have HD := Lib.hid hd
    clear hI hg HI0 hsr
    by_cases hone : X.odd.t = X.odd.f + 1
    · have hd1 : ¬ (1 : Int) < (d : Int) := by omega
      have c3 : wa.cell? ⟨R.p, 3, none⟩ = some (.slice (some ⟨R.go, 0, none⟩) R.P R.co) := HI.out.at_.cell 3
      have c5 : wa.cell? ⟨R.p, 5, none⟩ = some (.slice R.Ab R.n R.cbt) := HI.out.at_.cell 5
      have c6 : wa.cell? ⟨R.p, 6, none⟩ = some (.int .i64 X.flips) := HI.out.at_.cell 6
      have f6 : wa.frozen? ⟨R.p, 6, none⟩ = false := HI.out.at_.frozen 6
      have hql : X.odd.p < R.os.length := by rw [HI.out.at_.st.ol]; exact hqp
      obtain ⟨A, c, hA⟩ : ∃ A c, R.os[X.odd.p]? = some (A, c) := ⟨_, _, List.getElem?_eq_getElem hql⟩
      have co : wa.cell? ⟨R.go, X.odd.p, none⟩ = some (.slice A R.n c) := by
        rw [HI.out.at_.st.ord.cellAt X.odd.p (by omega), List.getElem?_map, hA]; rfl
      obtain ⟨hnc, hro⟩ := HI.out.at_.st.ordr X.odd.p A c hA
      have hn0 : 0 < R.n := by omega
      obtain ⟨ga, oa, rfl, hga, hca⟩ := (Rd.own hro).2 hn0
      have hfn : X.odd.f < (orderL R.s R.n X.odd.p).length := by rw [orderL_len]; omega
      have hx := orderL_mem (List.getElem_mem hfn)
      have cx : wa.cell? ⟨ga, oa + X.odd.f, none⟩ = some (.int .i64 (orderL R.s R.n X.odd.p)[X.odd.f]) := hca _ _ (by simp [hfn])
      have HXX : Hid ((orderL R.s R.n X.odd.p).getD X.odd.f 0 = (orderL R.s R.n X.odd.p)[X.odd.f]) := Lib.hid (by simp [hfn])
      generalize (orderL R.s R.n X.odd.p)[X.odd.f] = x at hx cx HXX
      obtain ⟨i, rfl⟩ := Int.eq_ofNat_of_zero_le hx.1
      have hin : i < R.n := by omega
      obtain ⟨g, cpg, hg⟩ := own_head HI.out.at_.bits hn0
      injection hg with hg _ _
      have hbl : X.b.length = R.n := by have := HI.out.at_.bits.1; simpa using this
      have hib : i < X.b.length := by omega
      have hbo := HI.out.at_.bits
      rw [hg] at hbo c5
      have cb : wa.cell? ⟨g, i, none⟩ = some (.bool X.b[i]) := by rw [hbo.cellAt i (by omega)]; simp [hib]
      have fb : wa.frozen? ⟨g, i, none⟩ = false := hbo.frozenAt i
      have HY : Hid (X.b.getD i false = X.b[i]) := Lib.hid (by simp [hib])
      generalize X.b[i] = y at cb HY
      have hfn' : (X.odd.f : Int) < (R.n : Int) := by omega
      have hin' : (i : Int) < (R.n : Int) := by omega
      have hqp' : (X.odd.p : Int) < (R.P : Int) := by omega
      have hfl' : (X.flips : Int) ≤ 1000000 := by omega
      obtain ⟨csg, hcg⟩ := row_block hbo
      have hgp : g ≠ R.p := fun e => by
        rw [e] at hcg
        have := hcg.symm.trans HI.out.at_.cells
        injection this with this
        injection this with _ e _
        exact absurd e (by decide)
      have hgp2 : R.p ≠ g := fun e => hgp e.symm
      have HGG := Lib.hid hg
      have HONE := Lib.hid hone
      clear hd hro hca hA hql hfn hx hbo hg hib hbl hone hcg
      go_wp2_with fail
      go_quiet (fail)
      rename_i nq1
      go_wp2_with fail
      refine wp_region_quiet_tail 14 (by kernel_rfl) (by kernel_rfl) ?_
      simp only [List.take_succ_cons, List.take_zero, List.drop_succ_cons, List.drop_zero]
      repeat (quiet_step (fail))
      refine wpQuiet_nil ?_
      intro _ hw'
      obtain ⟨nr, hw''⟩ := hw'
      subst hw''
      go_wp2_with fail
      go_ret
      have hE : halve1 R.L X = { X with b := X.b.set i (!y), flips := X.flips + 1, searching := false } := by
        unfold halve1 flipL
        rw [show (orderL R.L.s R.L.n X.odd.p) = orderL R.s R.n X.odd.p from rfl, HXX.out, Int.toNat_natCast, HY.out]
      have hgo := HI.out.go.trans (goT_one (L := R.L) (Z := Z) HONE.out)
      rw [hE] at hgo
      obtain ⟨m1, t1⟩ := (HI.out.at_.q (⟨_, rfl⟩ : Qw wa (wa.drewN _))).bit HGG.out i (!y)
      have m2 := m1.set 6 (.int .i64 ((X.flips : Int) + 1)) { X with b := X.b.set i (!y), flips := X.flips + 1 } rfl rfl rfl m1.src
      have t2 := RTurn.set m1.cells m1.pb (o := 6) (.int .i64 ((X.flips : Int) + 1))
      exact ⟨true, { X with b := X.b.set i (!y), flips := X.flips + 1, searching := false }, kv, vt, vl, rfl, (HI.out.turn.trans (.of (Qw.below ⟨_, rfl⟩ _) HI.out.at_.bw)).trans (t1.trans t2), ⟨m2.cells, m2.told, m2.bits, m2.known, m2.pb, m2.st, m2.src⟩, by rw [if_pos rfl]; exact ⟨hgo, by show X.flips + 1 = _; rw [HI.out.fl], HI.out.ps⟩⟩
    · have hd1 : (1 : Int) < (d : Int) := by omega
      obtain ⟨m, hmm⟩ : ∃ m, m = X.odd.f + (X.odd.t - X.odd.f) / 2 := ⟨_, rfl⟩
      have hmi : (X.odd.f : Int) + (d : Int) / 2 = (m : Int) := by omega
      have hfm1 : X.odd.f < m := by omega
      have hmt : m < X.odd.t := by omega
      have HFH : Hid (firstH X.odd = ⟨X.odd.p, X.odd.f, m⟩) := Lib.hid (by rw [hmm]; rfl)
      have HQK : Hid (QOk R.L ⟨X.odd.p, X.odd.f, m⟩) := Lib.hid ⟨⟨by show X.odd.p < R.P; exact hqp, by simp only; omega, by show m ≤ R.n; omega⟩, hfm1⟩
      have HONE := Lib.hid hone
      have HMM := Lib.hid hmm
      clear hmm hone hd
      have hal := (Below.refl wa.heap.size wa).alloc (Nat.le_refl _) (.cells #[.int .i64 X.odd.p, .int .i64 X.odd.f, .int .i64 m] 44)
      have hbx8 : BoxAt (wa.alloc (.cells #[.int .i64 X.odd.p, .int .i64 X.odd.f, .int .i64 m] 44)) wa.heap.size (some ⟨X.odd.p, X.odd.f, m⟩) := heap_alloc_new wa _
      have HAL := Lib.hid hal; have HBX8 := Lib.hid hbx8
      clear hal hbx8
      go_wp2_with fail
      obtain ⟨w2, hw2⟩ : ∃ z, z = wa.alloc (.cells #[.int .i64 X.odd.p, .int .i64 X.odd.f, .int .i64 m] 44) := ⟨_, rfl⟩
      rw [← hw2] at HAL HBX8 ⊢
      clear hw2 x0 x1 x2
      have HM2 := Lib.hid (HI.out.at_.below HAL.out)
      have HT2 := Lib.hid (HI.out.turn.trans (.of HAL.out HI.out.at_.bw))
      have HX2 := Lib.hid (HI.out.box.below HAL.out)
      refine (ans_any R Z kv vt vl vy X ⟨X.odd.p, X.odd.f, m⟩ _ HM2.out HQK.out hlen).mono ?_
      intro e w5 hpost
      obtain ⟨ba, ok, rfl, hT5, hcase⟩ := ans_half hB1 hn5 HI.out.inv HONE.out HFH.out hpost
      have HT5 := Lib.hid (HT2.out.trans hT5)
      have HX5 := Lib.hid (HX2.out.rt hT5); have HX8 := Lib.hid (HBX8.out.rt hT5)
      clear hpost hT5 HM2 HT2 HX2 HBX8
      rcases hcase with ⟨rfl, X1, kv1, vt1, vl1, hm5, hgo, hi1, ho1, ha1, ⟨hf1, hp1⟩, hth, hba⟩ | ⟨rfl, X1, hm5, hgo, hfin⟩
      · have HFP : Hid (X1.flips = S.flips ∧ X1.pass = S.pass) := Lib.hid ⟨hf1.trans HI.out.fl, hp1.trans HI.out.ps⟩
        clear hf1 hp1
        have HM5 := Lib.hid hm5; have HGO := Lib.hid (HI.out.go.trans hgo); have HI1 := Lib.hid hi1; have HO1 := Lib.hid ho1; have HA1 := Lib.hid ha1; have HTH := Lib.hid hth; have HBA := Lib.hid hba
        have y0 := HX8.out.cell 0; have y1 := HX8.out.cell 1; have y2 := HX8.out.cell 2
        simp only [boxC] at y0 y1 y2
        simp at y0 y1 y2
        clear hm5 hgo hi1 ho1 ha1 hth hba
        go_wp2_with fail
        refine (rodd_any R Z kv1 vt1 vl1 vy X1 ⟨X.odd.p, X.odd.f, m⟩ ba _ HM5.out HQK.out.1).mono ?_
        rintro e w6 ⟨rfl, hb6⟩
        have HM6 := Lib.hid (HM5.out.below hb6); have HT6 := Lib.hid (HT5.out.trans (.of hb6 HM5.out.bw))
        have HX6 := Lib.hid (HX5.out.below hb6); have HX86 := Lib.hid (HX8.out.below hb6)
        have hF1 : Hid (firstH X1.odd = ⟨X.odd.p, X.odd.f, m⟩) := Lib.hid (by rw [HO1.out]; exact HFH.out)
        have hH2 : halve2 R.L X1 = if oddB R.L X1.b ⟨X.odd.p, X.odd.f, m⟩ ba then { X1 with odd := ⟨X.odd.p, X.odd.f, m⟩, ans := ba } else { X1 with odd := ⟨X.odd.p, m, X.odd.t⟩, ans := X1.ans != ba } := by
          unfold halve2
          rw [hF1.out, ← HBA.out, HO1.out, ← HMM.out]
        have hgo2 := HGO.out.trans (goT_take (L := R.L) (Z := Z) (S := X1) (by rw [HO1.out]; exact HONE.out) (by rw [hF1.out]; exact HTH.out))
        have hin2 : Inv R.L 3 (halve2 R.L X1) := (goT_take (L := R.L) (Z := Z) (S := X1) (by rw [HO1.out]; exact HONE.out) (by rw [hF1.out]; exact HTH.out)).inv (I := fun z => Inv R.L z.1 z.2) (fun z hz => hz.stepO hB1 hn5 z) HI1.out
        have z0 := HX86.out.cell 0; have z1 := HX86.out.cell 1; have z2 := HX86.out.cell 2
        simp only [boxC] at z0 z1 z2
        simp at z0 z1 z2
        have u0 := HX6.out.cell 0; have u1 := HX6.out.cell 1; have u2 := HX6.out.cell 2
        simp only [boxC] at u0 u1 u2
        simp at u0 u1 u2
        have fz : ∀ k, w6.frozen? ⟨w.heap.size, k, none⟩ = false := fun k => by have := HX6.out; unfold BoxAt at this; simp [World.frozen?, this]
        have hne8 : wa.heap.size ≠ w.heap.size := by have := HI.out.box.lt; omega
        have hne9 : w.heap.size ≠ wa.heap.size := fun e => hne8 e.symm
        have hbr : R.base ≤ w.heap.size := HBW.out
        clear hb6 y0 y1 y2 HM5 HT5 HX5 HX8
        cases hod : oddB R.L X1.b ⟨X.odd.p, X.odd.f, m⟩ ba
        · rw [hod, if_neg (by simp)] at hH2
          rw [hH2] at hgo2 hin2
          have HGO2 := Lib.hid hgo2; have HIN2 := Lib.hid hin2
          have hA : Hid (X1.ans = X.ans) := HA1
          have HM7 := Lib.hid (HM6.out.setQ (o := 1) HX6.out hbr (.int .i64 m))
          have HT7 := Lib.hid (HT6.out.setNew (o := 1) hbr (Nat.le_refl _) (.int .i64 m))
          have HX7 := Lib.hid (HX6.out.set2 m)
          clear hH2 hgo2 hin2 hod hbr
          go_wp2_with fail
          go_roundg (X.odd.t - X.odd.f)
          case measure => exact HG.out
          case rel => exact ⟨{ X1 with odd := ⟨X.odd.p, m, X.odd.t⟩, ans := X1.ans != ba }, kv1, vt1, vl1, by show _ = Value.bool (X1.ans != ba); rw [hA.out]; first | rfl | (cases X.ans <;> cases ba <;> rfl), by simp only; omega, ⟨HM7.out.cells, HM7.out.told, HM7.out.bits, HM7.out.known, HM7.out.pb, HM7.out.st, HM7.out.src⟩, HT7.out, HX7.out, HGO2.out, HIN2.out, HFP.out.1, HFP.out.2⟩
        · rw [hod, if_pos rfl] at hH2
          rw [hH2] at hgo2 hin2
          have HGO2 := Lib.hid hgo2; have HIN2 := Lib.hid hin2
          have HM7 := Lib.hid (((HM6.out.setQ (o := 0) HX6.out hbr (.int .i64 X.odd.p)).setQ (o := 1) (blk_setR HX6.out _) hbr (.int .i64 X.odd.f)).setQ (o := 2) (blk_setR (blk_setR HX6.out _) _) hbr (.int .i64 m))
          have HT7 := Lib.hid (((HT6.out.setNew (o := 0) hbr (Nat.le_refl _) (.int .i64 X.odd.p)).setNew (o := 1) hbr (Nat.le_refl _) (.int .i64 X.odd.f)).setNew (o := 2) hbr (Nat.le_refl _) (.int .i64 m))
          have HX7 := Lib.hid (HX6.out.put ⟨X.odd.p, X.odd.f, m⟩)
          clear hH2 hgo2 hin2 hod hbr
          go_wp2_with fail
          go_roundg (X.odd.t - X.odd.f)
          case measure => exact HG.out
          case rel => exact ⟨{ X1 with odd := ⟨X.odd.p, X.odd.f, m⟩, ans := ba }, kv1, vt1, vl1, rfl, by simp only; omega, ⟨HM7.out.cells, HM7.out.told, HM7.out.bits, HM7.out.known, HM7.out.pb, HM7.out.st, HM7.out.src⟩, HT7.out, HX7.out, HGO2.out, HIN2.out, HFP.out.1, HFP.out.2⟩
      · have HM5 := Lib.hid hm5; have HGO := Lib.hid (HI.out.go.trans hgo); have HFIN := Lib.hid hfin
        clear hm5 hgo hfin
        go_wp2_with fail
        go_ret
        exact ⟨false, X1, kv, vt, vl, rfl, HT5.out, HM5.out, by rw [if_neg (by simp)]; exact ⟨HGO.out, HFIN.out⟩⟩
end Go.Proofs.Ytoofnkkbebjldaa
/- The document's course while it is being laid. Conditions: as each statement says. -/
namespace Go.Proofs.Ytoofnkkbebjldaa
open Go.RowKit
set_option linter.unusedVariables false
theorem info_anss : (Try.prog.info? 27).map (fun i => (i.zero, i.size, i.bytes)) = some (some (.slice none 0 0), 1, 24) := by kernel_rfl
theorem info_ansss : (Try.prog.info? 105).map (fun i => (i.zero, i.size, i.bytes)) = some (some (.slice none 0 0), 1, 24) := by kernel_rfl
theorem elB_ansss : ElemB Try.prog 72 105 1 24 := ElemB.of Try.underlying72 info_ansss rfl (by decide)
theorem make_anss (w : World) (c : Nat) (hc : c ≤ 1000000) : (Instr.makeSlice 105 (.int .i64 c) (.int .i64 c)).run Try.prog w = .ok (.slice (some ⟨w.heap.size, 0, none⟩) c c) (w.alloc (.cells (Array.replicate c (.slice none 0 0)) 27)) := by
  obtain ⟨i, hi, hz, hs, hb⟩ := info_parts info_anss
  have h := run_make (P := Try.prog) w _ _ i _ Try.underlying105 hi hz .i64 .i64 c c (by omega) (by omega) (by rw [hb]; omega) (by omega)
  rw [hs] at h
  simpa [madeCells_one, Value.cells] using h
theorem keepC {w9 w8 : World} {B B' t te sz sz' n n' p o : Nat} {v vo u : Value} {xs ys : List Value} {cs : Array Value} (h : w9.ownsRow B t sz v n xs) (ho : w9.ownsRow B' te sz' vo n' ys) (hg : w9.grownBy w8 vo.ownBlock) (hp : w8.heap[p]? = some (.cells cs 74 (0, 0))) (h1 : t ≠ te) (h2 : t ≠ 74) :
    (w8.setCell ⟨p, o, none⟩ u).ownsRow B t sz v n xs := by
  have h8 := row_other h ho h1 hg
  exact ownsRow_setCell_other h8 (row_ne h8 hp h2) u
/-- A course that is being made: k passes have their orders, j their lists. -/
structure RNw (w : World) (base p n P B s k j : Nat) (Ab : Option Addr) (cbt : Nat) (b : List Bool) (vo vk : Value) (os : List (Option Addr × Nat)) (kb : Nat → Nat) (vl vy : Value) : Prop where
  cells : w.heap[p]? = some (.cells #[.int .i64 P, .int .i64 B, .int .u64 s, vo, vk, .slice Ab n cbt, .int .i64 0, .slice none 0 0, vl, vy, .int .i64 0, .int .i64 0, .int .i64 0, .bool false, .bool false] 74 (0, 0))
  bits : w.ownsRow base 4 1 (.slice Ab n cbt) n (b.map Value.bool)
  pb : base ≤ p
  nc : n ≤ cbt
  ol : os.length = k
  ord : w.ownsRow base 53 1 vo k (os.map fun a => .slice a.1 n a.2)
  ordr : ∀ i A c, os[i]? = some (A, c) → n ≤ c ∧ w.ownsRow base 3 1 (.slice A n c) n ((orderL s n i).map (Value.int .i64))
  kno : w.ownsRow base 105 1 vk j ((List.range j).map fun p => .slice (some ⟨kb p, 0, none⟩) n n)
  knr : ∀ i, i < j → w.ownsRow base 27 1 (.slice (some ⟨kb i, 0, none⟩) n n) n (List.replicate n (.slice none 0 0))
  inj : ∀ i i', i < j → i' < j → i ≠ i' → kb i ≠ kb i'
theorem RNw.lt {w : World} {base p n P B s k j : Nat} {Ab : Option Addr} {cbt : Nat} {b : List Bool} {vo vk vl vy : Value} {os : List (Option Addr × Nat)} {kb : Nat → Nat} (h : RNw w base p n P B s k j Ab cbt b vo vk os kb vl vy) : p < w.heap.size := (Array.getElem?_eq_some_iff.1 h.cells).1
theorem RNw.below {w w' : World} {base p n P B s k j : Nat} {Ab : Option Addr} {cbt : Nat} {b : List Bool} {vo vk vl vy : Value} {os : List (Option Addr × Nat)} {kb : Nat → Nat} (h : RNw w base p n P B s k j Ab cbt b vo vk os kb vl vy) (hb : Below w.heap.size w w') : RNw w' base p n P B s k j Ab cbt b vo vk os kb vl vy :=
  { h with
    cells := (hb.block _ h.lt).trans h.cells
    bits := ownsRow_below h.bits hb (Nat.le_refl _)
    ord := ownsRow_below h.ord hb (Nat.le_refl _)
    ordr := fun i A c hi => ⟨(h.ordr i A c hi).1, ownsRow_below (h.ordr i A c hi).2 hb (Nat.le_refl _)⟩
    kno := ownsRow_below h.kno hb (Nat.le_refl _)
    knr := fun i hi => ownsRow_below (h.knr i hi) hb (Nat.le_refl _) }
theorem RNw.pushO {w9 w8 : World} {base p n P B s k j c B9 : Nat} {A Ab : Option Addr} {cbt : Nat} {b : List Bool} {vo vk v8 vl vy : Value} {os : List (Option Addr × Nat)} {kb : Nat → Nat} (h : RNw w9 base p n P B s k j Ab cbt b vo vk os kb vl vy) (hc : n ≤ c) (hB9 : base ≤ B9)
    (ho : w9.ownsRow B9 3 1 (.slice A n c) n ((orderL s n k).map (Value.int .i64)))
    (hown : w8.ownsRow base 53 1 v8 (k + 1) ((os.map fun a => Value.slice a.1 n a.2) ++ [.slice A n c])) (hg : w9.grownBy w8 vo.ownBlock) : RNw (w8.setCell ⟨p, 3, none⟩ v8) base p n P B s (k + 1) j Ab cbt b v8 vk (os ++ [(A, c)]) kb vl vy := by
  have hp8 := (hg.block p h.lt (fun e => row_ne h.ord h.cells (by decide) e.symm)).trans h.cells
  refine ⟨?_, keepC h.bits h.ord hg hp8 (by decide) (by decide), h.pb, h.nc, by simp [h.ol], ?_, ?_, keepC h.kno h.ord hg hp8 (by decide) (by decide), fun i hi => keepC (h.knr i hi) h.ord hg hp8 (by decide) (by decide), h.inj⟩
  · have := blk_setR hp8 (o := 3) v8
    rw [this]; rfl
  · rw [List.map_append]
    exact ownsRow_setCell_other hown (row_ne hown hp8 (by decide)) v8
  · intro i A' c' hi
    by_cases hik : i < os.length
    · rw [List.getElem?_append_left hik] at hi
      exact ⟨(h.ordr i A' c' hi).1, keepC (h.ordr i A' c' hi).2 h.ord hg hp8 (by decide) (by decide)⟩
    · rw [List.getElem?_append_right (by omega)] at hi
      obtain ⟨hl, hv⟩ := List.getElem?_eq_some_iff.1 hi
      simp only [List.length_singleton] at hl
      have hie : i = k := by have := h.ol; omega
      subst hie
      have h0 : i - os.length = 0 := by omega
      simp only [h0, List.getElem_singleton, Prod.mk.injEq] at hv
      obtain ⟨rfl, rfl⟩ := hv
      exact ⟨hc, keepC (ownsRow_mono ho hB9) h.ord hg hp8 (by decide) (by decide)⟩
theorem RNw.pushK {wm w8 : World} {base p n P B s k j : Nat} {Ab : Option Addr} {cbt : Nat} {b : List Bool} {vo vk v8 vl vy : Value} {os : List (Option Addr × Nat)} {kb : Nat → Nat} (h : RNw wm base p n P B s k j Ab cbt b vo vk os kb vl vy) (hn : n ≤ 512)
    (hown : w8.ownsRow base 105 1 v8 (j + 1) (((List.range j).map fun p => Value.slice (some ⟨kb p, 0, none⟩) n n) ++ [.slice (some ⟨wm.heap.size, 0, none⟩) n n])) (hg : (wm.alloc (.cells (Array.replicate n (.slice none 0 0)) 27)).grownBy w8 vk.ownBlock) :
    RNw (w8.setCell ⟨p, 4, none⟩ v8) base p n P B s k (j + 1) Ab cbt b vo v8 os (fun i => if i = j then wm.heap.size else kb i) vl vy := by
  have h9 := h.below ((Below.refl wm.heap.size wm).alloc (Nat.le_refl _) (.cells (Array.replicate n (.slice none 0 0)) 27))
  have hp8 := (hg.block p h9.lt (fun e => row_ne h9.kno h9.cells (by decide) e.symm)).trans h9.cells
  have hkl : ∀ i, i < j → kb i < wm.heap.size := fun i hi => ((h.knr i hi).lt (kb i) rfl).2
  have hnew := own_new wm (Array.replicate n (.slice none 0 0)) 27 n (by simp) (by omega)
  refine ⟨?_, keepC h9.bits h9.kno hg hp8 (by decide) (by decide), h.pb, h.nc, h.ol, keepC h9.ord h9.kno hg hp8 (by decide) (by decide), fun i A c hi => ⟨(h.ordr i A c hi).1, keepC (h9.ordr i A c hi).2 h9.kno hg hp8 (by decide) (by decide)⟩, ?_, fun i hi => ?_, fun i i' h1 h2 hne => ?_⟩
  · have := blk_setR hp8 (o := 4) v8
    rw [this]; rfl
  · have e : ((List.range (j + 1)).map fun p => Value.slice (some ⟨if p = j then wm.heap.size else kb p, 0, none⟩) n n) = ((List.range j).map fun p => Value.slice (some ⟨kb p, 0, none⟩) n n) ++ [.slice (some ⟨wm.heap.size, 0, none⟩) n n] := by
      rw [List.range_succ, List.map_append]
      congr 1
      · apply List.map_congr_left
        intro i hi
        rw [List.mem_range] at hi
        rw [if_neg (by omega)]
      · simp
    rw [e]
    exact ownsRow_setCell_other hown (row_ne hown hp8 (by decide)) v8
  · by_cases e : i = j
    · rw [if_pos e]
      have := ownsRow_mono hnew (Nat.le_trans h.pb (Nat.le_of_lt h.lt))
      rw [Array.toList_replicate] at this
      exact keepC this h9.kno hg hp8 (by decide) (by decide)
    · rw [if_neg e]
      exact keepC (h9.knr i (by omega)) h9.kno hg hp8 (by decide) (by decide)
  · by_cases e1 : i = j
    · rw [if_pos e1, if_neg (by omega)]
      have := hkl i' (by omega); omega
    · rw [if_neg e1]
      by_cases e2 : i' = j
      · rw [if_pos e2]; have := hkl i (by omega); omega
      · rw [if_neg e2]; exact h.inj i i' (by omega) (by omega) hne
theorem RNw.done {w : World} {base p n P B s : Nat} {Ab : Option Addr} {cbt : Nat} {b : List Bool} {vo vk vl vy : Value} {os : List (Option Addr × Nat)} {kb : Nat → Nat} {Z : Src} (h : RNw w base p n P B s P P Ab cbt b vo vk os kb vl vy) (hP : 1 ≤ P) (hP6 : P ≤ 6) (hB : 1 ≤ B) (hB5 : B ≤ 512) (hs : s < two64) (hn : n ≤ 512)
    (hsrc : ∀ R : RLay, R.base = base → R.n = n → RSrc w R Z vl vy 0) :
    ∃ R : RLay, R.base = base ∧ R.p = p ∧ R.n = n ∧ R.P = P ∧ R.B = B ∧ R.s = s ∧ RAt w R Z (fun _ _ => .slice none 0 0) (.slice none 0 0) vl vy (st0 b) := by
  obtain ⟨go, co, hvo⟩ := own_head h.ord (by omega)
  obtain ⟨gk, ck, hvk⟩ := own_head h.kno (by omega)
  subst hvo hvk
  obtain ⟨_, _, e1, hc1⟩ := own_form h.ord
  obtain ⟨_, _, e2, hc2⟩ := own_form h.kno
  injection e1 with _ _ e1
  injection e2 with _ _ e2
  subst e1 e2
  refine ⟨⟨base, p, n, P, B, s, go, co, gk, ck, Ab, cbt, os, kb⟩, rfl, rfl, rfl, rfl, rfl, rfl, ?_⟩
  refine ⟨h.cells, World.ownsRow_nil _ _ _ _, h.bits, ?_, h.pb, ⟨⟨hP, hP6⟩, ⟨hB, hB5⟩, hn, hs, ⟨hc1, hc2, h.nc⟩, h.ol, h.ord, h.ordr, h.kno⟩, hsrc _ rfl rfl⟩
  refine ⟨fun i hi => ?_, fun p f hp hf => World.ownsRow_nil _ _ _ _, fun p f p' f' _ _ _ _ _ => Apart.none _, fun p f _ _ => Apart.none _, h.inj⟩
  have := h.knr i hi
  have e : (List.range n).map (fun _ : Nat => Value.slice none 0 0) = List.replicate n (.slice none 0 0) := by
    apply List.ext_getElem (by simp)
    intro i h1 h2
    simp
  show w.ownsRow base _ 1 (.slice (some ⟨kb i, 0, none⟩) n n) n ((List.range n).map fun _ : Nat => Value.slice none 0 0)
  rw [e]; exact this
end Go.Proofs.Ytoofnkkbebjldaa
