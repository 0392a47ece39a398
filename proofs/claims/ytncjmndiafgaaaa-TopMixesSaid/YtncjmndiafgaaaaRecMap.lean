/- A map from questions to answers in memory. Conditions: as each statement says. -/
import Derived.Test.YtncjmndiafgaaaaRec1
import Derived.DeepKeys4
import Derived.Maps.OwnSet
import Derived.BigQuiet
import Derived.Test.YtncjmndiafgaaaaDrawMath
import Derived.BigRegion
namespace Go.Proofs.Ytncjmndiafgaaaa
open Go.RowKit
open Go.Maps (Keyed)
set_option linter.unusedVariables false
theorem rec_laidOut : laidOutB Try.prog = true := by kernel_rfl
theorem q_keyed : Keyed Try.prog 90 := Keyed.of_law (deep_law_laid (m := 5) rec_laidOut (by decide) (of_decide_eq_true (by kernel_rfl)) (by kernel_rfl) (by kernel_rfl))
abbrev kq (q : Qn) : Value := .agg #[.int .i64 q.p, .int .i64 q.f, .int .i64 q.t]
def Qn.ok (q : Qn) : Prop := q.p ≤ 1000000 ∧ q.f ≤ 1000000 ∧ q.t ≤ 1000000
theorem keyOf_q (q : Qn) (h : q.ok) : ∃ kl, keyOf Try.prog 90 (kq q) = some kl := by
  obtain ⟨p, f, t⟩ := q
  obtain ⟨h1, h2, h3⟩ := h
  dsimp only at h1 h2 h3
  have w1 : (Lit.int .i64 (p : Int)).wf = true := WalkArith.wf_i64 (by omega)
  have w2 : (Lit.int .i64 (f : Int)).wf = true := WalkArith.wf_i64 (by omega)
  have w3 : (Lit.int .i64 (t : Int)).wf = true := WalkArith.wf_i64 (by omega)
  have kt : Try.prog.keyType 90 = true := by kernel_rfl
  have c1 : Try.prog.cellsOf 90 = 3 := by kernel_rfl
  have c2 : Try.prog.cellsOf 3 = 1 := by kernel_rfl
  have hsz : 0 < Try.prog.types.size := of_decide_eq_true (by kernel_rfl)
  obtain ⟨d, hd⟩ : ∃ d, Try.prog.types.size + 1 = d + 1 + 1 := ⟨Try.prog.types.size - 1, by omega⟩
  have hf : (kq ⟨p, f, t⟩).formed Try.prog 90 = true := by simp [Value.formed, Try.underlying90, c1]
  unfold keyOf
  rw [Try.underlying90, hd]
  simp only [kt, hf, Bool.and_self, if_true]
  have h0 : Try.prog.keyLits (d + 1 + 1) 90 (kq ⟨p, f, t⟩).cells.toList = some [.int .i64 p, .int .i64 f, .int .i64 t] := by
    simp [Program.keyLits, Try.underlying90, Try.underlying3, Value.cells, c1, c2, w1, w2, w3]
  rw [h0]
  exact ⟨_, rfl⟩
theorem kq_inj {q q' : Qn} (h : kq q = kq q') : q = q' := by
  obtain ⟨p, f, t⟩ := q
  obtain ⟨p', f', t'⟩ := q'
  simp only [kq, Value.agg.injEq, Array.mk.injEq, List.cons.injEq, Value.int.injEq, and_true, true_and] at h
  obtain ⟨h1, h2, h3⟩ := h
  rw [show p = p' by omega, show f = f' by omega, show t = t' by omega]
/-- What was told: is the question there, and its answer. -/
def toldHas (l : List (Qn × Bool)) (q : Qn) : Bool := l.any fun a => decide (a.1 = q)
def toldAns (l : List (Qn × Bool)) (q : Qn) : Bool := ((l.find? fun a => decide (a.1 = q)).map (·.2)).getD false
theorem toldHas_snoc (l : List (Qn × Bool)) (q x : Qn) (a : Bool) : toldHas (l ++ [(q, a)]) x = (toldHas l x || decide (q = x)) := by simp [toldHas]
theorem toldAns_other {l : List (Qn × Bool)} {q x : Qn} {a : Bool} (h : q ≠ x) : toldAns (l ++ [(q, a)]) x = toldAns l x := by simp [toldAns, List.find?_append, h]
theorem toldAns_same {l : List (Qn × Bool)} {q : Qn} {a : Bool} (h : toldHas l q = false) : toldAns (l ++ [(q, a)]) q = a := by
  have : l.find? (fun a => decide (a.1 = q)) = none := by
    rw [List.find?_eq_none]
    intro x hx
    have := (List.any_eq_false.1 h) x hx
    simpa using this
  simp [toldAns, List.find?_append, this]
/-- Block km is a map that holds what was told. -/
def KnAt (w : World) (km : Nat) (l : List (Qn × Bool)) : Prop :=
  ∃ (n : Nat) (D : DataW Unit), n ≤ l.length ∧ w.ownsMap Try.prog 90 (plainElem Try.prog 4) km n D ∧ Maps.IsMap D ∧
    ∀ q : Qn, q.ok → ∀ kl, keyOf Try.prog 90 (kq q) = some kl → Maps.has D kl = toldHas l q ∧ D.atKey kl (.lit (.bool false)) = .lit (.bool (toldAns l q))
theorem zero_bool (w : World) : (zeroValue 4).run Try.prog w = .ok (.bool false) w := by kernel_rfl
theorem KnAt.made (w : World) : KnAt (w.alloc (.map #[] 0)) w.heap.size [] :=
  ⟨0, .map [], Nat.le_refl _, World.ownsMap_made w _ _ _, ⟨[], rfl⟩, fun q hq kl hk => ⟨rfl, rfl⟩⟩
theorem KnAt.keep {w w' : World} {km : Nat} {l : List (Qn × Bool)} (h : KnAt w km l) (hk : w'.heap[km]? = w.heap[km]?) : KnAt w' km l := by
  obtain ⟨n, D, hn, ⟨es, clock, hb, r⟩, hm, hq⟩ := h
  exact ⟨n, D, hn, ⟨es, clock, hk.trans hb, r⟩, hm, hq⟩
theorem KnAt.lt {w : World} {km : Nat} {l : List (Qn × Bool)} (h : KnAt w km l) : km < w.heap.size := by
  obtain ⟨n, D, _, h, _⟩ := h; exact h.lt
theorem plainElem_bool_inv {P : Program} {e : TypeId} (he : P.underlying e = some .bool) {v : Value} {x : Bool} {ps : List MemPlace} (h : plainElem (H := Unit) P e v = some (.lit (.bool x), ps)) : v = .bool x := by
  unfold plainElem at h
  rw [he] at h
  cases v <;> simp at h
  rw [h.1]
theorem KnAt.look {w : World} {km : Nat} {l : List (Qn × Bool)} (h : KnAt w km l) {q : Qn} (hq : q.ok) : (Instr.lookup 88 (.map (some km)) (kq q) false).run Try.prog w = .ok (.bool (toldAns l q)) w := by
  obtain ⟨n, D, hn, ho, hm, hD⟩ := h
  obtain ⟨kl, hkl⟩ := keyOf_q q hq
  obtain ⟨v, ps, hrun, hv⟩ := ho.lookup q_keyed Try.underlying88 (zero_bool w) (plainElem_bool Try.underlying4 false) hkl
  rw [(hD q hq kl hkl).2] at hv
  rw [hrun, plainElem_bool_inv Try.underlying4 hv]
theorem KnAt.look_ok {w : World} {km : Nat} {l : List (Qn × Bool)} (h : KnAt w km l) {q : Qn} (hq : q.ok) : (Instr.lookup 88 (.map (some km)) (kq q) true).run Try.prog w = .ok (.tuple #[.bool (toldAns l q), .bool (toldHas l q)]) w := by
  obtain ⟨n, D, hn, ho, hm, hD⟩ := h
  obtain ⟨kl, hkl⟩ := keyOf_q q hq
  obtain ⟨v, ps, hrun, hv⟩ := ho.look_ok q_keyed Try.underlying88 (zero_bool w) (plainElem_bool Try.underlying4 false) hkl
  rw [(hD q hq kl hkl).2] at hv
  rw [(hD q hq kl hkl).1, plainElem_bool_inv Try.underlying4 hv] at hrun
  exact hrun
theorem KnAt.store {w : World} {km : Nat} {l : List (Qn × Bool)} (h : KnAt w km l) {q : Qn} (hq : q.ok) (hnew : toldHas l q = false) (a : Bool) (hl : l.length < 1000000000) :
    ∃ w', (Instr.mapUpdate 88 (.map (some km)) (kq q) (.bool a)).run Try.prog w = .ok () w' ∧ KnAt w' km (l ++ [(q, a)]) ∧ w.grownBy w' (some km) := by
  obtain ⟨n, D, hn, ho, hm, hD⟩ := h
  obtain ⟨kl, hkl⟩ := keyOf_q q hq
  obtain ⟨w', hrun, ho', hg⟩ := ho.update q_keyed Try.underlying88 (by unfold maxLen; omega) hkl (plainElem_bool Try.underlying4 a)
  refine ⟨w', hrun, ⟨n + 1, _, by simp; omega, ho', hm.put _ _, fun x hx kx hkx => ?_⟩, hg⟩
  obtain ⟨h1, h2⟩ := hD x hx kx hkx
  by_cases hqx : q = x
  · subst hqx
    obtain rfl : kl = kx := Option.some.inj (hkl.symm.trans hkx)
    rw [Maps.has_put_same hm (q_keyed.key hkl), Maps.atKey_put_same hm (q_keyed.key hkl), toldHas_snoc, toldAns_same hnew]
    exact ⟨by simp, rfl⟩
  · have hne : kx ≠ kl := fun e => hqx (kq_inj (q_keyed.inj hkl (e ▸ hkx)))
    rw [Maps.has_put_other hne, Maps.atKey_put_other hne, h1, h2, toldHas_snoc, toldAns_other hqx]
    exact ⟨by simp [hqx], rfl⟩
end Go.Proofs.Ytncjmndiafgaaaa
/- A cascade's machine in memory. Conditions: as each statement says. -/
namespace Go.Proofs.Ytncjmndiafgaaaa
open Go.RowKit
set_option linter.unusedVariables false
theorem blk_setR {w : World} {b o : Nat} {cs : Array Value} {t : TypeId} (h : w.heap[b]? = some (.cells cs t (0, 0))) (u : Value) : (w.setCell ⟨b, o, none⟩ u).heap[b]? = some (.cells (cs.setIfInBounds o u) t (0, 0)) := by
  simp [World.setCell, Array.getElem?_modify, h]
/-- The plan of a machine, and where what it has lies. -/
structure Lay where
  base : Nat
  p : Nat
  km : Nat
  n : Nat
  P : Nat
  B : Nat
  s : Nat
  go : Nat
  co : Nat
  gb : Nat
  cb : Nat
  Ab : Option Addr
  cbt : Nat
  os : List (Option Addr × Nat)
  bs : List (Option Addr × Nat)
/-- What turns in a machine. -/
structure Mst where
  b : List Bool
  told : List (Qn × Bool)
  flips : Nat
  failed : Bool
  pass : Nat
  block : Nat
  searching : Bool
  odd : Qn
  ans : Bool
  next : Qn
  opn : Bool
abbrev mCells (L : Lay) (S : Mst) (vt : Value) : Array Value :=
  #[.bool true, .int .i64 L.P, .int .i64 L.B, .int .u64 L.s, .slice (some ⟨L.go, 0, none⟩) L.P L.co, .slice (some ⟨L.gb, 0, none⟩) L.P L.cb, .slice L.Ab L.n L.cbt, .map (some L.km), vt, .int .i64 S.flips, .bool S.failed,
    .int .i64 S.pass, .int .i64 S.block, .bool S.searching, .int .i64 S.odd.p, .int .i64 S.odd.f, .int .i64 S.odd.t, .bool S.ans, .int .i64 S.next.p, .int .i64 S.next.f, .int .i64 S.next.t, .bool S.opn]
def aCells : List (Qn × Bool) → List Value
  | [] => []
  | a :: l => .int .i64 a.1.p :: .int .i64 a.1.f :: .int .i64 a.1.t :: .bool a.2 :: aCells l
theorem aCells_len : ∀ l : List (Qn × Bool), (aCells l).length = l.length * 4
  | [] => rfl
  | _ :: l => by simp [aCells, aCells_len l]; omega
theorem aCells_snoc : ∀ (l : List (Qn × Bool)) (q : Qn) (a : Bool), aCells (l ++ [(q, a)]) = aCells l ++ [.int .i64 q.p, .int .i64 q.f, .int .i64 q.t, .bool a]
  | [], _, _ => rfl
  | _ :: l, q, a => by simp [aCells, aCells_snoc l q a]
/-- The rows of a machine that stay. -/
structure MSt (w : World) (L : Lay) : Prop where
  hP : 1 ≤ L.P ∧ L.P ≤ 6
  hB : 1 ≤ L.B ∧ L.B ≤ 512
  hn : L.n ≤ 512
  hs : L.s < two64
  pc : L.P ≤ L.co ∧ L.P ≤ L.cb ∧ L.n ≤ L.cbt
  ol : L.os.length = L.P
  bl : L.bs.length = L.P
  ord : w.ownsRow L.base 95 1 (.slice (some ⟨L.go, 0, none⟩) L.P L.co) L.P (L.os.map fun a => .slice a.1 L.n a.2)
  blk : w.ownsRow L.base 109 1 (.slice (some ⟨L.gb, 0, none⟩) L.P L.cb) L.P (L.bs.mapIdx fun i a => .slice a.1 (cutL L.B L.n i).length a.2)
  ordr : ∀ i A c, L.os[i]? = some (A, c) → L.n ≤ c ∧ w.ownsRow L.base 3 1 (.slice A L.n c) L.n ((orderL L.s L.n i).map (Value.int .i64))
  blkr : ∀ i A c, L.bs[i]? = some (A, c) → (cutL L.B L.n i).length ≤ c ∧ w.ownsRow L.base 90 3 (.slice A (cutL L.B L.n i).length c) (cutL L.B L.n i).length (qCells (cutL L.B L.n i))
/-- The machine at L.p is S. -/
structure MAt (w : World) (L : Lay) (vt : Value) (S : Mst) : Prop where
  cells : w.heap[L.p]? = some (.cells (mCells L S vt) 92 (0, 0))
  told : w.ownsRow L.base 112 4 vt S.told.length (aCells S.told)
  bits : w.ownsRow L.base 4 1 (.slice L.Ab L.n L.cbt) L.n (S.b.map Value.bool)
  known : KnAt w L.km S.told
  kmb : L.base ≤ L.km
  pb : L.base ≤ L.p
  st : MSt w L
/-- From w to w' nothing but the machine's own has turned. -/
structure MTurn (L : Lay) (vt : Value) (w w' : World) : Prop where
  os : w'.os = w.os
  tape : w'.tape = w.tape
  output : w'.output = w.output
  size : w.heap.size ≤ w'.heap.size
  block : ∀ k, k < w.heap.size → k ≠ L.p → k ≠ L.km → L.Ab ≠ some ⟨k, 0, none⟩ → vt.ownBlock ≠ some k → w'.heap[k]? = w.heap[k]?
theorem MTurn.refl (L : Lay) (vt : Value) (w : World) : MTurn L vt w w := ⟨rfl, rfl, rfl, Nat.le_refl _, fun _ _ _ _ _ _ => rfl⟩
theorem MTurn.trans {L : Lay} {vt vt' : Value} {a b c : World} (h : MTurn L vt a b) (k : MTurn L vt' b c) (hv : vt'.ownBlock = vt.ownBlock ∨ ∀ g, vt'.ownBlock = some g → a.heap.size ≤ g) : MTurn L vt a c :=
  ⟨k.os.trans h.os, k.tape.trans h.tape, k.output.trans h.output, Nat.le_trans h.size k.size, fun j hj h1 h2 h3 h4 => (k.block j (Nat.lt_of_lt_of_le hj h.size) h1 h2 h3 (by
    rcases hv with hv | hv
    · rw [hv]; exact h4
    · intro e; have := hv j e; omega)).trans (h.block j hj h1 h2 h3 h4)⟩
theorem MTurn.below0 {L : Lay} {vt : Value} {w w' : World} (h : Below w.heap.size w w') : MTurn L vt w w' := ⟨h.os, h.tape, h.output, h.size, fun k hk _ _ _ _ => h.block k hk⟩
theorem MTurn.set {L : Lay} {vt : Value} (w : World) (o : Nat) (u : Value) : MTurn L vt w (w.setCell ⟨L.p, o, none⟩ u) :=
  ⟨rfl, rfl, rfl, by rw [size_setCell]; exact Nat.le_refl _, fun k _ h _ _ _ => Below.heap_setCell _ _ _ _ h⟩
theorem MTurn.q {L : Lay} {vt : Value} {w w' : World} (h : Qw w w') : MTurn L vt w w' := .below0 (h.below _)
/-- A row of a type that no turning block has stays. -/
theorem ownsRow_turn {w w' : World} {L : Lay} {vt : Value} {S : Mst} (hm : MAt w L vt S) (hT : MTurn L vt w w') {B t sz n : Nat} {v : Value} {xs : List Value} (h : w.ownsRow B t sz v n xs) (h1 : t ≠ 92) (h2 : t ≠ 4) (h3 : t ≠ 112) :
    w'.ownsRow B t sz v n xs := by
  refine ⟨h.1, ?_⟩
  rcases h.2 with hl | ⟨g, cap, cur, rfl, hb, hg, r⟩
  · exact .inl hl
  · have hlt := (Array.getElem?_eq_some_iff.1 hg).1
    refine .inr ⟨g, cap, cur, rfl, hb, (hT.block g hlt ?_ ?_ ?_ ?_).trans hg, r⟩
    · rintro rfl
      have := hg.symm.trans hm.cells
      injection this with this
      injection this with _ e _
      exact h1 e
    · rintro rfl
      obtain ⟨n', D, _, ⟨es, clock, hk, _⟩, _⟩ := hm.known
      have := hg.symm.trans hk
      injection this with this
      cases this
    · intro e
      rcases hm.bits.2 with ⟨hl, _⟩ | ⟨g', cap', cur', hv, _, hg', _⟩
      · injection hl with hl _ _; rw [e] at hl; cases hl
      · injection hv with hv _ _
        rw [e] at hv
        injection hv with hv
        injection hv with hv _ _
        subst hv
        have := hg.symm.trans hg'
        injection this with this
        injection this with _ e _
        exact h2 e
    · intro e
      rcases hm.told.2 with ⟨hl, _⟩ | ⟨g', cap', cur', hv, _, hg', _⟩
      · rw [hl] at e; cases e
      · rw [hv] at e
        simp only [Value.ownBlock, Option.some.injEq] at e
        subst e
        have := hg.symm.trans hg'
        injection this with this
        injection this with _ e _
        exact h3 e
theorem MSt.turn {w w' : World} {L : Lay} {vt : Value} {S : Mst} (hm : MAt w L vt S) (hT : MTurn L vt w w') : MSt w' L :=
  { hm.st with
    ord := ownsRow_turn hm hT hm.st.ord (by decide) (by decide) (by decide)
    blk := ownsRow_turn hm hT hm.st.blk (by decide) (by decide) (by decide)
    ordr := fun i A c h => ⟨(hm.st.ordr i A c h).1, ownsRow_turn hm hT (hm.st.ordr i A c h).2 (by decide) (by decide) (by decide)⟩
    blkr := fun i A c h => ⟨(hm.st.blkr i A c h).1, ownsRow_turn hm hT (hm.st.blkr i A c h).2 (by decide) (by decide) (by decide)⟩ }
/-- Memory that is made beyond, and draws, leave the machine. -/
theorem MAt.below {w w' : World} {L : Lay} {vt : Value} {S : Mst} (h : MAt w L vt S) (hb : Below w.heap.size w w') : MAt w' L vt S where
  cells := (hb.block _ (Array.getElem?_eq_some_iff.1 h.cells).1).trans h.cells
  told := ownsRow_below h.told hb (Nat.le_refl _)
  bits := ownsRow_below h.bits hb (Nat.le_refl _)
  known := h.known.keep (hb.block _ h.known.lt)
  kmb := h.kmb
  pb := h.pb
  st := MSt.turn h (.below0 hb)
theorem MAt.q {w w' : World} {L : Lay} {vt : Value} {S : Mst} (h : MAt w L vt S) (hq : Qw w w') : MAt w' L vt S := h.below (hq.below _)
/-- A store into the machine's own cells. -/
theorem MAt.set {w : World} {L : Lay} {vt : Value} {S : Mst} (h : MAt w L vt S) (o : Nat) (u : Value) (S' : Mst) (hc : (mCells L S vt).setIfInBounds o u = mCells L S' vt) (hb : S'.b = S.b) (ht : S'.told = S.told) : MAt (w.setCell ⟨L.p, o, none⟩ u) L vt S' where
  cells := by rw [← hc]; exact blk_setR h.cells u
  told := by
    rw [ht]
    refine ownsRow_setCell_other h.told ?_ u
    intro e
    rcases h.told.2 with ⟨hl, _⟩ | ⟨g', cap', cur', hv, _, hg', _⟩
    · rw [hl] at e; cases e
    · rw [hv] at e
      simp only [Value.ownBlock, Option.some.injEq] at e
      subst e
      have := hg'.symm.trans h.cells
      injection this with this
      injection this with _ e _
      exact absurd e (by decide)
  bits := by
    rw [hb]
    refine ownsRow_setCell_other h.bits ?_ u
    intro e
    rcases h.bits.2 with ⟨hl, _⟩ | ⟨g', cap', cur', hv, _, hg', _⟩
    · rw [hl] at e; cases e
    · rw [hv] at e
      simp only [Value.ownBlock, Option.some.injEq] at e
      subst e
      have := hg'.symm.trans h.cells
      injection this with this
      injection this with _ e _
      exact absurd e (by decide)
  known := by
    rw [ht]
    refine h.known.keep (Below.heap_setCell _ _ _ _ ?_)
    intro e
    obtain ⟨n', D, _, ⟨es, clock, hk, _⟩, _⟩ := h.known
    rw [e] at hk
    have := hk.symm.trans h.cells
    injection this with this
    cases this
  kmb := h.kmb
  pb := h.pb
  st := MSt.turn h (.set w o u)
theorem MAt.cell {w : World} {L : Lay} {vt : Value} {S : Mst} (h : MAt w L vt S) (o : Nat) : w.cell? ⟨L.p, o, none⟩ = (mCells L S vt)[o]? := cell_of_row _ _ _ _ _ _ h.cells
theorem MAt.frozen {w : World} {L : Lay} {vt : Value} {S : Mst} (h : MAt w L vt S) (o : Nat) : w.frozen? ⟨L.p, o, none⟩ = false := by simp [World.frozen?, h.cells]
theorem MAt.lt {w : World} {L : Lay} {vt : Value} {S : Mst} (h : MAt w L vt S) : L.p < w.heap.size := (Array.getElem?_eq_some_iff.1 h.cells).1
end Go.Proofs.Ytncjmndiafgaaaa
/- Contracts of isOdd and knows of a cascade's machine. Conditions: as each statement says. -/
namespace Go.Proofs.Ytncjmndiafgaaaa
open Go.RowKit
set_option linter.unusedVariables false
theorem orderL_mem {s n p : Nat} {x : Int} (h : x ∈ orderL s n p) : 0 ≤ x ∧ x < n := by
  unfold orderL at h
  split at h
  · exact idL_mem.1 h
  · exact permL_mem.1 h
/-- The places of a question. -/
def placesL (s n : Nat) (q : Qn) : List Int := ((orderL s n q.p).drop q.f).take (q.t - q.f)
theorem placesL_mem {s n : Nat} {q : Qn} {x : Int} (h : x ∈ placesL s n q) : 0 ≤ x ∧ x < n := orderL_mem (List.mem_of_mem_drop (List.mem_of_mem_take h))
/-- Is a question with an answer odd now? -/
def oddB (L : Lay) (b : List Bool) (q : Qn) (a : Bool) : Bool := parL b (placesL L.s L.n q) != a
structure QIn (L : Lay) (q : Qn) : Prop where
  p : q.p < L.P
  ft : q.f ≤ q.t
  t : q.t ≤ L.n
set_option maxRecDepth 100000 in
set_option maxHeartbeats 1000000 in
theorem isOdd_any (L : Lay) (vt : Value) (S : Mst) (q : Qn) (a : Bool) (w : World) (hm : MAt w L vt S) (hq : QIn L q) :
    Calls Try.prog 75 #[.pointer (some ⟨L.p, 0, none⟩), kq q, .bool a] w fun e w' => e = .returned (.bool (oddB L S.b q a)) ∧ Below w.heap.size w w' := by
  obtain ⟨qp, qf, qt⟩ := q
  obtain ⟨hqp, hft, hqt⟩ := hq
  dsimp only at hqp hft hqt
  obtain ⟨w1, hw1⟩ : ∃ w1, w1 = w.alloc (.cells #[.int .i64 qp, .int .i64 qf, .int .i64 qt] 90) := ⟨_, rfl⟩
  have hb1 : Below w.heap.size w w1 := by rw [hw1]; exact (Below.refl _ _).alloc (Nat.le_refl _) _
  have hm1 := hm.below hb1
  have hbk : w1.heap[w.heap.size]? = some (.cells #[.int .i64 qp, .int .i64 qf, .int .i64 qt] 90 (0, 0)) := by rw [hw1]; exact heap_alloc_new w _
  have q0 : w1.cell? ⟨w.heap.size, 0, none⟩ = some (.int .i64 qp) := by rw [cell_of_row _ _ _ _ _ _ hbk]; rfl
  have q1 : w1.cell? ⟨w.heap.size, 1, none⟩ = some (.int .i64 qf) := by rw [cell_of_row _ _ _ _ _ _ hbk]; rfl
  have q2 : w1.cell? ⟨w.heap.size, 2, none⟩ = some (.int .i64 qt) := by rw [cell_of_row _ _ _ _ _ _ hbk]; rfl
  have c4 : w1.cell? ⟨L.p, 4, none⟩ = some (.slice (some ⟨L.go, 0, none⟩) L.P L.co) := hm1.cell 4
  have c6 : w1.cell? ⟨L.p, 6, none⟩ = some (.slice L.Ab L.n L.cbt) := hm1.cell 6
  have hql : qp < L.os.length := by rw [hm1.st.ol]; exact hqp
  obtain ⟨A, c, hA⟩ : ∃ A c, L.os[qp]? = some (A, c) := ⟨_, _, List.getElem?_eq_getElem hql⟩
  have co : w1.cell? ⟨L.go, qp, none⟩ = some (.slice A L.n c) := by
    rw [hm1.st.ord.cellAt qp (by omega), List.getElem?_map, hA]; rfl
  obtain ⟨hnc, hro⟩ := hm1.st.ordr qp A c hA
  obtain ⟨A2, hsl, hr2⟩ := slice_cut (P := Try.prog) (t := 95) (sz := 1) Try.underlying95 Try.sizeOf3 (Rd.own hro) qf qt c hft hqt hnc
  have hn := hm1.st.hn
  have HR : Hid (Rd w1 w1.heap.size 1 A2 (qt - qf) ((placesL L.s L.n ⟨qp, qf, qt⟩).map (Value.int .i64))) := Lib.hid (by
    simpa [placesL, List.map_drop, List.map_take] using hr2)
  have HB := Lib.hid (Rd.own hm1.bits)
  have HP : Hid (∀ k : Nat, Calls Try.prog 42 #[.slice L.Ab L.n L.cbt, .slice A2 (qt - qf) (c - qf)] (w1.drewN k) fun e w' => e = .returned (.bool (parL S.b (placesL L.s L.n ⟨qp, qf, qt⟩))) ∧ w1.drewN k = w') := Lib.hid fun k =>
    parity_any L.Ab A2 L.n L.cbt (qt - qf) (c - qf) S.b (placesL L.s L.n ⟨qp, qf, qt⟩) _ _ (by omega) (by omega) (HB.out.drewN k) (HR.out.drewN k) (fun x hx => placesL_mem hx)
  have HO : Hid (oddB L S.b ⟨qp, qf, qt⟩ a = (parL S.b (placesL L.s L.n ⟨qp, qf, qt⟩) != a)) := Lib.hid rfl
  have i1 : (qp : Int) < (L.P : Int) := by omega
  have HW := Lib.hid hw1
  clear hw1 hm hm1 hbk hr2 hro hA hql
  generalize parL S.b (placesL L.s L.n ⟨qp, qf, qt⟩) = pv at HP HO
  go_enter Try.func75, Try.ntmps75
  go_wp2_with fail
  rw [← HW.out]
  go_quiet ((go_at_call 42; exact quiet_e (HP.out _)))
  go_wp2_with fail
  go_ret
  exact ⟨by rw [HO.out]; rfl, hb1.trans (Qw.below ⟨_, rfl⟩ _)⟩
theorem MTurn.andSet {L : Lay} {vt : Value} {a w : World} (h : MTurn L vt a w) (o : Nat) (u : Value) : MTurn L vt a (w.setCell ⟨L.p, o, none⟩ u) := h.trans (.set w o u) (.inl rfl)
theorem MTurn.andBelow {L : Lay} {vt : Value} {a w w' : World} (h : MTurn L vt a w) (hb : Below w.heap.size w w') : MTurn L vt a w' := h.trans (.below0 hb) (.inl rfl)
theorem MTurn.andQ {L : Lay} {vt : Value} {a w w' : World} (h : MTurn L vt a w) (hq : Qw w w') : MTurn L vt a w' := h.andBelow (hq.below _)
theorem KnAt.drewN {w : World} {km : Nat} {l : List (Qn × Bool)} (h : KnAt w km l) (k : Nat) : KnAt (w.drewN k) km l := h.keep rfl
set_option maxRecDepth 100000 in
set_option maxHeartbeats 1000000 in
theorem knows_yes (L : Lay) (vt : Value) (S : Mst) (q : Qn) (w : World) (hm : MAt w L vt S) (hq : q.ok) (hk : toldHas S.told q = true) :
    Calls Try.prog 73 #[.pointer (some ⟨L.p, 0, none⟩), kq q] w fun e w' => e = .returned (.bool true) ∧ Below w.heap.size w w' := by
  obtain ⟨qp, qf, qt⟩ := q
  obtain ⟨w1, hw1⟩ : ∃ w1, w1 = w.alloc (.cells #[.int .i64 qp, .int .i64 qf, .int .i64 qt] 90) := ⟨_, rfl⟩
  have hb1 : Below w.heap.size w w1 := by rw [hw1]; exact (Below.refl _ _).alloc (Nat.le_refl _) _
  have hm1 := hm.below hb1
  have hbk : w1.heap[w.heap.size]? = some (.cells #[.int .i64 qp, .int .i64 qf, .int .i64 qt] 90 (0, 0)) := by rw [hw1]; exact heap_alloc_new w _
  have q0 : w1.cell? ⟨w.heap.size, 0, none⟩ = some (.int .i64 qp) := by rw [cell_of_row _ _ _ _ _ _ hbk]; rfl
  have q1 : w1.cell? ⟨w.heap.size, 1, none⟩ = some (.int .i64 qf) := by rw [cell_of_row _ _ _ _ _ _ hbk]; rfl
  have q2 : w1.cell? ⟨w.heap.size, 2, none⟩ = some (.int .i64 qt) := by rw [cell_of_row _ _ _ _ _ _ hbk]; rfl
  have c7 : w1.cell? ⟨L.p, 7, none⟩ = some (.map (some L.km)) := hm1.cell 7
  have hlk : ∀ k : Nat, (Instr.lookup 88 (.map (some L.km)) (.agg #[.int .i64 qp, .int .i64 qf, .int .i64 qt]) true).run Try.prog (w1.drewN k) = .ok (.tuple #[.bool (toldAns S.told ⟨qp, qf, qt⟩), .bool true]) (w1.drewN k) := fun k => by
    have := (hm1.known.drewN k).look_ok hq
    rw [hk] at this
    exact this
  have HW := Lib.hid hw1
  clear hw1 hm hm1 hbk hk
  go_enter Try.func73, Try.ntmps73
  go_wp2_with fail
  rw [← HW.out]
  go_quiet (fail)
  go_wp2_with fail
  go_ret
  exact ⟨rfl, hb1.trans (Qw.below ⟨_, rfl⟩ _)⟩
set_option maxRecDepth 100000 in
set_option maxHeartbeats 1000000 in
theorem knows_no (L : Lay) (vt : Value) (S : Mst) (q : Qn) (w : World) (hm : MAt w L vt S) (hq : q.ok) (hk : toldHas S.told q = false) :
    Calls Try.prog 73 #[.pointer (some ⟨L.p, 0, none⟩), kq q] w fun e w' => e = .returned (.bool false) ∧ MAt w' L vt { S with next := q, opn := true } ∧ MTurn L vt w w' := by
  obtain ⟨qp, qf, qt⟩ := q
  obtain ⟨w1, hw1⟩ : ∃ w1, w1 = w.alloc (.cells #[.int .i64 qp, .int .i64 qf, .int .i64 qt] 90) := ⟨_, rfl⟩
  have hb1 : Below w.heap.size w w1 := by rw [hw1]; exact (Below.refl _ _).alloc (Nat.le_refl _) _
  have hm1 := hm.below hb1
  have hbk : w1.heap[w.heap.size]? = some (.cells #[.int .i64 qp, .int .i64 qf, .int .i64 qt] 90 (0, 0)) := by rw [hw1]; exact heap_alloc_new w _
  have q0 : w1.cell? ⟨w.heap.size, 0, none⟩ = some (.int .i64 qp) := by rw [cell_of_row _ _ _ _ _ _ hbk]; rfl
  have q1 : w1.cell? ⟨w.heap.size, 1, none⟩ = some (.int .i64 qf) := by rw [cell_of_row _ _ _ _ _ _ hbk]; rfl
  have q2 : w1.cell? ⟨w.heap.size, 2, none⟩ = some (.int .i64 qt) := by rw [cell_of_row _ _ _ _ _ _ hbk]; rfl
  have c7 : w1.cell? ⟨L.p, 7, none⟩ = some (.map (some L.km)) := hm1.cell 7
  have hlk : ∀ k : Nat, (Instr.lookup 88 (.map (some L.km)) (.agg #[.int .i64 qp, .int .i64 qf, .int .i64 qt]) true).run Try.prog (w1.drewN k) = .ok (.tuple #[.bool (toldAns S.told ⟨qp, qf, qt⟩), .bool false]) (w1.drewN k) := fun k => by
    have := (hm1.known.drewN k).look_ok hq
    rw [hk] at this
    exact this
  have d18 : w1.cell? ⟨L.p, 18, none⟩ = some (.int .i64 S.next.p) := hm1.cell 18
  have d19 : w1.cell? ⟨L.p, 19, none⟩ = some (.int .i64 S.next.f) := hm1.cell 19
  have d20 : w1.cell? ⟨L.p, 20, none⟩ = some (.int .i64 S.next.t) := hm1.cell 20
  have d21 : w1.cell? ⟨L.p, 21, none⟩ = some (.bool S.opn) := hm1.cell 21
  have fz : ∀ o, w1.frozen? ⟨L.p, o, none⟩ = false := fun o => hm1.frozen o
  have HM := Lib.hid hm1
  have HW := Lib.hid hw1
  clear hw1 hm hm1 hbk hk
  go_enter Try.func73, Try.ntmps73
  go_wp2_with fail
  rw [← HW.out]
  go_quiet (fail)
  go_wp2_with fail
  go_ret
  have m0 := HM.out.q (⟨nq, rfl⟩ : Qw w1 (w1.drewN nq))
  have m1 := m0.set 18 (.int .i64 qp) { S with next := ⟨qp, S.next.f, S.next.t⟩ } rfl rfl rfl
  have m2 := m1.set 19 (.int .i64 qf) { S with next := ⟨qp, qf, S.next.t⟩ } rfl rfl rfl
  have m3 := m2.set 20 (.int .i64 qt) { S with next := ⟨qp, qf, qt⟩ } rfl rfl rfl
  have m4 := m3.set 21 (.bool true) { S with next := ⟨qp, qf, qt⟩, opn := true } rfl rfl rfl
  exact ⟨rfl, m4, ((((MTurn.below0 (hb1.trans (Qw.below ⟨nq, rfl⟩ _))).andSet _ _).andSet _ _).andSet _ _).andSet _ _⟩
end Go.Proofs.Ytncjmndiafgaaaa
/- The contract of ask of a cascade's machine. Conditions: as each statement says. -/
namespace Go.Proofs.Ytncjmndiafgaaaa
open Go.RowKit
set_option linter.unusedVariables false
/-- The steps of the course, as values: 0: none, 1: ask, 2: search, 3: halve. -/
abbrev ptrV (L : Lay) : Value := .pointer (some ⟨L.p, 0, none⟩)
abbrev askV (L : Lay) : Value := .func (.func 68) #[ptrV L] #[]
abbrev searchV (L : Lay) : Value := .func (.func 74) #[ptrV L] #[]
abbrev halveV (L : Lay) : Value := .func (.func 69) #[ptrV L] #[]
/-- The first block from j on that is not known. -/
def askJ (told : List (Qn × Bool)) (l : List Qn) (j : Nat) : Nat := j + ((l.drop j).takeWhile fun q => toldHas told q).length
theorem askJ_yes {told : List (Qn × Bool)} {l : List Qn} {j : Nat} {q : Qn} (h : l[j]? = some q) (hk : toldHas told q = true) : askJ told l j = askJ told l (j + 1) := by
  have hj := (List.getElem?_eq_some_iff.1 h).1
  unfold askJ
  rw [List.drop_eq_getElem_cons hj, (List.getElem?_eq_some_iff.1 h).2, List.takeWhile_cons, if_pos hk]
  simp; omega
theorem askJ_no {told : List (Qn × Bool)} {l : List Qn} {j : Nat} {q : Qn} (h : l[j]? = some q) (hk : toldHas told q = false) : askJ told l j = j := by
  have hj := (List.getElem?_eq_some_iff.1 h).1
  unfold askJ
  rw [List.drop_eq_getElem_cons hj, (List.getElem?_eq_some_iff.1 h).2, List.takeWhile_cons, if_neg (by rw [hk]; simp)]
  simp
theorem askJ_end {told : List (Qn × Bool)} {l : List Qn} {j : Nat} (h : l.length ≤ j) : askJ told l j = j := by
  unfold askJ
  rw [List.drop_of_length_le h]; simp
theorem cutK_get {n size p k i : Nat} (h : i < k) : (cutK n size p k)[i]? = some ⟨p, i * size, min (i * size + size) n⟩ := by simp [cutK, h]
/-- A block lies within the string. -/
theorem cutL_in {B n p i : Nat} {q : Qn} (hB : 1 ≤ B) (h : (cutL B n p)[i]? = some q) : q.p = p ∧ q.f < q.t ∧ q.t ≤ n := by
  have hs := sizeP_pos hB p
  have hi : i < cutN n (sizeP B p) := by
    have := (List.getElem?_eq_some_iff.1 h).1
    rwa [cutL, cutK_len] at this
  have h1 := (cutN_lt hs).2 hi
  rw [cutL, cutK_get hi] at h
  obtain rfl := Option.some.inj h
  refine ⟨rfl, ?_, ?_⟩
  · show i * sizeP B p < min (i * sizeP B p + sizeP B p) n
    omega
  · exact Nat.min_le_right _ _
theorem cutL_ok {B n p i : Nat} {q : Qn} (hB : 1 ≤ B) (hn : n ≤ 512) (hp : p ≤ 6) (h : (cutL B n p)[i]? = some q) : q.ok := by
  obtain ⟨h1, h2, h3⟩ := cutL_in hB h
  exact ⟨by omega, by omega, by omega⟩
set_option maxRecDepth 100000 in
set_option maxHeartbeats 1000000 in
theorem ask_end (L : Lay) (vt : Value) (S : Mst) (w : World) (hm : MAt w L vt S) (hp : S.pass = L.P) :
    Calls Try.prog 68 #[ptrV L] w fun e w' => e = .returned .nilFunc ∧ Qw w w' := by
  have c1 : w.cell? ⟨L.p, 1, none⟩ = some (.int .i64 L.P) := hm.cell 1
  have c11 : w.cell? ⟨L.p, 11, none⟩ = some (.int .i64 L.P) := by rw [← hp]; exact hm.cell 11
  clear hm hp
  go_enter Try.func68, Try.ntmps68
  go_wp2_with fail
  go_quiet (fail)
  go_wp2_with fail
  go_ret
  exact ⟨rfl, _, rfl⟩
def AskP (L : Lay) (vt : Value) (S : Mst) (w : World) (e : Ending) (w' : World) : Prop :=
  MTurn L vt w w' ∧ ((∃ q, (cutL L.B L.n S.pass)[askJ S.told (cutL L.B L.n S.pass) S.block]? = some q ∧ e = .returned .nilFunc ∧ MAt w' L vt { S with block := askJ S.told (cutL L.B L.n S.pass) S.block, next := q, opn := true }) ∨
    ((cutL L.B L.n S.pass)[askJ S.told (cutL L.B L.n S.pass) S.block]? = none ∧ e = .returned (searchV L) ∧ MAt w' L vt { S with block := askJ S.told (cutL L.B L.n S.pass) S.block }))
set_option maxRecDepth 100000 in
set_option maxHeartbeats 2000000 in
theorem ask_go (L : Lay) (vt : Value) (S : Mst) (w : World) (hm : MAt w L vt S) (hp : S.pass < L.P) (hbl : S.block ≤ 1000) :
    Calls Try.prog 68 #[ptrV L] w (AskP L vt S w) := by
  have c1 : w.cell? ⟨L.p, 1, none⟩ = some (.int .i64 L.P) := hm.cell 1
  have c11 : w.cell? ⟨L.p, 11, none⟩ = some (.int .i64 S.pass) := hm.cell 11
  have hne' : ((S.pass : Int) == (L.P : Int)) = false := by rw [beq_eq_false_iff_ne]; omega
  have HM := Lib.hid hm
  clear hm
  go_enter Try.func68, Try.ntmps68
  go_wp2_with fail
  go_quiet (fail)
  go_wp2_with fail
  clear c1 c11 hne'
  go_loopw [13] (fun _ wr => ∃ k : Nat, k ≤ 2000 ∧ askJ S.told (cutL L.B L.n S.pass) S.block = askJ S.told (cutL L.B L.n S.pass) k ∧ MAt wr L vt { S with block := k } ∧ MTurn L vt w wr) (fun _ wr => (cutL L.B L.n S.pass).length - (intOf ((wr.cell? ⟨L.p, 12, none⟩).getD undef)).toNat)
  case atStart => exact ⟨S.block, by omega, rfl, HM.out.q ⟨_, rfl⟩, MTurn.q ⟨_, rfl⟩⟩
  case round =>
    obtain ⟨k, hk, hj, hmk, hT⟩ := hrel
    have HJ := Lib.hid hj; have HK := Lib.hid hmk
    clear hj
    have hst := hmk.st
    have hPb := hst.hP
    have c3 : wr.cell? ⟨L.p, 5, none⟩ = some (.slice (some ⟨L.gb, 0, none⟩) L.P L.cb) := hmk.cell 5
    have c11 : wr.cell? ⟨L.p, 11, none⟩ = some (.int .i64 S.pass) := hmk.cell 11
    have c12 : wr.cell? ⟨L.p, 12, none⟩ = some (.int .i64 k) := hmk.cell 12
    have fz : wr.frozen? ⟨L.p, 12, none⟩ = false := hmk.frozen 12
    have hql : S.pass < L.bs.length := by rw [hst.bl]; exact hp
    obtain ⟨A, c, hA⟩ : ∃ A c, L.bs[S.pass]? = some (A, c) := ⟨_, _, List.getElem?_eq_getElem hql⟩
    have cb : wr.cell? ⟨L.gb, S.pass, none⟩ = some (.slice A (cutL L.B L.n S.pass).length c) := by
      rw [hst.blk.cellAt S.pass (by omega), List.getElem?_mapIdx, hA]; rfl
    obtain ⟨hnc, hro⟩ := hst.blkr S.pass A c hA
    have hpi : (S.pass : Int) < (L.P : Int) := by omega
    have hB1 := hst.hB.1
    have hn5 := hst.hn
    have HCI : Hid (∀ q, (cutL L.B L.n S.pass)[k]? = some q → q.ok) := Lib.hid fun q h => cutL_ok hB1 hn5 (by omega) h
    have hlen : (cutL L.B L.n S.pass).length ≤ 512 := by rw [cutL, cutK_len]; exact Nat.le_trans (cutN_le (sizeP_pos hB1 _)) hn5
    have HRO := Lib.hid (Rd.own hro)
    clear hro hst hmk hA hql
    generalize hl : cutL L.B L.n S.pass = l at *
    have HL := Lib.hid hl
    clear hl
    by_cases hlt : k < l.length
    · have hlt' : (k : Int) < (l.length : Int) := by omega
      obtain ⟨ga, oa, rfl, hga, hca⟩ := HRO.out.2 (by omega)
      obtain ⟨q0, q1, q2⟩ := qCells_at l k hlt
      have e0 : wr.cell? ⟨ga, oa + k * 3, none⟩ = some (.int .i64 (l[k]).p) := hca _ _ q0
      have e1 : wr.cell? ⟨ga, oa + k * 3 + 1, none⟩ = some (.int .i64 (l[k]).f) := hca _ _ q1
      have e2 : wr.cell? ⟨ga, oa + k * 3 + 2, none⟩ = some (.int .i64 (l[k]).t) := hca _ _ q2
      have hqk : l[k]? = some l[k] := List.getElem?_eq_getElem hlt
      have hqo := HCI.out _ hqk
      generalize l[k] = q at hqk hqo e0 e1 e2
      have HQ := Lib.hid hqk
      obtain ⟨qp, qf, qt⟩ := q
      dsimp only at e0 e1 e2
      clear q0 q1 q2 hca hqk
      have hki : (k : Int) ≤ 2000 := by omega
      by_cases hkn : toldHas S.told ⟨qp, qf, qt⟩ = true
      · have HN := Lib.hid hkn
        clear hkn
        go_wp2_with fail
        go_quiet (fail)
        go_wp2_with fail
        refine wp_region_quiet_tail 17 (by kernel_rfl) (by kernel_rfl) ?_
        simp only [List.take_succ_cons, List.take_zero, List.drop_succ_cons, List.drop_zero]
        repeat (quiet_step (fail))
        refine wpQuiet_nil ?_
        intro _ hw'
        obtain ⟨nr, hw''⟩ := hw'
        subst hw''
        go_wp2_with fail
        refine (knows_yes L vt { S with block := k } ⟨qp, qf, qt⟩ _ (HK.out.q ⟨nq + nr, rfl⟩) hqo HN.out).mono ?_
        rintro e w2 ⟨rfl, hb2⟩
        have hm2 := (HK.out.q ⟨nq + nr, rfl⟩).below hb2
        have hT2 := (hT.andQ ⟨nq + nr, rfl⟩).andBelow hb2
        have d12 : w2.cell? ⟨L.p, 12, none⟩ = some (.int .i64 k) := hm2.cell 12
        have fz2 : w2.frozen? ⟨L.p, 12, none⟩ = false := hm2.frozen 12
        have hm3 := hm2.set 12 (.int .i64 ((k + 1 : Nat) : Int)) { S with block := k + 1 } rfl rfl rfl
        have HM3 := Lib.hid hm3
        have C13 := Lib.hid (hm3.cell 12); have C12 := Lib.hid c12
        have hT3 := hT2.andSet 12 (.int .i64 ((k + 1 : Nat) : Int))
        clear hm2 hm3 c3 c11 c12 fz cb e0 e1 e2 hT2
        go_wp2_with fail
        go_roundw
        case rel => exact ⟨k + 1, by omega, by rw [HJ.out, askJ_yes HQ.out HN.out], HM3.out, hT3⟩
        case measure =>
          show l.length - (intOf (((w2.setCell ⟨L.p, 12, none⟩ (.int .i64 ((k + 1 : Nat) : Int))).cell? ⟨L.p, 12, none⟩).getD undef)).toNat < l.length - (intOf ((wr.cell? ⟨L.p, 12, none⟩).getD undef)).toNat
          rw [C13.out, C12.out]
          simp [intOf]; omega
      · have hkn' : toldHas S.told ⟨qp, qf, qt⟩ = false := by simpa using hkn
        have HN := Lib.hid hkn'
        clear hkn hkn'
        go_wp2_with fail
        go_quiet (fail)
        go_wp2_with fail
        refine wp_region_quiet_tail 17 (by kernel_rfl) (by kernel_rfl) ?_
        simp only [List.take_succ_cons, List.take_zero, List.drop_succ_cons, List.drop_zero]
        repeat (quiet_step (fail))
        refine wpQuiet_nil ?_
        intro _ hw'
        obtain ⟨nr, hw''⟩ := hw'
        subst hw''
        go_wp2_with fail
        refine (knows_no L vt { S with block := k } ⟨qp, qf, qt⟩ _ (HK.out.q ⟨nq + nr, rfl⟩) hqo HN.out).mono ?_
        rintro e w2 ⟨rfl, hm2, hT2⟩
        have HM2 := Lib.hid hm2
        have hT3 := (hT.andQ ⟨nq + nr, rfl⟩).trans hT2 (.inl rfl)
        clear hm2 c3 c11 c12 fz cb e0 e1 e2 hT2
        go_wp2_with fail
        go_ret
        have hJ : askJ S.told (cutL L.B L.n S.pass) S.block = k := by rw [HL.out, HJ.out, askJ_no HQ.out HN.out]
        refine ⟨hT3, .inl ⟨⟨qp, qf, qt⟩, ?_, rfl, ?_⟩⟩
        · rw [hJ, HL.out]; exact HQ.out
        · rw [hJ]; exact HM2.out
    · have hlt' : ¬ (k : Int) < (l.length : Int) := by omega
      go_wp2_with fail
      go_quiet (fail)
      go_wp2_with fail
      go_ret
      have hJ : askJ S.told (cutL L.B L.n S.pass) S.block = k := by rw [HL.out, HJ.out, askJ_end (by omega)]
      refine ⟨hT.andQ ⟨_, rfl⟩, .inr ⟨?_, rfl, ?_⟩⟩
      · rw [hJ, HL.out]; exact List.getElem?_eq_none (by omega)
      · rw [hJ]; exact HK.out.q ⟨_, rfl⟩
end Go.Proofs.Ytncjmndiafgaaaa
/- The contracts of halve of a cascade's machine. Conditions: as each statement says. -/
namespace Go.Proofs.Ytncjmndiafgaaaa
open Go.RowKit
set_option linter.unusedVariables false
def flipL (b : List Bool) (i : Nat) : List Bool := b.set i (!(b.getD i false))
theorem flipL_len (b : List Bool) (i : Nat) : (flipL b i).length = b.length := by simp [flipL]
theorem MTurn.bit {L : Lay} {vt : Value} {g : Nat} (w : World) (hg : L.Ab = some ⟨g, 0, none⟩) (o : Nat) (u : Value) : MTurn L vt w (w.setCell ⟨g, o, none⟩ u) :=
  ⟨rfl, rfl, rfl, by rw [size_setCell]; exact Nat.le_refl _, fun k _ _ _ h _ => Below.heap_setCell _ _ _ _ (by rintro rfl; exact h hg)⟩
/-- A store into the machine's string. -/
theorem MAt.bit {w : World} {L : Lay} {vt : Value} {S : Mst} (h : MAt w L vt S) {g : Nat} (hg : L.Ab = some ⟨g, 0, none⟩) (i : Nat) (y : Bool) (hn : 0 < L.n) : MAt (w.setCell ⟨g, i, none⟩ (.bool y)) L vt { S with b := S.b.set i y } := by
  have hb : ∃ cur, w.heap[g]? = some (.cells cur 4 (0, 0)) := by
    rcases h.bits.2 with ⟨hl, _⟩ | ⟨g', cap', cur', hv, _, hg', _⟩
    · injection hl with _ h0 _; omega
    · injection hv with hv _ _
      rw [hg] at hv
      injection hv with hv
      injection hv with hv _ _
      subst hv
      exact ⟨cur', hg'⟩
  obtain ⟨cur, hcur⟩ := hb
  have hne : ∀ {k : Nat} {cs : Array Value} {t : TypeId}, w.heap[k]? = some (.cells cs t (0, 0)) → t ≠ 4 → k ≠ g := fun {k cs t} hk ht e => by
    subst e
    have := hk.symm.trans hcur
    injection this with this
    injection this with _ e _
    exact ht e
  refine ⟨(Below.heap_setCell _ _ _ _ (hne h.cells (by decide))).trans h.cells, ?_, ?_, ?_, h.kmb, h.pb, MSt.turn h (.bit w hg i _)⟩
  · refine ownsRow_setCell_other h.told ?_ _
    intro e
    rcases h.told.2 with ⟨hl, _⟩ | ⟨g', cap', cur', hv, _, hg', _⟩
    · rw [hl] at e; cases e
    · rw [hv] at e
      simp only [Value.ownBlock, Option.some.injEq] at e
      exact hne hg' (by decide) e
  · have h1 := h.bits
    rw [hg] at h1 ⊢
    have h2 := (h1.stored i (.bool y)).1
    rwa [← List.map_set] at h2
  · refine h.known.keep (Below.heap_setCell _ _ _ _ ?_)
    intro e
    obtain ⟨n', D, _, ⟨es, clock, hk, _⟩, _⟩ := h.known
    rw [e] at hk
    have := hk.symm.trans hcur
    injection this with this
    cases this
/-- The bit that an odd question of one place has, inverted. -/
def halve1 (L : Lay) (S : Mst) : Mst := { S with b := flipL S.b ((orderL L.s L.n S.odd.p).getD S.odd.f 0).toNat, flips := S.flips + 1, searching := false }
set_option maxRecDepth 100000 in
set_option maxHeartbeats 2000000 in
theorem halve_one (L : Lay) (vt : Value) (S : Mst) (w : World) (hm : MAt w L vt S) (hq : QIn L S.odd) (h1 : S.odd.t = S.odd.f + 1) (hfl : S.flips ≤ 1000000) :
    Calls Try.prog 69 #[ptrV L] w fun e w' => e = .returned (searchV L) ∧ MAt w' L vt (halve1 L S) ∧ MTurn L vt w w' := by
  obtain ⟨hqp, hft, hqt⟩ := hq
  have hst := hm.st
  have hn5 := hst.hn
  have c4 : w.cell? ⟨L.p, 4, none⟩ = some (.slice (some ⟨L.go, 0, none⟩) L.P L.co) := hm.cell 4
  have c6 : w.cell? ⟨L.p, 6, none⟩ = some (.slice L.Ab L.n L.cbt) := hm.cell 6
  have c9 : w.cell? ⟨L.p, 9, none⟩ = some (.int .i64 S.flips) := hm.cell 9
  have c14 : w.cell? ⟨L.p, 14, none⟩ = some (.int .i64 S.odd.p) := hm.cell 14
  have c15 : w.cell? ⟨L.p, 15, none⟩ = some (.int .i64 S.odd.f) := hm.cell 15
  have c16 : w.cell? ⟨L.p, 16, none⟩ = some (.int .i64 S.odd.t) := hm.cell 16
  have c13 : w.cell? ⟨L.p, 13, none⟩ = some (.bool S.searching) := hm.cell 13
  have fz : ∀ o, w.frozen? ⟨L.p, o, none⟩ = false := fun o => hm.frozen o
  have hql : S.odd.p < L.os.length := by rw [hst.ol]; exact hqp
  obtain ⟨A, c, hA⟩ : ∃ A c, L.os[S.odd.p]? = some (A, c) := ⟨_, _, List.getElem?_eq_getElem hql⟩
  have co : w.cell? ⟨L.go, S.odd.p, none⟩ = some (.slice A L.n c) := by
    rw [hst.ord.cellAt S.odd.p (by omega), List.getElem?_map, hA]; rfl
  obtain ⟨hnc, hro⟩ := hst.ordr S.odd.p A c hA
  have hn0 : 0 < L.n := by omega
  obtain ⟨ga, oa, rfl, hga, hca⟩ := (Rd.own hro).2 hn0
  have hfn : S.odd.f < (orderL L.s L.n S.odd.p).length := by rw [orderL_len]; omega
  have hx := orderL_mem (List.getElem_mem hfn)
  have cx : w.cell? ⟨ga, oa + S.odd.f, none⟩ = some (.int .i64 (orderL L.s L.n S.odd.p)[S.odd.f]) := hca _ _ (by simp [hfn])
  have HX : Hid ((orderL L.s L.n S.odd.p).getD S.odd.f 0 = (orderL L.s L.n S.odd.p)[S.odd.f]) := Lib.hid (by simp [hfn])
  generalize (orderL L.s L.n S.odd.p)[S.odd.f] = x at hx cx HX
  obtain ⟨i, rfl⟩ := Int.eq_ofNat_of_zero_le hx.1
  have hin : i < L.n := by omega
  obtain ⟨g, hg⟩ : ∃ g, L.Ab = some ⟨g, 0, none⟩ := by
    rcases hm.bits.2 with ⟨hl, _⟩ | ⟨g', cap', cur', hv, _⟩
    · injection hl with _ h0 _; omega
    · injection hv with hv _ _; exact ⟨g', hv⟩
  have hbl : S.b.length = L.n := by have := hm.bits.1; simpa using this
  have hib : i < S.b.length := by omega
  have hbo := hm.bits
  rw [hg] at hbo c6
  have cb : w.cell? ⟨g, i, none⟩ = some (.bool S.b[i]) := by rw [hbo.cellAt i (by omega)]; simp [hib]
  have fb : w.frozen? ⟨g, i, none⟩ = false := hbo.frozenAt i
  have HY : Hid (S.b.getD i false = S.b[i]) := Lib.hid (by simp [hib])
  generalize S.b[i] = y at cb HY
  have hsub : ((S.odd.t : Int) - (S.odd.f : Int)) = 1 := by omega
  have hfn' : (S.odd.f : Int) < (L.n : Int) := by omega
  have hin' : (i : Int) < (L.n : Int) := by omega
  have hqp' : (S.odd.p : Int) < (L.P : Int) := by omega
  have hfl' : (S.flips : Int) ≤ 1000000 := by omega
  have hgp : g ≠ L.p := by
    rintro rfl
    rcases hbo.2 with ⟨hl, _⟩ | ⟨g', cap', cur', hv, _, hg', _⟩
    · injection hl with hl _ _; cases hl
    · injection hv with hv _ _
      injection hv with hv
      injection hv with hv _ _
      subst hv
      have := hg'.symm.trans hm.cells
      injection this with this
      injection this with _ e _
      exact absurd e (by decide)
  have HM := Lib.hid hm; have HG := Lib.hid hg
  clear hm hst hro hca hA hql hfn hx hbo hg hib hbl h1
  go_enter Try.func69, Try.ntmps69
  go_wp2_with fail
  go_quiet (fail)
  go_wp2_with fail
  go_quiet (fail)
  go_wp2_with fail
  rename_i nq0 nq1
  have hgp2 : L.p ≠ g := fun e => hgp e.symm
  refine wp_region_quiet_tail 14 (by kernel_rfl) (by kernel_rfl) ?_
  simp only [List.take_succ_cons, List.take_zero, List.drop_succ_cons, List.drop_zero]
  repeat (quiet_step (fail))
  refine wpQuiet_nil ?_
  intro _ hw'
  obtain ⟨nr, hw''⟩ := hw'
  subst hw''
  go_wp2_with fail
  go_ret
  have hE : halve1 L S = { S with b := S.b.set i (!y), flips := S.flips + 1, searching := false } := by
    unfold halve1 flipL
    rw [HX.out, Int.toNat_natCast, HY.out]
  rw [hE]
  refine ⟨rfl, ?_, ?_⟩
  · exact (((HM.out.q ⟨_, rfl⟩).bit HG.out i (!y) hn0).set 9 (.int .i64 ((S.flips : Int) + 1)) { S with b := S.b.set i (!y), flips := S.flips + 1 } rfl rfl rfl).set 13 (.bool false) _ rfl rfl rfl
  · exact (((MTurn.q ⟨_, rfl⟩).trans (.bit _ HG.out _ _) (.inl rfl)).andSet _ _).andSet _ _
/-- The first half of the odd question. -/
def firstH (q : Qn) : Qn := ⟨q.p, q.f, q.f + (q.t - q.f) / 2⟩
/-- The half that is odd, with its answer. -/
def halve2 (L : Lay) (S : Mst) : Mst :=
  if oddB L S.b (firstH S.odd) (toldAns S.told (firstH S.odd)) then { S with odd := firstH S.odd, ans := toldAns S.told (firstH S.odd) }
  else { S with odd := ⟨S.odd.p, S.odd.f + (S.odd.t - S.odd.f) / 2, S.odd.t⟩, ans := S.ans != toldAns S.told (firstH S.odd) }
set_option maxRecDepth 100000 in
set_option maxHeartbeats 2000000 in
theorem halve_ask (L : Lay) (vt : Value) (S : Mst) (w : World) (hm : MAt w L vt S) (hq : QIn L S.odd) (h1 : S.odd.f + 1 < S.odd.t) (hk : toldHas S.told (firstH S.odd) = false) :
    Calls Try.prog 69 #[ptrV L] w fun e w' => e = .returned .nilFunc ∧ MAt w' L vt { S with next := firstH S.odd, opn := true } ∧ MTurn L vt w w' := by
  obtain ⟨hqp, hft, hqt⟩ := hq
  have hst := hm.st
  have hn5 := hst.hn
  have hP := hst.hP
  have c14 : w.cell? ⟨L.p, 14, none⟩ = some (.int .i64 S.odd.p) := hm.cell 14
  have c15 : w.cell? ⟨L.p, 15, none⟩ = some (.int .i64 S.odd.f) := hm.cell 15
  have c16 : w.cell? ⟨L.p, 16, none⟩ = some (.int .i64 S.odd.t) := hm.cell 16
  have HQO : Hid (firstH S.odd).ok := Lib.hid ⟨by simp only [firstH]; omega, by simp only [firstH]; omega, by simp only [firstH]; omega⟩
  have HF : Hid (firstH S.odd = ⟨S.odd.p, S.odd.f, S.odd.f + (S.odd.t - S.odd.f) / 2⟩) := Lib.hid rfl
  obtain ⟨d, hd⟩ : ∃ d, d = S.odd.t - S.odd.f := ⟨_, rfl⟩
  have hdi : (S.odd.t : Int) - (S.odd.f : Int) = (d : Int) := by omega
  have hd1 : (1 : Int) < (d : Int) := by omega
  have hd2 : (d : Int) ≤ 512 := by omega
  obtain ⟨m, hmm⟩ : ∃ m, m = S.odd.f + (S.odd.t - S.odd.f) / 2 := ⟨_, rfl⟩
  have hmi : (S.odd.f : Int) + (d : Int) / 2 = (m : Int) := by omega
  rw [← hmm] at HF
  have hfm : (S.odd.f : Int) ≤ 512 := by omega
  have HM := Lib.hid hm; have HK := Lib.hid hk; have HMM := Lib.hid hmm.symm
  clear hm hst hk hd hmm h1
  go_enter Try.func69, Try.ntmps69
  go_wp2_with fail
  go_quiet (fail)
  have hm0 := HM.out.q (⟨nq, rfl⟩ : Qw w (w.drewN nq))
  have hT0 : MTurn L vt w (w.drewN nq) := .q ⟨nq, rfl⟩
  clear c14 c15 c16 HM
  generalize w.drewN nq = w0 at hm0 hT0 ⊢
  have c14 : w0.cell? ⟨L.p, 14, none⟩ = some (.int .i64 S.odd.p) := hm0.cell 14
  have c15 : w0.cell? ⟨L.p, 15, none⟩ = some (.int .i64 S.odd.f) := hm0.cell 15
  have c16 : w0.cell? ⟨L.p, 16, none⟩ = some (.int .i64 S.odd.t) := hm0.cell 16
  have HM := Lib.hid hm0
  have hlt0 := hm0.lt
  clear hm0
  go_wp2_with fail
  obtain ⟨w1, hw1⟩ : ∃ w1, w1 = w0.alloc (.cells #[.int .i64 S.odd.p, .int .i64 S.odd.f, .int .i64 m] 90) := ⟨_, rfl⟩
  have hb1 : Below w0.heap.size w0 w1 := by rw [hw1]; exact (Below.refl _ _).alloc (Nat.le_refl _) _
  rw [← hw1]
  clear hw1
  rw [HF.out] at HK HQO
  refine (knows_no L vt S ⟨S.odd.p, S.odd.f, m⟩ _ (HM.out.below hb1) HQO.out HK.out).mono ?_
  rintro e w2 ⟨rfl, hm2, hT2⟩
  have HM2 := Lib.hid hm2
  have hT3 := (hT0.andBelow hb1).trans hT2 (.inl rfl)
  clear hm2 hT2
  go_wp2_with fail
  go_ret
  exact ⟨rfl, by rw [HF.out]; exact HM2.out, hT3⟩
set_option maxRecDepth 100000 in
set_option maxHeartbeats 4000000 in
theorem halve_go (L : Lay) (vt : Value) (S : Mst) (w : World) (hm : MAt w L vt S) (hq : QIn L S.odd) (h1 : S.odd.f + 1 < S.odd.t) (hk : toldHas S.told (firstH S.odd) = true) :
    Calls Try.prog 69 #[ptrV L] w fun e w' => e = .returned (halveV L) ∧ MAt w' L vt (halve2 L S) ∧ MTurn L vt w w' := by
  obtain ⟨hqp, hft, hqt⟩ := hq
  have hst := hm.st
  have hn5 := hst.hn
  have hP := hst.hP
  have c14 : w.cell? ⟨L.p, 14, none⟩ = some (.int .i64 S.odd.p) := hm.cell 14
  have c15 : w.cell? ⟨L.p, 15, none⟩ = some (.int .i64 S.odd.f) := hm.cell 15
  have c16 : w.cell? ⟨L.p, 16, none⟩ = some (.int .i64 S.odd.t) := hm.cell 16
  have HQO : Hid (firstH S.odd).ok := Lib.hid ⟨by simp only [firstH]; omega, by simp only [firstH]; omega, by simp only [firstH]; omega⟩
  have HF : Hid (firstH S.odd = ⟨S.odd.p, S.odd.f, S.odd.f + (S.odd.t - S.odd.f) / 2⟩) := Lib.hid rfl
  obtain ⟨d, hd⟩ : ∃ d, d = S.odd.t - S.odd.f := ⟨_, rfl⟩
  have hdi : (S.odd.t : Int) - (S.odd.f : Int) = (d : Int) := by omega
  have hd1 : (1 : Int) < (d : Int) := by omega
  have hd2 : (d : Int) ≤ 512 := by omega
  obtain ⟨m, hmm⟩ : ∃ m, m = S.odd.f + (S.odd.t - S.odd.f) / 2 := ⟨_, rfl⟩
  have hmi : (S.odd.f : Int) + (d : Int) / 2 = (m : Int) := by omega
  rw [← hmm] at HF
  have hfm : (S.odd.f : Int) ≤ 512 := by omega
  have HM := Lib.hid hm; have HK := Lib.hid hk; have HMM := Lib.hid hmm.symm
  clear hm hst hk hd hmm h1
  go_enter Try.func69, Try.ntmps69
  go_wp2_with fail
  go_quiet (fail)
  have hm0 := HM.out.q (⟨nq, rfl⟩ : Qw w (w.drewN nq))
  have hT0 : MTurn L vt w (w.drewN nq) := .q ⟨nq, rfl⟩
  clear c14 c15 c16 HM
  generalize w.drewN nq = w0 at hm0 hT0 ⊢
  have c14 : w0.cell? ⟨L.p, 14, none⟩ = some (.int .i64 S.odd.p) := hm0.cell 14
  have c15 : w0.cell? ⟨L.p, 15, none⟩ = some (.int .i64 S.odd.f) := hm0.cell 15
  have c16 : w0.cell? ⟨L.p, 16, none⟩ = some (.int .i64 S.odd.t) := hm0.cell 16
  have HM := Lib.hid hm0
  have hlt0 := hm0.lt
  clear hm0
  go_wp2_with fail
  obtain ⟨w1, hw1⟩ : ∃ w1, w1 = w0.alloc (.cells #[.int .i64 S.odd.p, .int .i64 S.odd.f, .int .i64 m] 90) := ⟨_, rfl⟩
  have hb1 : Below w0.heap.size w0 w1 := by rw [hw1]; exact (Below.refl _ _).alloc (Nat.le_refl _) _
  have hbk : w1.heap[w0.heap.size]? = some (.cells #[.int .i64 S.odd.p, .int .i64 S.odd.f, .int .i64 m] 90 (0, 0)) := by rw [hw1]; exact heap_alloc_new w0 _
  rw [← hw1]
  clear hw1
  have hE : halve2 L S = if oddB L S.b ⟨S.odd.p, S.odd.f, m⟩ (toldAns S.told ⟨S.odd.p, S.odd.f, m⟩) then { S with odd := ⟨S.odd.p, S.odd.f, m⟩, ans := toldAns S.told ⟨S.odd.p, S.odd.f, m⟩ } else { S with odd := ⟨S.odd.p, m, S.odd.t⟩, ans := S.ans != toldAns S.told ⟨S.odd.p, S.odd.f, m⟩ } := by
    unfold halve2
    rw [HF.out, HMM.out]
  rw [HF.out] at HK HQO
  have HQI : Hid (QIn L ⟨S.odd.p, S.odd.f, m⟩) := Lib.hid ⟨hqp, by simp only; omega, by simp only; omega⟩
  refine (knows_yes L vt S ⟨S.odd.p, S.odd.f, m⟩ _ (HM.out.below hb1) HQO.out HK.out).mono ?_
  rintro e w2 ⟨rfl, hb2⟩
  have hm2 := (HM.out.below hb1).below hb2
  have hlt1 : w0.heap.size < w1.heap.size := (Array.getElem?_eq_some_iff.1 hbk).1
  have hbk2 := (hb2.block _ hlt1).trans hbk
  have b0 : w2.cell? ⟨w0.heap.size, 0, none⟩ = some (.int .i64 S.odd.p) := by rw [cell_of_row _ _ _ _ _ _ hbk2]; rfl
  have b1 : w2.cell? ⟨w0.heap.size, 1, none⟩ = some (.int .i64 S.odd.f) := by rw [cell_of_row _ _ _ _ _ _ hbk2]; rfl
  have b2 : w2.cell? ⟨w0.heap.size, 2, none⟩ = some (.int .i64 m) := by rw [cell_of_row _ _ _ _ _ _ hbk2]; rfl
  have c7 : w2.cell? ⟨L.p, 7, none⟩ = some (.map (some L.km)) := hm2.cell 7
  have hlk : ∀ k : Nat, (Instr.lookup 88 (.map (some L.km)) (.agg #[.int .i64 S.odd.p, .int .i64 S.odd.f, .int .i64 m]) false).run Try.prog (w2.drewN k) = .ok (.bool (toldAns S.told ⟨S.odd.p, S.odd.f, m⟩)) (w2.drewN k) := fun k => (hm2.known.drewN k).look HQO.out
  have hT2 := (hT0.andBelow hb1).andBelow hb2
  have HBK := Lib.hid hbk2; have HM2 := Lib.hid hm2; have HE := Lib.hid hE
  have hlt2 := hb2.size
  clear hm2 hbk hbk2 c14 c15 c16 hE HM HF hT0 hb1 hb2
  generalize toldAns S.told ⟨S.odd.p, S.odd.f, m⟩ = a at hlk HE
  go_wp2_with fail
  go_quiet (fail)
  rename_i nq3
  have hm3 := HM2.out.q (⟨nq, rfl⟩ : Qw w2 (w2.drewN nq))
  have hT3 := hT2.andQ (⟨nq, rfl⟩ : Qw w2 (w2.drewN nq))
  have hbk3 : (w2.drewN nq).heap[w0.heap.size]? = _ := HBK.out
  have hs3 : (w2.drewN nq).heap.size = w2.heap.size := rfl
  clear b0 b1 b2 c7 hlk HM2 HBK hT2
  generalize w2.drewN nq = w3 at hm3 hT3 hbk3 hs3 ⊢
  have b0 : w3.cell? ⟨w0.heap.size, 0, none⟩ = some (.int .i64 S.odd.p) := by rw [cell_of_row _ _ _ _ _ _ hbk3]; rfl
  have b1 : w3.cell? ⟨w0.heap.size, 1, none⟩ = some (.int .i64 S.odd.f) := by rw [cell_of_row _ _ _ _ _ _ hbk3]; rfl
  have b2 : w3.cell? ⟨w0.heap.size, 2, none⟩ = some (.int .i64 m) := by rw [cell_of_row _ _ _ _ _ _ hbk3]; rfl
  have HM3 := Lib.hid hm3; have HBK3 := Lib.hid hbk3; have HS3 := Lib.hid hs3
  clear hm3 hbk3 hs3
  go_wp2_with fail
  refine (isOdd_any L vt S ⟨S.odd.p, S.odd.f, m⟩ a _ HM3.out HQI.out).mono ?_
  rintro e w4 ⟨rfl, hb4⟩
  have hm4 := HM3.out.below hb4
  have hlt3 : w0.heap.size < w3.heap.size := by have := HS3.out; omega
  have hbk4 := (hb4.block _ hlt3).trans HBK3.out
  have d0 : w4.cell? ⟨w0.heap.size, 0, none⟩ = some (.int .i64 S.odd.p) := by rw [cell_of_row _ _ _ _ _ _ hbk4]; rfl
  have d1 : w4.cell? ⟨w0.heap.size, 1, none⟩ = some (.int .i64 S.odd.f) := by rw [cell_of_row _ _ _ _ _ _ hbk4]; rfl
  have d2 : w4.cell? ⟨w0.heap.size, 2, none⟩ = some (.int .i64 m) := by rw [cell_of_row _ _ _ _ _ _ hbk4]; rfl
  have c14 : w4.cell? ⟨L.p, 14, none⟩ = some (.int .i64 S.odd.p) := hm4.cell 14
  have c15 : w4.cell? ⟨L.p, 15, none⟩ = some (.int .i64 S.odd.f) := hm4.cell 15
  have c16 : w4.cell? ⟨L.p, 16, none⟩ = some (.int .i64 S.odd.t) := hm4.cell 16
  have c17 : w4.cell? ⟨L.p, 17, none⟩ = some (.bool S.ans) := hm4.cell 17
  have fz : ∀ o, w4.frozen? ⟨L.p, o, none⟩ = false := fun o => hm4.frozen o
  have hT4 := hT3.andBelow hb4
  have HM4 := Lib.hid hm4
  clear b0 b1 b2 hm4 HM3 HBK3 HS3 hbk4 hb4 hT3
  have hE := HE.out
  cases hv : oddB L S.b ⟨S.odd.p, S.odd.f, m⟩ a
  · rw [hv, if_neg (by simp)] at hE
    have HE2 := Lib.hid hE
    clear hE HE hv
    go_wp2_with fail
    go_region
    go_wp2_with fail
    go_ret
    rw [HE2.out]
    have m1 := HM4.out.set 15 (.int .i64 m) { S with odd := ⟨S.odd.p, m, S.odd.t⟩ } rfl rfl rfl
    have m2 := m1.set 17 (.bool (!(S.ans == a))) { S with odd := ⟨S.odd.p, m, S.odd.t⟩, ans := S.ans != a } rfl rfl rfl
    exact ⟨rfl, m2.q ⟨1, rfl⟩, ((hT4.andSet _ _).andSet _ _).andQ ⟨1, rfl⟩⟩
  · rw [hv, if_pos rfl] at hE
    have HE2 := Lib.hid hE
    clear hE HE hv
    go_wp2_with fail
    go_ret
    rw [HE2.out]
    have m1 := HM4.out.set 14 (.int .i64 S.odd.p) { S with odd := ⟨S.odd.p, S.odd.f, S.odd.t⟩ } rfl rfl rfl
    have m2 := m1.set 15 (.int .i64 S.odd.f) { S with odd := ⟨S.odd.p, S.odd.f, S.odd.t⟩ } rfl rfl rfl
    have m3 := m2.set 16 (.int .i64 m) { S with odd := ⟨S.odd.p, S.odd.f, m⟩ } rfl rfl rfl
    have m4 := m3.set 17 (.bool a) { S with odd := ⟨S.odd.p, S.odd.f, m⟩, ans := a } rfl rfl rfl
    exact ⟨rfl, m4, (((hT4.andSet _ _).andSet _ _).andSet _ _).andSet _ _⟩
end Go.Proofs.Ytncjmndiafgaaaa
