/- The contract of replay of the document's course. Conditions: as each statement says. -/
import Derived.Test.YtoofnkkbebjldaaRcAsk
import Derived.Test.YtoofnkkbebjldaaRecNewA
namespace Go.Proofs.Ytoofnkkbebjldaa
open Go.RowKit
set_option linter.unusedVariables false
/-- What holds while a course is being laid, beside the course. -/
def SX (base : Nat) (w0 : World) (H P B s : Nat) (w' : World) : Prop := Below base w0 w' ∧ PlanAt w' H P B s ∧ base ≤ w'.heap.size
theorem SX.drew {base H P B s : Nat} {w0 w' : World} (h : SX base w0 H P B s w') : SX base w0 H P B s w'.drew := ⟨h.1.trans (Qw.below (⟨1, rfl⟩ : Qw w' w'.drew) _), ⟨h.2.1.blk⟩, h.2.2⟩
theorem SX.call {base H P B s : Nat} {w0 w' w'' : World} (h : SX base w0 H P B s w') (hb : Below w'.heap.size w' w'') : SX base w0 H P B s w'' := ⟨h.1.trans (hb.mono h.2.2), h.2.1.past hb, Nat.le_trans h.2.2 hb.size⟩
theorem SX.alloc {base H P B s : Nat} {w0 w' : World} (h : SX base w0 H P B s w') (o : Obj) : SX base w0 H P B s (w'.alloc o) := h.call ((Below.refl _ _).alloc (Nat.le_refl _) o)
theorem SX.grow {base H P B s B' t sz n : Nat} {w0 w' w'' : World} {v : Value} {xs : List Value} (h : SX base w0 H P B s w') (ho : w'.ownsRow B' t sz v n xs) (ht : t ≠ 24) (hg : w'.grownBy w'' v.ownBlock) (hb : Below base w' w'') : SX base w0 H P B s w'' :=
  ⟨h.1.trans hb, ⟨(hg.block _ h.2.1.lt (fun e => row_ne ho h.2.1.blk ht e.symm)).trans h.2.1.blk⟩, Nat.le_trans h.2.2 hb.size⟩
theorem SX.set {base H P B s p : Nat} {w0 w' : World} {cs : Array Value} (h : SX base w0 H P B s w') (hp : base ≤ p) (hc : w'.heap[p]? = some (.cells cs 74 (0, 0))) (o : Nat) (u : Value) : SX base w0 H P B s (w'.setCell ⟨p, o, none⟩ u) :=
  ⟨h.1.setCell (p := ⟨p, o, none⟩) hp u, ⟨(Below.heap_setCell _ _ _ _ (fun e => by
    simp only at e
    subst e
    have := hc.symm.trans h.2.1.blk
    injection this with this
    injection this with _ e _
    exact absurd e (by decide))).trans h.2.1.blk⟩, by rw [size_setCell]; exact h.2.2⟩
theorem SX.rt {R : RLay} {H P B s : Nat} {w0 w' w'' : World} (h : SX R.base w0 H P B s w') (hT : RTurn R.base w' w'') : SX R.base w0 H P B s w'' :=
  ⟨h.1.trans hT.below, ⟨(hT.keep _ _ _ h.2.1.blk (by decide) (by decide) (by decide) (by decide)).trans h.2.1.blk⟩, Nat.le_trans h.2.2 hT.below.size⟩
/-- What replay leaves. -/
def ReplayP (base p n P B s : Nat) (b : List Bool) (vy : Value) (Z : Src) (w : World) (e : Ending) (w' : World) : Prop :=
  ∃ (R : RLay) (X : Mst) (kv : Nat → Nat → Value) (vt vl : Value), e = .returned (.pointer (some ⟨p, 0, none⟩)) ∧ R.base = base ∧ R.p = p ∧ R.n = n ∧ R.P = P ∧ R.B = B ∧ R.s = s ∧ RAt w' R Z kv vt vl vy X ∧ Below base w w' ∧ GoT R.L (oR R.L Z) (1, st0 b) (0, X) ∧ Fin (oR R.L Z) (0, X) ∧ Inv R.L 0 X
/-- Steps of the asking. -/
theorem askJ_to {told : List (Qn × Bool)} {l : List Qn} : ∀ (d b : Nat), (∀ j, b ≤ j → j < b + d → ∀ q, l[j]? = some q → toldHas told q = true) → b + d ≤ l.length → askJ told l b = askJ told l (b + d)
  | 0, b, _, _ => rfl
  | d + 1, b, h, hl => by
    have hb : b < l.length := by omega
    rw [askJ_yes (List.getElem?_eq_getElem hb) (h b (Nat.le_refl _) (by omega) _ (List.getElem?_eq_getElem hb))]
    have := askJ_to d (b + 1) (fun j h1 h2 => h j (by omega) (by omega)) (by omega)
    rw [this]; congr 1; omega
theorem askJ_past {told : List (Qn × Bool)} {l : List Qn} {b : Nat} (h : l.length ≤ b) : askJ told l b = b := by
  unfold askJ
  rw [List.drop_of_length_le h]; rfl
/-- What holds where the blocks of a pass are asked. -/
structure AskI (R : RLay) (Z : Src) (b : List Bool) (pp i : Nat) (X : Mst) : Prop where
  go : GoT R.L (oR R.L Z) (1, st0 b) (1, X)
  inv : Inv R.L 1 X
  ps : X.pass = pp
  bl : X.block ≤ i
  tl : ∀ j, X.block ≤ j → j < i → ∀ q, (cutL R.B R.n pp)[j]? = some q → toldHas X.told q = true
theorem ask_at {R : RLay} {Z : Src} {b : List Bool} {pp i : Nat} {X : Mst} {q : Qn} (h : AskI R Z b pp i X) (hp : pp < R.P) (hq : (cutL R.B R.n pp)[i]? = some q) (hno : toldHas X.told q = false) : stepS R.L 1 X = (0, { X with block := i, next := q, opn := true }) := by
  have hil := (List.getElem?_eq_some_iff.1 hq).1
  have e : askJ X.told (cutL R.L.B R.L.n X.pass) X.block = i := by
    rw [h.ps]
    show askJ X.told (cutL R.B R.n pp) X.block = i
    obtain ⟨d, hd⟩ : ∃ d, i = X.block + d := ⟨i - X.block, by have := h.bl; omega⟩
    rw [askJ_to d X.block (fun j h1 h2 => h.tl j h1 (by omega)) (by omega), ← hd]
    exact askJ_no hq hno
  have e' : (cutL R.L.B R.L.n X.pass)[i]? = some q := by rw [h.ps]; exact hq
  unfold stepS
  rw [if_pos rfl, if_neg (by rw [h.ps]; show ¬ pp = R.P; omega), e, e']
theorem ask_wait {R : RLay} {Z : Src} {b : List Bool} {pp i : Nat} {X : Mst} {q : Qn} (h : AskI R Z b pp i X) (hp : pp < R.P) (hq : (cutL R.B R.n pp)[i]? = some q) (hno : toldHas X.told q = false) (ho : oR R.L Z { X with next := q } = none) :
    GoT R.L (oR R.L Z) (1, st0 b) (0, { X with block := i, next := q, opn := true }) ∧ Fin (oR R.L Z) (0, { X with block := i, next := q, opn := true }) := by
  have := GoT.step (L := R.L) (o := oR R.L Z) (c := 1) (S := X) (by decide)
  rw [ask_at h hp hq hno] at this
  exact ⟨h.go.trans this, rfl, .inr ho⟩
theorem ask_tell {R : RLay} {Z : Src} {b : List Bool} {pp i : Nat} {X : Mst} {q : Qn} {a : Bool} (hB : 1 ≤ R.B) (hn : R.n ≤ 512) (h : AskI R Z b pp i X) (hp : pp < R.P) (hq : (cutL R.B R.n pp)[i]? = some q) (hno : toldHas X.told q = false) (ho : oR R.L Z { X with next := q } = some a) :
    AskI R Z b pp (i + 1) { X with block := i, told := X.told ++ [(q, a)] } := by
  have g1 := GoT.step (L := R.L) (o := oR R.L Z) (c := 1) (S := X) (by decide)
  rw [ask_at h hp hq hno] at g1
  have ho' : oR R.L Z { X with block := i, next := q, opn := true } = some a := ho
  have g2 := GoT.tell (L := R.L) (o := oR R.L Z) (S := { X with block := i, next := q, opn := true }) rfl ho'
  obtain ⟨k1, k2, k3⟩ := h.inv.go (by decide)
  have hs := h.inv.s1 (.inl rfl)
  have e2 : (advC (tellS { X with block := i, next := q, opn := true } a), advS0 (tellS { X with block := i, next := q, opn := true } a)) = ((1 : Nat), { X with block := i, told := X.told ++ [(q, a)] }) := by
    unfold advC advS0 tellS
    cases X
    simp only at k1 k2 hs
    subst k1 k2 hs
    rfl
  rw [e2] at g2
  have hg := g1.trans g2
  refine ⟨h.go.trans hg, hg.inv (I := fun z => Inv R.L z.1 z.2) (fun z hz => hz.stepO hB hn z) h.inv, h.ps, Nat.le_succ _, fun j h1 h2 q' hq' => ?_⟩
  simp only at h1
  obtain rfl : j = i := by omega
  rw [hq] at hq'
  obtain rfl := Option.some.inj hq'
  show toldHas (X.told ++ [(q, a)]) q = true
  rw [toldHas_snoc]; simp
theorem ask_known {R : RLay} {Z : Src} {b : List Bool} {pp i : Nat} {X : Mst} {q : Qn} (h : AskI R Z b pp i X) (hq : (cutL R.B R.n pp)[i]? = some q) (hy : toldHas X.told q = true) : AskI R Z b pp (i + 1) X :=
  ⟨h.go, h.inv, h.ps, Nat.le_succ_of_le h.bl, fun j h1 h2 q' hq' => by
    by_cases e : j = i
    · subst e; rw [hq] at hq'; obtain rfl := Option.some.inj hq'; exact hy
    · exact h.tl j h1 (by omega) q' hq'⟩
/-- What holds where a search begins. -/
structure SeaI (R : RLay) (Z : Src) (b : List Bool) (pp : Nat) (X : Mst) : Prop where
  go : GoT R.L (oR R.L Z) (1, st0 b) (2, X)
  inv : Inv R.L 2 X
  ps : X.pass = pp
theorem ask_done {R : RLay} {Z : Src} {b : List Bool} {pp : Nat} {X : Mst} (hB : 1 ≤ R.B) (hn : R.n ≤ 512) (h : AskI R Z b pp (cutL R.B R.n pp).length X) (hp : pp < R.P) : ∃ k, SeaI R Z b pp { X with block := k } := by
  have e : askJ X.told (cutL R.B R.n pp) X.block = (cutL R.B R.n pp).length := by
    obtain ⟨d, hd⟩ : ∃ d, (cutL R.B R.n pp).length = X.block + d := ⟨(cutL R.B R.n pp).length - X.block, by have := h.bl; omega⟩
    rw [askJ_to d X.block (fun j h1 h2 => h.tl j h1 (by omega)) (by omega), ← hd]
    exact askJ_past (Nat.le_refl _)
  have e' : (cutL R.L.B R.L.n X.pass)[askJ X.told (cutL R.L.B R.L.n X.pass) X.block]? = none := by
    rw [h.ps]
    show (cutL R.B R.n pp)[askJ X.told (cutL R.B R.n pp) X.block]? = none
    rw [e, List.getElem?_eq_none (Nat.le_refl _)]
  have es : stepS R.L 1 X = (2, { X with block := askJ X.told (cutL R.L.B R.L.n X.pass) X.block }) := by
    unfold stepS
    rw [if_pos rfl, if_neg (by rw [h.ps]; show ¬ pp = R.P; omega), e']
  have hg := GoT.step (L := R.L) (o := oR R.L Z) (c := 1) (S := X) (by decide)
  rw [es] at hg
  exact ⟨_, h.go.trans hg, hg.inv (I := fun z => Inv R.L z.1 z.2) (fun z hz => hz.stepO hB hn z) h.inv, h.ps⟩
theorem sea_none {R : RLay} {Z : Src} {b : List Bool} {pp : Nat} {X : Mst} (hB : 1 ≤ R.B) (hn : R.n ≤ 512) (h : SeaI R Z b pp X) (hb : bestS R.L X = none) : AskI R Z b (pp + 1) 0 { X with pass := pp + 1, block := 0 } := by
  have es : stepS R.L 2 X = (1, { X with pass := pp + 1, block := 0 }) := by unfold stepS; rw [if_neg (by decide), if_pos rfl, hb, h.ps]
  have hg := GoT.step (L := R.L) (o := oR R.L Z) (c := 2) (S := X) (by decide)
  rw [es] at hg
  exact ⟨h.go.trans hg, hg.inv (I := fun z => Inv R.L z.1 z.2) (fun z hz => hz.stepO hB hn z) h.inv, rfl, Nat.le_refl _, fun j _ h2 => absurd h2 (by omega)⟩
theorem sea_fail {R : RLay} {Z : Src} {b : List Bool} {pp : Nat} {X : Mst} {q : Qn} (h : SeaI R Z b pp X) (hb : bestS R.L X = some q) (hf : X.flips = R.n) :
    GoT R.L (oR R.L Z) (1, st0 b) (0, { X with failed := true }) ∧ Fin (oR R.L Z) (0, { X with failed := true }) := by
  have es : stepS R.L 2 X = (0, { X with failed := true }) := by unfold stepS; rw [if_neg (by decide), if_pos rfl, hb]; simp only; rw [if_pos (show X.flips = R.L.n from hf)]
  have hg := GoT.step (L := R.L) (o := oR R.L Z) (c := 2) (S := X) (by decide)
  rw [es] at hg
  exact ⟨h.go.trans hg, rfl, .inl (h.inv.go (by decide)).1⟩
theorem sea_some {R : RLay} {Z : Src} {b : List Bool} {pp : Nat} {X : Mst} {q : Qn} (hB : 1 ≤ R.B) (hn : R.n ≤ 512) (h : SeaI R Z b pp X) (hb : bestS R.L X = some q) (hf : X.flips ≠ R.n) :
    GoT R.L (oR R.L Z) (1, st0 b) (3, { X with odd := q, ans := toldAns X.told q, searching := true }) ∧ Inv R.L 3 { X with odd := q, ans := toldAns X.told q, searching := true } := by
  have es : stepS R.L 2 X = (3, { X with odd := q, ans := toldAns X.told q, searching := true }) := by unfold stepS; rw [if_neg (by decide), if_pos rfl, hb]; simp only; rw [if_neg (show ¬ X.flips = R.L.n from hf)]
  have hg := GoT.step (L := R.L) (o := oR R.L Z) (c := 2) (S := X) (by decide)
  rw [es] at hg
  exact ⟨h.go.trans hg, hg.inv (I := fun z => Inv R.L z.1 z.2) (fun z hz => hz.stepO hB hn z) h.inv⟩
theorem ask_last {R : RLay} {Z : Src} {b : List Bool} {X : Mst} (h : AskI R Z b R.P 0 X) : GoT R.L (oR R.L Z) (1, st0 b) (0, X) ∧ Fin (oR R.L Z) (0, X) := by
  have es : stepS R.L 1 X = (0, X) := by unfold stepS; rw [if_pos rfl, if_pos (show X.pass = R.L.P from h.ps)]
  have hg := GoT.step (L := R.L) (o := oR R.L Z) (c := 1) (S := X) (by decide)
  rw [es] at hg
  exact ⟨h.go.trans hg, rfl, .inl (h.inv.go (by decide)).1⟩
/-- A course in memory does not tell what is only reckoned. -/
theorem RAt.as {w : World} {R : RLay} {Z : Src} {kv : Nat → Nat → Value} {vt vl vy : Value} {S S' : Mst} (h : RAt w R Z kv vt vl vy S) (h1 : S'.b = S.b) (h2 : S'.told = S.told) (h3 : S'.flips = S.flips) (h4 : S'.failed = S.failed) (h5 : S'.next = S.next) (h6 : S'.opn = S.opn) : RAt w R Z kv vt vl vy S' := by
  obtain ⟨a, b, c, d, e, f, g⟩ := h
  exact ⟨by rw [a]; unfold rCells; rw [h3, h4, h5, h6], by rw [h2]; exact b, by rw [h1]; exact c, by rw [h2]; exact d, e, f, by rw [h2]; exact g⟩
set_option maxRecDepth 100000 in
set_option maxHeartbeats 8000000 in
theorem replay_any (base p n P B s cbt : Nat) (Ab : Option Addr) (b : List Bool) (vl vy : Value) (kb : Nat → Nat) (Z : Src) (w : World) (hP : 1 ≤ P) (hP6 : P ≤ 6) (hB : 1 ≤ B) (hB5 : B ≤ 512) (hs : s < two64) (hn : n ≤ 512)
    (hm : RNw w base p n P B s 0 0 Ab cbt b (.slice none 0 0) (.slice none 0 0) [] kb vl vy) (hsrc : ∀ w' (R : RLay), Below base w w' → R.base = base → R.n = n → RSrc w' R Z vl vy 0) :
    Calls Try.prog 46 #[.pointer (some ⟨p, 0, none⟩)] w (ReplayP base p n P B s b vy Z w) := by
  obtain ⟨i0, hi0, hz0, hz1, hz2⟩ := info_parts info_bool
  have HI0 := Lib.hid hi0; have HZ0 := Lib.hid hz0; have HZ1 := Lib.hid hz1; have HZ2 := Lib.hid hz2
  have c0 : w.cell? ⟨p, 0, none⟩ = some (.int .i64 P) := by rw [cell_of_row _ _ _ _ _ _ hm.cells]; rfl
  have c1 : w.cell? ⟨p, 1, none⟩ = some (.int .i64 B) := by rw [cell_of_row _ _ _ _ _ _ hm.cells]; rfl
  have c2 : w.cell? ⟨p, 2, none⟩ = some (.int .u64 s) := by rw [cell_of_row _ _ _ _ _ _ hm.cells]; rfl
  have hbw : base ≤ w.heap.size := Nat.le_trans hm.pb (Nat.le_of_lt hm.lt)
  have hbl : b.length = n := by have := hm.bits.1; simpa using this
  obtain ⟨w1, hw1⟩ : ∃ z, z = w.alloc (.cells (casC P B s) 24) := ⟨_, rfl⟩
  have Bw1 : Below w.heap.size w w1 := by rw [hw1]; exact (Below.refl _ _).alloc (Nat.le_refl _) _
  have hsx1 : SX base w w.heap.size P B s w1 := ⟨Bw1.mono hbw, by rw [hw1]; exact PlanAt.new w P B s, Nat.le_trans hbw Bw1.size⟩
  have hm1 := hm.below Bw1
  have d5 : ∀ o, (w1.alloc o).cell? ⟨p, 5, none⟩ = some (.slice Ab n cbt) := fun o => (World.cell?_alloc_lt _ _ _ hm1.lt).trans (by rw [cell_of_row _ _ _ _ _ _ hm1.cells]; rfl)
  have d6 : ∀ o, ((w.alloc (.cells (casC P B s) 24)).alloc o).cell? ⟨p, 5, none⟩ = some (.slice Ab n cbt) := fun o => by rw [← hw1]; exact d5 o
  have HR := Lib.hid (Rd.own hm1.bits)
  have hnc := hm.nc
  have HM1 := Lib.hid hm1; have HSX := Lib.hid hsx1; have HSRC := Lib.hid hsrc; have HBL := Lib.hid hbl
  have HW := Lib.hid hw1
  have HR2 : Hid (Rd (w.alloc (.cells (casC P B s) 24)) (w.alloc (.cells (casC P B s) 24)).heap.size 1 Ab n (b.map Value.bool)) := Lib.hid (by rw [← hw1]; exact HR.out)
  have hb1w := Lib.hid (show Below base w w1 from Bw1.mono hbw)
  clear hi0 hz0 hz1 hz2 hm1 hsx1 Bw1 hw1 hsrc hm hbl d5
  have hmade : ((w.alloc (.cells (casC P B s) 24)).alloc (.cells #[] 4)).ownsRow (w.heap.size + 1) 4 1 (.slice (some ⟨w.heap.size + 1, 0, none⟩) 0 0) 0 [] := by
    have := World.ownsRow_made (e := 4) (size := 1) (w.alloc (.cells (casC P B s) 24)) #[] 0 (Nat.le_refl _) (by simp [maxLen]) (by simp)
    rw [World.size_alloc] at this
    exact this
  go_enter Try.func46, Try.ntmps46
  go_wp2_with (first
    | (at_builtin; refine wpList_append_rd _ rfl (.tmp 18) (.tmp 22) _ rfl (w.heap.size + 1) 4 i0 _ 1 1 Try.underlying25 HI0.out HZ0.out HZ1.out HZ2.out rfl (by decide) _ 0 [] rfl hmade _ Ab n cbt _ rfl (HR2.out.alloc (Nat.le_refl _) _) (by intro u hu; obtain ⟨_, _, rfl⟩ := List.mem_map.1 hu; rfl) (by unfold maxLen; omega) (by omega) (by simp) ?_; intro v2 w2 hown2 hg2))
  rw [Nat.zero_add, List.nil_append] at hown2
  rw [← HW.out] at hg2
  have hb2 : Below w1.heap.size w1 w2 := ((Below.refl _ _).alloc (Nat.le_refl _) _).grown hg2 (by simp) (fun g hg => by cases hg; rw [HW.out, World.size_alloc]; exact Nat.le_refl _)
  obtain ⟨A4, c4, rfl, hc4⟩ := own_form hown2
  have HM2 := Lib.hid (HM1.out.below hb2); have HSX2 := Lib.hid (HSX.out.call hb2)
  clear hown2 hg2 hb2 hmade c0 c1 c2 d6 HM1 HSX HR HR2 HW hb1w
  go_wp2_with fail
  go_loopw [5] (fun i wr => ∃ (k : Nat) (vo vk : Value) (os : List (Option Addr × Nat)) (kb : Nat → Nat), k ≤ P ∧ i = .int .i64 k ∧ RNw wr base p n P B s k k Ab cbt b vo vk os kb vl vy ∧ SX base w w.heap.size P B s wr) (fun i _ => P - (intOf i).toNat)
  case atStart => exact ⟨0, _, _, _, kb, Nat.zero_le _, rfl, HM2.out, HSX2.out⟩
  case round =>
    obtain ⟨k, vo, vk, os, kb, hk, rfl, hna, hsx⟩ := hrel
    obtain ⟨wa, rfl⟩ : ∃ z : World, z = wr := ⟨_, rfl⟩
    have HNA := Lib.hid hna
    have hsx0 := hsx
    have b0 := hsx.2.1.c0
    clear hna HM2 HSX2 hsx
    by_cases hkP : k < P
    · have i1 : (k : Int) < (P : Int) := by omega
      obtain ⟨Ao, co, hvo, hco⟩ := own_form HNA.out.ord
      subst hvo
      have c3 : wa.cell? ⟨p, 3, none⟩ = some (.slice Ao k co) := by rw [cell_of_row _ _ _ _ _ _ HNA.out.cells]; rfl
      go_wp2_with fail
      refine wp_region_held_drew (S := fun w' => SX base w w.heap.size P B s w') (by kernel_rfl) ?_ (fun hHeld => ?_)
      · (try dsimp only); first | exact hsx0 | exact hsx0.drew | exact hHeld | exact hsx0.call HB9.out | exact hHeld.alloc _ | exact hsx8 | exact hsx9
      refine wpAnyH_take (i := 0) (oi := ⟨some 30, _, _, _, _, _⟩) (v := ?_) rfl (by kernel_rfl) (by kernel_rfl) (by kernel_rfl) (fun _ _ _ h => h) (Or.inl ⟨by rfl, ?_⟩) (by assumption) ?_
      rotate_left
      · (intro w hSw; (try dsimp only at hSw); go_simp; try with_reducible rfl)
      try simp only [Act.put, List.setIfInBounds_toArray, List.set_cons_zero, List.set_cons_succ]
      refine wpAnyH_take (i := 1) (oi := ⟨some 31, _, _, _, _, _⟩) (v := ?_) rfl (by kernel_rfl) (by kernel_rfl) (by kernel_rfl) (fun _ _ _ h => h) (Or.inl ⟨by rfl, ?_⟩) (by assumption) ?_
      rotate_left
      · (intro w hSw; (try dsimp only at hSw); go_simp; try with_reducible rfl)
      try simp only [Act.put, List.setIfInBounds_toArray, List.set_cons_zero, List.set_cons_succ]
      refine wpAnyH_take (i := 2) (oi := ⟨some 32, _, _, _, _, _⟩) (v := ?_) rfl (by kernel_rfl) (by kernel_rfl) (by kernel_rfl) (fun _ _ _ h => h) (Or.inl ⟨by rfl, ?_⟩) (by assumption) ?_
      rotate_left
      · (intro w hSw; (try dsimp only at hSw); go_simp; try with_reducible rfl)
      try simp only [Act.put, List.setIfInBounds_toArray, List.set_cons_zero, List.set_cons_succ]
      refine wpAnyH_take (i := 3) (oi := ⟨some 33, _, _, _, _, _⟩) (v := ?_) rfl (by kernel_rfl) (by kernel_rfl) (by kernel_rfl) (fun _ _ _ h => h) (Or.inl ⟨by rfl, ?_⟩) (by assumption) ?_
      rotate_left
      · (intro w hSw; (try dsimp only at hSw); go_simp; try with_reducible rfl)
      try simp only [Act.put, List.setIfInBounds_toArray, List.set_cons_zero, List.set_cons_succ]
      refine wpAnyH_take (i := 5) (oi := ⟨some 35, _, _, _, _, _⟩) (v := .agg #[.int .i64 P, .int .i64 B, .int .u64 s]) rfl (by kernel_rfl) (by kernel_rfl) (by kernel_rfl) (fun _ _ _ h => h) (Or.inl ⟨by rfl, ?_⟩) (by assumption) ?_
      · (intro w hSw; (try dsimp only at hSw); have h0 := hSw.2.1.c0; have h1 := hSw.2.1.c1; have h2 := hSw.2.1.c2; go_simp)
      try simp only [Act.put, List.setIfInBounds_toArray, List.set_cons_zero, List.set_cons_succ]
      refine wpAnyH_take (i := 6) (oi := ⟨some 36, _, _, _, _, _⟩) (v := ?_) rfl (by kernel_rfl) (by kernel_rfl) (by kernel_rfl) (fun _ _ _ h => h) (Or.inl ⟨by rfl, ?_⟩) (by assumption) ?_
      rotate_left
      · (intro w hSw; (try dsimp only at hSw); go_simp; try with_reducible rfl)
      try simp only [Act.put, List.setIfInBounds_toArray, List.set_cons_zero, List.set_cons_succ]
      refine wpAnyH_take (i := 7) (oi := ⟨some 37, _, _, _, _, _⟩) (v := ?_) rfl (by kernel_rfl) (by kernel_rfl) (by kernel_rfl) (fun _ _ _ h => h) (Or.inl ⟨by rfl, ?_⟩) (by assumption) ?_
      rotate_left
      · (intro w hSw; (try dsimp only at hSw); go_simp; try with_reducible rfl)
      try simp only [Act.put, List.setIfInBounds_toArray, List.set_cons_zero, List.set_cons_succ]
      refine wpAnyH_take (i := 8) (oi := ⟨some 38, _, _, _, _, _⟩) (v := ?_) rfl (by kernel_rfl) (by kernel_rfl) (by kernel_rfl) (fun _ _ _ h => h) (Or.inl ⟨by rfl, ?_⟩) (by assumption) ?_
      rotate_left
      · (intro w hSw; (try dsimp only at hSw); go_simp; try with_reducible rfl)
      try simp only [Act.put, List.setIfInBounds_toArray, List.set_cons_zero, List.set_cons_succ]
      refine wpAnyH_ready (rs := [4, 9]) (by kernel_rfl) (by simp) ?_
      refine AllReadyH.cons (o := ⟨some 34, _, _, _, _, _⟩) rfl (fun K hK => ?_) ?_
      · skip
        go_simp
        refine hK.out _ _ ?_ (fun hHeld => ?_)
        · (try dsimp only); first | exact hsx0 | exact hsx0.drew | exact hHeld | exact hsx0.call HB9.out | exact hHeld.alloc _ | exact hsx8 | exact hsx9
        clear hK K
        try simp only [Act.put, List.setIfInBounds_toArray, List.set_cons_zero, List.set_cons_succ]
        refine wpAnyH_ready (rs := [9]) (by kernel_rfl) (by simp) ?_
        refine AllReadyH.cons (o := ⟨some 39, _, _, _, _, _⟩) rfl (fun K hK => ?_) AllReadyH.nil
        go_simp
        refine (reforder_any _ _ s n k _ hs hn (by omega)).mono ?_
        rintro e w9 ⟨A9, c9, he9, hc9, ho9, hb9⟩
        obtain rfl : e = .returned (.slice A9 n c9) := he9
        have hb9' : Below wa.heap.size wa w9 := ((Qw.refl wa).drew.below _).trans hb9
        have hn9 := HNA.out.below hb9'
        have d3 : w9.cell? ⟨p, 3, none⟩ = some (.slice Ao k co) := by rw [cell_of_row _ _ _ _ _ _ hn9.cells]; rfl
        have d3a : ∀ o, (w9.alloc o).cell? ⟨p, 3, none⟩ = some (.slice Ao k co) := fun o => (World.cell?_alloc_lt _ _ _ hn9.lt).trans d3
        have HN9 := Lib.hid hn9; have HO9 := Lib.hid ho9; have HB9 := Lib.hid hb9'
        clear hn9 ho9 hb9 hb9'
        go_wp2_with fail
        refine hK.out _ _ ?_ (fun hHeld => ?_)
        · (try dsimp only); first | exact hsx0 | exact hsx0.drew | exact hHeld | exact hsx0.call HB9.out | exact hHeld.alloc _ | exact hsx8 | exact hsx9
        clear hK K
        try simp only [Act.put, List.setIfInBounds_toArray, List.set_cons_zero, List.set_cons_succ]
        refine wpAnyH_ready (rs := [10]) (by kernel_rfl) (by simp) ?_
        refine AllReadyH.cons (o := ⟨some 40, _, _, _, _, _⟩) rfl (fun K hK => ?_) AllReadyH.nil
        go_simp
        refine hK.out _ _ ?_ (fun hHeld => ?_)
        · (try dsimp only); first | exact hsx0 | exact hsx0.drew | exact hHeld | exact hsx0.call HB9.out | exact hHeld.alloc _ | exact hsx8 | exact hsx9
        clear hK K
        try simp only [Act.put, List.setIfInBounds_toArray, List.set_cons_zero, List.set_cons_succ]
        refine wpAnyH_ready (rs := [11]) (by kernel_rfl) (by simp) ?_
        refine AllReadyH.cons (o := ⟨some 41, _, _, _, _, _⟩) rfl (fun K hK => ?_) AllReadyH.nil
        refine step_pushL elB_ints (.tmp 34) (.tmp 40) (by rfl) (by rfl) base k _ (by rfl) HN9.out.ord (by rfl) (by rfl) (by intro u hu; simp at hu; subst hu; rfl) (by omega) (by decide) (Nat.le_trans HN9.out.pb (Nat.le_of_lt HN9.out.lt)) ?_
        intro v8 w8 hown8 hb8 hg8 hL8
        obtain ⟨A8, c8, rfl, hc8⟩ := own_form hown8
        have hp8 := (hg8.block p HN9.out.lt (fun e => row_ne HN9.out.ord HN9.out.cells (by decide) e.symm)).trans HN9.out.cells
        have e3 : w8.cell? ⟨p, 3, none⟩ = some (.slice Ao k co) := by rw [cell_of_row _ _ _ _ _ _ hp8]; rfl
        have f3 : w8.frozen? ⟨p, 3, none⟩ = false := by simp [World.frozen?, hp8]
        have HNB := Lib.hid (HN9.out.pushO (c := c9) hc9 (Nat.le_trans HNA.out.pb (Nat.le_of_lt HNA.out.lt)) HO9.out hown8 hg8)
        have hsx8 := (hsx0.call HB9.out).grow HN9.out.ord (by decide) hg8 hb8
        have hsx9 := hsx8.set HNA.out.pb hp8 3 (.slice A8 (k + 1) c8)
        clear hp8 hown8 hg8 hb8 hL8
        refine hK.out _ _ ?_ (fun hHeld => ?_)
        · (try dsimp only); first | exact hsx0 | exact hsx0.drew | exact hHeld | exact hsx0.call HB9.out | exact hHeld.alloc _ | exact hsx8 | exact hsx9
        clear hK K
        try simp only [Act.put, List.setIfInBounds_toArray, List.set_cons_zero, List.set_cons_succ]
        refine wpAnyH_take (i := 12) (oi := ⟨some 42, _, _, _, _, _⟩) (v := ?_) rfl (by kernel_rfl) (by kernel_rfl) (by kernel_rfl) (fun _ _ _ h => h) (Or.inl ⟨by rfl, ?_⟩) (by assumption) ?_
        rotate_left
        · (intro w hSw; (try dsimp only at hSw); go_simp; try with_reducible rfl)
        try simp only [Act.put, List.setIfInBounds_toArray, List.set_cons_zero, List.set_cons_succ]
        refine wpAnyH_take (i := 13) (oi := ⟨some 43, _, _, _, _, _⟩) (v := ?_) rfl (by kernel_rfl) (by kernel_rfl) (by kernel_rfl) (fun _ _ _ h => h) (Or.inl ⟨by rfl, ?_⟩) (by assumption) ?_
        rotate_left
        · (intro w hSw; (try dsimp only at hSw); go_simp; try with_reducible rfl)
        try simp only [Act.put, List.setIfInBounds_toArray, List.set_cons_zero, List.set_cons_succ]
        refine wpAnyH_ready (rs := [14]) (by kernel_rfl) (by simp) ?_
        refine AllReadyH.cons (o := ⟨none, _, _, _, _, _⟩) rfl (fun K hK => ?_) AllReadyH.nil
        go_simp
        refine hK.out _ _ ?_ (fun hHeld => ?_)
        · (try dsimp only); first | exact hsx0 | exact hsx0.drew | exact hHeld | exact hsx0.call HB9.out | exact hHeld.alloc _ | exact hsx8 | exact hsx9
        clear hK K
        try simp only [Act.put, List.setIfInBounds_toArray, List.set_cons_zero, List.set_cons_succ]
        refine wpAnyH_done (by kernel_rfl) ?_ _
        try go_wp2_with fail
        obtain ⟨wb, hwb⟩ : ∃ z, z = w8.setCell ⟨p, 3, none⟩ (.slice A8 (k + 1) c8) := ⟨_, rfl⟩
        rw [← hwb] at HNB hsx9 ⊢
        clear hwb e3 f3 hsx8 hHeld HN9 HO9 HB9
        have HSB := Lib.hid hsx9
        obtain ⟨Ak, ck, hvk, hck⟩ := own_form HNB.out.kno
        subst hvk
        have c4 : wb.cell? ⟨p, 4, none⟩ = some (.slice Ak k ck) := by rw [cell_of_row _ _ _ _ _ _ HNB.out.cells]; rfl
        have hmk := fun w => make_anss w n (by omega)
        have HAF : Hid (∀ wm, wm = (wb.alloc (.cells (Array.replicate n (.slice none 0 0)) 27)).drew → RNw wm base p n P B s (k + 1) k Ab cbt b _ (.slice Ak k ck) _ kb vl vy ∧ wm.cell? ⟨p, 4, none⟩ = some (.slice Ak k ck) ∧ wm.heap.size = wb.heap.size + 1) := Lib.hid (fun wm h => by
          have h1 := (HNB.out.below ((Below.refl wb.heap.size wb).alloc (Nat.le_refl _) (.cells (Array.replicate n (.slice none 0 0)) 27))).below (Qw.below (⟨1, rfl⟩ : Qw _ (World.drew _)) _)
          rw [← h] at h1
          exact ⟨h1, by rw [cell_of_row _ _ _ _ _ _ h1.cells]; rfl, by rw [h]; simp⟩)
        clear hsx9
        go_wp2_with fail
        refine wp_region_held_drew (S := fun w' => SX base w w.heap.size P B s w') (by kernel_rfl) ?_ (fun hHeld => ?_)
        · (try dsimp only); first | exact HSB.out | exact HSB.out.drew | exact hHeld | exact hHeld.alloc _ | exact hsx12 | exact hsx13
        refine wpAnyH_take (i := 0) (oi := ⟨some 44, _, _, _, _, _⟩) (v := ?_) rfl (by kernel_rfl) (by kernel_rfl) (by kernel_rfl) (fun _ _ _ h => h) (Or.inl ⟨by rfl, ?_⟩) (by assumption) ?_
        rotate_left
        · (intro w hSw; (try dsimp only at hSw); go_simp; try with_reducible rfl)
        try simp only [Act.put, List.setIfInBounds_toArray, List.set_cons_zero, List.set_cons_succ]
        refine wpAnyH_take (i := 1) (oi := ⟨some 45, _, _, _, _, _⟩) (v := ?_) rfl (by kernel_rfl) (by kernel_rfl) (by kernel_rfl) (fun _ _ _ h => h) (Or.inl ⟨by rfl, ?_⟩) (by assumption) ?_
        rotate_left
        · (intro w hSw; (try dsimp only at hSw); go_simp; try with_reducible rfl)
        try simp only [Act.put, List.setIfInBounds_toArray, List.set_cons_zero, List.set_cons_succ]
        refine wpAnyH_take (i := 2) (oi := ⟨some 46, _, _, _, _, _⟩) (v := ?_) rfl (by kernel_rfl) (by kernel_rfl) (by kernel_rfl) (fun _ _ _ h => h) (Or.inl ⟨by rfl, ?_⟩) (by assumption) ?_
        rotate_left
        · (intro w hSw; (try dsimp only at hSw); go_simp; try with_reducible rfl)
        try simp only [Act.put, List.setIfInBounds_toArray, List.set_cons_zero, List.set_cons_succ]
        refine wpAnyH_take (i := 3) (oi := ⟨some 47, _, _, _, _, _⟩) (v := ?_) rfl (by kernel_rfl) (by kernel_rfl) (by kernel_rfl) (fun _ _ _ h => h) (Or.inl ⟨by rfl, ?_⟩) (by assumption) ?_
        rotate_left
        · (intro w hSw; (try dsimp only at hSw); go_simp; try with_reducible rfl)
        try simp only [Act.put, List.setIfInBounds_toArray, List.set_cons_zero, List.set_cons_succ]
        refine wpAnyH_take (i := 5) (oi := ⟨some 49, _, _, _, _, _⟩) (v := ?_) rfl (by kernel_rfl) (by kernel_rfl) (by kernel_rfl) (fun _ _ _ h => h) (Or.inl ⟨by rfl, ?_⟩) (by assumption) ?_
        rotate_left
        · (intro w hSw; (try dsimp only at hSw); go_simp; try with_reducible rfl)
        try simp only [Act.put, List.setIfInBounds_toArray, List.set_cons_zero, List.set_cons_succ]
        refine wpAnyH_take (i := 6) (oi := ⟨some 50, _, _, _, _, _⟩) (v := ?_) rfl (by kernel_rfl) (by kernel_rfl) (by kernel_rfl) (fun _ _ _ h => h) (Or.inl ⟨by rfl, ?_⟩) (by assumption) ?_
        rotate_left
        · (intro w hSw; (try dsimp only at hSw); go_simp; try with_reducible rfl)
        try simp only [Act.put, List.setIfInBounds_toArray, List.set_cons_zero, List.set_cons_succ]
        refine wpAnyH_ready (rs := [4, 7]) (by kernel_rfl) (by simp) ?_
        refine AllReadyH.cons (o := ⟨some 48, _, _, _, _, _⟩) rfl (fun K hK => ?_) ?_
        · skip
          go_simp
          refine hK.out _ _ ?_ (fun hHeld => ?_)
          · (try dsimp only); first | exact HSB.out | exact HSB.out.drew | exact hHeld | exact hHeld.alloc _ | exact hsx12 | exact hsx13
          clear hK K
          try simp only [Act.put, List.setIfInBounds_toArray, List.set_cons_zero, List.set_cons_succ]
          refine wpAnyH_ready (rs := [7]) (by kernel_rfl) (by simp) ?_
          refine AllReadyH.cons (o := ⟨some 51, _, _, _, _, _⟩) rfl (fun K hK => ?_) AllReadyH.nil
          go_simp
          refine hK.out _ _ ?_ (fun hHeld => ?_)
          · (try dsimp only); first | exact HSB.out | exact HSB.out.drew | exact hHeld | exact hHeld.alloc _ | exact hsx12 | exact hsx13
          clear hK K
          try simp only [Act.put, List.setIfInBounds_toArray, List.set_cons_zero, List.set_cons_succ]
          obtain ⟨wm, hwm⟩ : ∃ z, z = (wb.alloc (.cells (Array.replicate n (.slice none 0 0)) 27)).drew := ⟨_, rfl⟩
          rw [← hwm] at hHeld ⊢
          obtain ⟨hnm, c4m, hszm⟩ := HAF.out _ hwm
          have c4n : ∀ o, (wm.alloc o).cell? ⟨p, 4, none⟩ = some (.slice Ak k ck) := fun o => (World.cell?_alloc_lt _ _ _ hnm.lt).trans c4m
          have hsm := hHeld
          have HGM : Hid (∀ (w10 : World) (r : Option Nat), wm.grownBy w10 r → (wb.alloc (.cells (Array.replicate n (.slice none 0 0)) 27)).grownBy w10 r) := Lib.hid (fun w10 r hg => by subst hwm; exact ⟨hg.os, hg.tape, hg.output, hg.size, hg.block⟩)
          have HNM := Lib.hid hnm
          clear hwm hszm hnm
          refine wpAnyH_ready (rs := [8]) (by kernel_rfl) (by simp) ?_
          refine AllReadyH.cons (o := ⟨some 52, _, _, _, _, _⟩) rfl (fun K hK => ?_) AllReadyH.nil
          go_simp
          refine hK.out _ _ ?_ (fun hHeld => ?_)
          · (try dsimp only); first | exact HSB.out | exact HSB.out.drew | exact hHeld | exact hHeld.alloc _ | exact hsx12 | exact hsx13
          clear hK K
          try simp only [Act.put, List.setIfInBounds_toArray, List.set_cons_zero, List.set_cons_succ]
          refine wpAnyH_ready (rs := [9]) (by kernel_rfl) (by simp) ?_
          refine AllReadyH.cons (o := ⟨some 53, _, _, _, _, _⟩) rfl (fun K hK => ?_) AllReadyH.nil
          refine step_pushL elB_ansss (.tmp 48) (.tmp 52) (by rfl) (by rfl) base k _ (by rfl) HNM.out.kno (by rfl) (by rfl) (by intro u hu; simp at hu; subst hu; rfl) (by omega) (by decide) (Nat.le_trans HNM.out.pb (Nat.le_of_lt HNM.out.lt)) ?_
          intro v10 w10 hown10 hb10 hg10 hL10
          obtain ⟨A10, c10, rfl, hc10⟩ := own_form hown10
          have HND := Lib.hid (HNB.out.pushK hn hown10 (HGM.out _ _ hg10))
          have hp10 := (hg10.block p HNM.out.lt (fun e => row_ne HNM.out.kno HNM.out.cells (by decide) e.symm)).trans HNM.out.cells
          have e4 : w10.cell? ⟨p, 4, none⟩ = some (.slice Ak k ck) := by rw [cell_of_row _ _ _ _ _ _ hp10]; rfl
          have f4 : w10.frozen? ⟨p, 4, none⟩ = false := by simp [World.frozen?, hp10]
          have hsx12 := hsm.grow HNM.out.kno (by decide) hg10 hb10
          have hsx13 := hsx12.set HNA.out.pb hp10 4 (.slice A10 (k + 1) c10)
          clear hp10 hown10 hg10 hb10 hL10
          refine hK.out _ _ ?_ (fun hHeld => ?_)
          · (try dsimp only); first | exact HSB.out | exact HSB.out.drew | exact hHeld | exact hHeld.alloc _ | exact hsx12 | exact hsx13
          clear hK K
          try simp only [Act.put, List.setIfInBounds_toArray, List.set_cons_zero, List.set_cons_succ]
          refine wpAnyH_take (i := 10) (oi := ⟨some 54, _, _, _, _, _⟩) (v := ?_) rfl (by kernel_rfl) (by kernel_rfl) (by kernel_rfl) (fun _ _ _ h => h) (Or.inl ⟨by rfl, ?_⟩) (by assumption) ?_
          rotate_left
          · (intro w hSw; (try dsimp only at hSw); go_simp; try with_reducible rfl)
          try simp only [Act.put, List.setIfInBounds_toArray, List.set_cons_zero, List.set_cons_succ]
          refine wpAnyH_take (i := 11) (oi := ⟨some 55, _, _, _, _, _⟩) (v := ?_) rfl (by kernel_rfl) (by kernel_rfl) (by kernel_rfl) (fun _ _ _ h => h) (Or.inl ⟨by rfl, ?_⟩) (by assumption) ?_
          rotate_left
          · (intro w hSw; (try dsimp only at hSw); go_simp; try with_reducible rfl)
          try simp only [Act.put, List.setIfInBounds_toArray, List.set_cons_zero, List.set_cons_succ]
          refine wpAnyH_ready (rs := [12]) (by kernel_rfl) (by simp) ?_
          refine AllReadyH.cons (o := ⟨none, _, _, _, _, _⟩) rfl (fun K hK => ?_) AllReadyH.nil
          go_simp
          refine hK.out _ _ ?_ (fun hHeld => ?_)
          · (try dsimp only); first | exact HSB.out | exact HSB.out.drew | exact hHeld | exact hHeld.alloc _ | exact hsx12 | exact hsx13
          clear hK K
          try simp only [Act.put, List.setIfInBounds_toArray, List.set_cons_zero, List.set_cons_succ]
          refine wpAnyH_done (by kernel_rfl) ?_ _
          go_wp2_with fail
          go_roundw
          case rel => exact ⟨k + 1, _, _, _, _, hkP, by go_num, HND.out, hsx13⟩
          case measure => simp [intOf]; omega
        refine AllReadyH.cons (o := ⟨some 51, _, _, _, _, _⟩) rfl (fun K hK => ?_) AllReadyH.nil
        go_simp
        refine hK.out _ _ ?_ (fun hHeld => ?_)
        · (try dsimp only); first | exact HSB.out | exact HSB.out.drew | exact hHeld | exact hHeld.alloc _ | exact hsx12 | exact hsx13
        clear hK K
        try simp only [Act.put, List.setIfInBounds_toArray, List.set_cons_zero, List.set_cons_succ]
        obtain ⟨wm, hwm⟩ : ∃ z, z = (wb.alloc (.cells (Array.replicate n (.slice none 0 0)) 27)).drew := ⟨_, rfl⟩
        rw [← hwm] at hHeld ⊢
        obtain ⟨hnm, c4m, hszm⟩ := HAF.out _ hwm
        have c4n : ∀ o, (wm.alloc o).cell? ⟨p, 4, none⟩ = some (.slice Ak k ck) := fun o => (World.cell?_alloc_lt _ _ _ hnm.lt).trans c4m
        have hsm := hHeld
        have HGM : Hid (∀ (w10 : World) (r : Option Nat), wm.grownBy w10 r → (wb.alloc (.cells (Array.replicate n (.slice none 0 0)) 27)).grownBy w10 r) := Lib.hid (fun w10 r hg => by subst hwm; exact ⟨hg.os, hg.tape, hg.output, hg.size, hg.block⟩)
        have HNM := Lib.hid hnm
        clear hwm hszm hnm
        refine wpAnyH_ready (rs := [4, 8]) (by kernel_rfl) (by simp) ?_
        refine AllReadyH.cons (o := ⟨some 48, _, _, _, _, _⟩) rfl (fun K hK => ?_) ?_
        · skip
          go_simp
          refine hK.out _ _ ?_ (fun hHeld => ?_)
          · (try dsimp only); first | exact HSB.out | exact HSB.out.drew | exact hHeld | exact hHeld.alloc _ | exact hsx12 | exact hsx13
          clear hK K
          try simp only [Act.put, List.setIfInBounds_toArray, List.set_cons_zero, List.set_cons_succ]
          refine wpAnyH_ready (rs := [8]) (by kernel_rfl) (by simp) ?_
          refine AllReadyH.cons (o := ⟨some 52, _, _, _, _, _⟩) rfl (fun K hK => ?_) AllReadyH.nil
          go_simp
          refine hK.out _ _ ?_ (fun hHeld => ?_)
          · (try dsimp only); first | exact HSB.out | exact HSB.out.drew | exact hHeld | exact hHeld.alloc _ | exact hsx12 | exact hsx13
          clear hK K
          try simp only [Act.put, List.setIfInBounds_toArray, List.set_cons_zero, List.set_cons_succ]
          refine wpAnyH_ready (rs := [9]) (by kernel_rfl) (by simp) ?_
          refine AllReadyH.cons (o := ⟨some 53, _, _, _, _, _⟩) rfl (fun K hK => ?_) AllReadyH.nil
          refine step_pushL elB_ansss (.tmp 48) (.tmp 52) (by rfl) (by rfl) base k _ (by rfl) HNM.out.kno (by rfl) (by rfl) (by intro u hu; simp at hu; subst hu; rfl) (by omega) (by decide) (Nat.le_trans HNM.out.pb (Nat.le_of_lt HNM.out.lt)) ?_
          intro v10 w10 hown10 hb10 hg10 hL10
          obtain ⟨A10, c10, rfl, hc10⟩ := own_form hown10
          have HND := Lib.hid (HNB.out.pushK hn hown10 (HGM.out _ _ hg10))
          have hp10 := (hg10.block p HNM.out.lt (fun e => row_ne HNM.out.kno HNM.out.cells (by decide) e.symm)).trans HNM.out.cells
          have e4 : w10.cell? ⟨p, 4, none⟩ = some (.slice Ak k ck) := by rw [cell_of_row _ _ _ _ _ _ hp10]; rfl
          have f4 : w10.frozen? ⟨p, 4, none⟩ = false := by simp [World.frozen?, hp10]
          have hsx12 := hsm.grow HNM.out.kno (by decide) hg10 hb10
          have hsx13 := hsx12.set HNA.out.pb hp10 4 (.slice A10 (k + 1) c10)
          clear hp10 hown10 hg10 hb10 hL10
          refine hK.out _ _ ?_ (fun hHeld => ?_)
          · (try dsimp only); first | exact HSB.out | exact HSB.out.drew | exact hHeld | exact hHeld.alloc _ | exact hsx12 | exact hsx13
          clear hK K
          try simp only [Act.put, List.setIfInBounds_toArray, List.set_cons_zero, List.set_cons_succ]
          refine wpAnyH_take (i := 10) (oi := ⟨some 54, _, _, _, _, _⟩) (v := ?_) rfl (by kernel_rfl) (by kernel_rfl) (by kernel_rfl) (fun _ _ _ h => h) (Or.inl ⟨by rfl, ?_⟩) (by assumption) ?_
          rotate_left
          · (intro w hSw; (try dsimp only at hSw); go_simp; try with_reducible rfl)
          try simp only [Act.put, List.setIfInBounds_toArray, List.set_cons_zero, List.set_cons_succ]
          refine wpAnyH_take (i := 11) (oi := ⟨some 55, _, _, _, _, _⟩) (v := ?_) rfl (by kernel_rfl) (by kernel_rfl) (by kernel_rfl) (fun _ _ _ h => h) (Or.inl ⟨by rfl, ?_⟩) (by assumption) ?_
          rotate_left
          · (intro w hSw; (try dsimp only at hSw); go_simp; try with_reducible rfl)
          try simp only [Act.put, List.setIfInBounds_toArray, List.set_cons_zero, List.set_cons_succ]
          refine wpAnyH_ready (rs := [12]) (by kernel_rfl) (by simp) ?_
          refine AllReadyH.cons (o := ⟨none, _, _, _, _, _⟩) rfl (fun K hK => ?_) AllReadyH.nil
          go_simp
          refine hK.out _ _ ?_ (fun hHeld => ?_)
          · (try dsimp only); first | exact HSB.out | exact HSB.out.drew | exact hHeld | exact hHeld.alloc _ | exact hsx12 | exact hsx13
          clear hK K
          try simp only [Act.put, List.setIfInBounds_toArray, List.set_cons_zero, List.set_cons_succ]
          refine wpAnyH_done (by kernel_rfl) ?_ _
          go_wp2_with fail
          go_roundw
          case rel => exact ⟨k + 1, _, _, _, _, hkP, by go_num, HND.out, hsx13⟩
          case measure => simp [intOf]; omega
        refine AllReadyH.cons (o := ⟨some 52, _, _, _, _, _⟩) rfl (fun K hK => ?_) AllReadyH.nil
        go_simp
        refine hK.out _ _ ?_ (fun hHeld => ?_)
        · (try dsimp only); first | exact HSB.out | exact HSB.out.drew | exact hHeld | exact hHeld.alloc _ | exact hsx12 | exact hsx13
        clear hK K
        try simp only [Act.put, List.setIfInBounds_toArray, List.set_cons_zero, List.set_cons_succ]
        refine wpAnyH_ready (rs := [4]) (by kernel_rfl) (by simp) ?_
        refine AllReadyH.cons (o := ⟨some 48, _, _, _, _, _⟩) rfl (fun K hK => ?_) AllReadyH.nil
        go_simp
        refine hK.out _ _ ?_ (fun hHeld => ?_)
        · (try dsimp only); first | exact HSB.out | exact HSB.out.drew | exact hHeld | exact hHeld.alloc _ | exact hsx12 | exact hsx13
        clear hK K
        try simp only [Act.put, List.setIfInBounds_toArray, List.set_cons_zero, List.set_cons_succ]
        refine wpAnyH_ready (rs := [9]) (by kernel_rfl) (by simp) ?_
        refine AllReadyH.cons (o := ⟨some 53, _, _, _, _, _⟩) rfl (fun K hK => ?_) AllReadyH.nil
        refine step_pushL elB_ansss (.tmp 48) (.tmp 52) (by rfl) (by rfl) base k _ (by rfl) HNM.out.kno (by rfl) (by rfl) (by intro u hu; simp at hu; subst hu; rfl) (by omega) (by decide) (Nat.le_trans HNM.out.pb (Nat.le_of_lt HNM.out.lt)) ?_
        intro v10 w10 hown10 hb10 hg10 hL10
        obtain ⟨A10, c10, rfl, hc10⟩ := own_form hown10
        have HND := Lib.hid (HNB.out.pushK hn hown10 (HGM.out _ _ hg10))
        have hp10 := (hg10.block p HNM.out.lt (fun e => row_ne HNM.out.kno HNM.out.cells (by decide) e.symm)).trans HNM.out.cells
        have e4 : w10.cell? ⟨p, 4, none⟩ = some (.slice Ak k ck) := by rw [cell_of_row _ _ _ _ _ _ hp10]; rfl
        have f4 : w10.frozen? ⟨p, 4, none⟩ = false := by simp [World.frozen?, hp10]
        have hsx12 := hsm.grow HNM.out.kno (by decide) hg10 hb10
        have hsx13 := hsx12.set HNA.out.pb hp10 4 (.slice A10 (k + 1) c10)
        clear hp10 hown10 hg10 hb10 hL10
        refine hK.out _ _ ?_ (fun hHeld => ?_)
        · (try dsimp only); first | exact HSB.out | exact HSB.out.drew | exact hHeld | exact hHeld.alloc _ | exact hsx12 | exact hsx13
        clear hK K
        try simp only [Act.put, List.setIfInBounds_toArray, List.set_cons_zero, List.set_cons_succ]
        refine wpAnyH_take (i := 10) (oi := ⟨some 54, _, _, _, _, _⟩) (v := ?_) rfl (by kernel_rfl) (by kernel_rfl) (by kernel_rfl) (fun _ _ _ h => h) (Or.inl ⟨by rfl, ?_⟩) (by assumption) ?_
        rotate_left
        · (intro w hSw; (try dsimp only at hSw); go_simp; try with_reducible rfl)
        try simp only [Act.put, List.setIfInBounds_toArray, List.set_cons_zero, List.set_cons_succ]
        refine wpAnyH_take (i := 11) (oi := ⟨some 55, _, _, _, _, _⟩) (v := ?_) rfl (by kernel_rfl) (by kernel_rfl) (by kernel_rfl) (fun _ _ _ h => h) (Or.inl ⟨by rfl, ?_⟩) (by assumption) ?_
        rotate_left
        · (intro w hSw; (try dsimp only at hSw); go_simp; try with_reducible rfl)
        try simp only [Act.put, List.setIfInBounds_toArray, List.set_cons_zero, List.set_cons_succ]
        refine wpAnyH_ready (rs := [12]) (by kernel_rfl) (by simp) ?_
        refine AllReadyH.cons (o := ⟨none, _, _, _, _, _⟩) rfl (fun K hK => ?_) AllReadyH.nil
        go_simp
        refine hK.out _ _ ?_ (fun hHeld => ?_)
        · (try dsimp only); first | exact HSB.out | exact HSB.out.drew | exact hHeld | exact hHeld.alloc _ | exact hsx12 | exact hsx13
        clear hK K
        try simp only [Act.put, List.setIfInBounds_toArray, List.set_cons_zero, List.set_cons_succ]
        refine wpAnyH_done (by kernel_rfl) ?_ _
        go_wp2_with fail
        go_roundw
        case rel => exact ⟨k + 1, _, _, _, _, hkP, by go_num, HND.out, hsx13⟩
        case measure => simp [intOf]; omega
      refine AllReadyH.cons (o := ⟨some 39, _, _, _, _, _⟩) rfl (fun K hK => ?_) AllReadyH.nil
      go_simp
      refine (reforder_any _ _ s n k _ hs hn (by omega)).mono ?_
      rintro e w9 ⟨A9, c9, he9, hc9, ho9, hb9⟩
      obtain rfl : e = .returned (.slice A9 n c9) := he9
      have hb9' : Below wa.heap.size wa w9 := ((Qw.refl wa).drew.below _).trans hb9
      have hn9 := HNA.out.below hb9'
      have d3 : w9.cell? ⟨p, 3, none⟩ = some (.slice Ao k co) := by rw [cell_of_row _ _ _ _ _ _ hn9.cells]; rfl
      have d3a : ∀ o, (w9.alloc o).cell? ⟨p, 3, none⟩ = some (.slice Ao k co) := fun o => (World.cell?_alloc_lt _ _ _ hn9.lt).trans d3
      have HN9 := Lib.hid hn9; have HO9 := Lib.hid ho9; have HB9 := Lib.hid hb9'
      clear hn9 ho9 hb9 hb9'
      go_wp2_with fail
      refine hK.out _ _ ?_ (fun hHeld => ?_)
      · (try dsimp only); first | exact hsx0 | exact hsx0.drew | exact hHeld | exact hsx0.call HB9.out | exact hHeld.alloc _ | exact hsx8 | exact hsx9
      clear hK K
      try simp only [Act.put, List.setIfInBounds_toArray, List.set_cons_zero, List.set_cons_succ]
      refine wpAnyH_ready (rs := [4, 10]) (by kernel_rfl) (by simp) ?_
      refine AllReadyH.cons (o := ⟨some 34, _, _, _, _, _⟩) rfl (fun K hK => ?_) ?_
      · skip
        go_simp
        refine hK.out _ _ ?_ (fun hHeld => ?_)
        · (try dsimp only); first | exact hsx0 | exact hsx0.drew | exact hHeld | exact hsx0.call HB9.out | exact hHeld.alloc _ | exact hsx8 | exact hsx9
        clear hK K
        try simp only [Act.put, List.setIfInBounds_toArray, List.set_cons_zero, List.set_cons_succ]
        refine wpAnyH_ready (rs := [10]) (by kernel_rfl) (by simp) ?_
        refine AllReadyH.cons (o := ⟨some 40, _, _, _, _, _⟩) rfl (fun K hK => ?_) AllReadyH.nil
        go_simp
        refine hK.out _ _ ?_ (fun hHeld => ?_)
        · (try dsimp only); first | exact hsx0 | exact hsx0.drew | exact hHeld | exact hsx0.call HB9.out | exact hHeld.alloc _ | exact hsx8 | exact hsx9
        clear hK K
        try simp only [Act.put, List.setIfInBounds_toArray, List.set_cons_zero, List.set_cons_succ]
        refine wpAnyH_ready (rs := [11]) (by kernel_rfl) (by simp) ?_
        refine AllReadyH.cons (o := ⟨some 41, _, _, _, _, _⟩) rfl (fun K hK => ?_) AllReadyH.nil
        refine step_pushL elB_ints (.tmp 34) (.tmp 40) (by rfl) (by rfl) base k _ (by rfl) HN9.out.ord (by rfl) (by rfl) (by intro u hu; simp at hu; subst hu; rfl) (by omega) (by decide) (Nat.le_trans HN9.out.pb (Nat.le_of_lt HN9.out.lt)) ?_
        intro v8 w8 hown8 hb8 hg8 hL8
        obtain ⟨A8, c8, rfl, hc8⟩ := own_form hown8
        have hp8 := (hg8.block p HN9.out.lt (fun e => row_ne HN9.out.ord HN9.out.cells (by decide) e.symm)).trans HN9.out.cells
        have e3 : w8.cell? ⟨p, 3, none⟩ = some (.slice Ao k co) := by rw [cell_of_row _ _ _ _ _ _ hp8]; rfl
        have f3 : w8.frozen? ⟨p, 3, none⟩ = false := by simp [World.frozen?, hp8]
        have HNB := Lib.hid (HN9.out.pushO (c := c9) hc9 (Nat.le_trans HNA.out.pb (Nat.le_of_lt HNA.out.lt)) HO9.out hown8 hg8)
        have hsx8 := (hsx0.call HB9.out).grow HN9.out.ord (by decide) hg8 hb8
        have hsx9 := hsx8.set HNA.out.pb hp8 3 (.slice A8 (k + 1) c8)
        clear hp8 hown8 hg8 hb8 hL8
        refine hK.out _ _ ?_ (fun hHeld => ?_)
        · (try dsimp only); first | exact hsx0 | exact hsx0.drew | exact hHeld | exact hsx0.call HB9.out | exact hHeld.alloc _ | exact hsx8 | exact hsx9
        clear hK K
        try simp only [Act.put, List.setIfInBounds_toArray, List.set_cons_zero, List.set_cons_succ]
        refine wpAnyH_take (i := 12) (oi := ⟨some 42, _, _, _, _, _⟩) (v := ?_) rfl (by kernel_rfl) (by kernel_rfl) (by kernel_rfl) (fun _ _ _ h => h) (Or.inl ⟨by rfl, ?_⟩) (by assumption) ?_
        rotate_left
        · (intro w hSw; (try dsimp only at hSw); go_simp; try with_reducible rfl)
        try simp only [Act.put, List.setIfInBounds_toArray, List.set_cons_zero, List.set_cons_succ]
        refine wpAnyH_take (i := 13) (oi := ⟨some 43, _, _, _, _, _⟩) (v := ?_) rfl (by kernel_rfl) (by kernel_rfl) (by kernel_rfl) (fun _ _ _ h => h) (Or.inl ⟨by rfl, ?_⟩) (by assumption) ?_
        rotate_left
        · (intro w hSw; (try dsimp only at hSw); go_simp; try with_reducible rfl)
        try simp only [Act.put, List.setIfInBounds_toArray, List.set_cons_zero, List.set_cons_succ]
        refine wpAnyH_ready (rs := [14]) (by kernel_rfl) (by simp) ?_
        refine AllReadyH.cons (o := ⟨none, _, _, _, _, _⟩) rfl (fun K hK => ?_) AllReadyH.nil
        go_simp
        refine hK.out _ _ ?_ (fun hHeld => ?_)
        · (try dsimp only); first | exact hsx0 | exact hsx0.drew | exact hHeld | exact hsx0.call HB9.out | exact hHeld.alloc _ | exact hsx8 | exact hsx9
        clear hK K
        try simp only [Act.put, List.setIfInBounds_toArray, List.set_cons_zero, List.set_cons_succ]
        refine wpAnyH_done (by kernel_rfl) ?_ _
        try go_wp2_with fail
        obtain ⟨wb, hwb⟩ : ∃ z, z = w8.setCell ⟨p, 3, none⟩ (.slice A8 (k + 1) c8) := ⟨_, rfl⟩
        rw [← hwb] at HNB hsx9 ⊢
        clear hwb e3 f3 hsx8 hHeld HN9 HO9 HB9
        have HSB := Lib.hid hsx9
        obtain ⟨Ak, ck, hvk, hck⟩ := own_form HNB.out.kno
        subst hvk
        have c4 : wb.cell? ⟨p, 4, none⟩ = some (.slice Ak k ck) := by rw [cell_of_row _ _ _ _ _ _ HNB.out.cells]; rfl
        have hmk := fun w => make_anss w n (by omega)
        have HAF : Hid (∀ wm, wm = (wb.alloc (.cells (Array.replicate n (.slice none 0 0)) 27)).drew → RNw wm base p n P B s (k + 1) k Ab cbt b _ (.slice Ak k ck) _ kb vl vy ∧ wm.cell? ⟨p, 4, none⟩ = some (.slice Ak k ck) ∧ wm.heap.size = wb.heap.size + 1) := Lib.hid (fun wm h => by
          have h1 := (HNB.out.below ((Below.refl wb.heap.size wb).alloc (Nat.le_refl _) (.cells (Array.replicate n (.slice none 0 0)) 27))).below (Qw.below (⟨1, rfl⟩ : Qw _ (World.drew _)) _)
          rw [← h] at h1
          exact ⟨h1, by rw [cell_of_row _ _ _ _ _ _ h1.cells]; rfl, by rw [h]; simp⟩)
        clear hsx9
        go_wp2_with fail
        refine wp_region_held_drew (S := fun w' => SX base w w.heap.size P B s w') (by kernel_rfl) ?_ (fun hHeld => ?_)
        · (try dsimp only); first | exact HSB.out | exact HSB.out.drew | exact hHeld | exact hHeld.alloc _ | exact hsx12 | exact hsx13
        refine wpAnyH_take (i := 0) (oi := ⟨some 44, _, _, _, _, _⟩) (v := ?_) rfl (by kernel_rfl) (by kernel_rfl) (by kernel_rfl) (fun _ _ _ h => h) (Or.inl ⟨by rfl, ?_⟩) (by assumption) ?_
        rotate_left
        · (intro w hSw; (try dsimp only at hSw); go_simp; try with_reducible rfl)
        try simp only [Act.put, List.setIfInBounds_toArray, List.set_cons_zero, List.set_cons_succ]
        refine wpAnyH_take (i := 1) (oi := ⟨some 45, _, _, _, _, _⟩) (v := ?_) rfl (by kernel_rfl) (by kernel_rfl) (by kernel_rfl) (fun _ _ _ h => h) (Or.inl ⟨by rfl, ?_⟩) (by assumption) ?_
        rotate_left
        · (intro w hSw; (try dsimp only at hSw); go_simp; try with_reducible rfl)
        try simp only [Act.put, List.setIfInBounds_toArray, List.set_cons_zero, List.set_cons_succ]
        refine wpAnyH_take (i := 2) (oi := ⟨some 46, _, _, _, _, _⟩) (v := ?_) rfl (by kernel_rfl) (by kernel_rfl) (by kernel_rfl) (fun _ _ _ h => h) (Or.inl ⟨by rfl, ?_⟩) (by assumption) ?_
        rotate_left
        · (intro w hSw; (try dsimp only at hSw); go_simp; try with_reducible rfl)
        try simp only [Act.put, List.setIfInBounds_toArray, List.set_cons_zero, List.set_cons_succ]
        refine wpAnyH_take (i := 3) (oi := ⟨some 47, _, _, _, _, _⟩) (v := ?_) rfl (by kernel_rfl) (by kernel_rfl) (by kernel_rfl) (fun _ _ _ h => h) (Or.inl ⟨by rfl, ?_⟩) (by assumption) ?_
        rotate_left
        · (intro w hSw; (try dsimp only at hSw); go_simp; try with_reducible rfl)
        try simp only [Act.put, List.setIfInBounds_toArray, List.set_cons_zero, List.set_cons_succ]
        refine wpAnyH_take (i := 5) (oi := ⟨some 49, _, _, _, _, _⟩) (v := ?_) rfl (by kernel_rfl) (by kernel_rfl) (by kernel_rfl) (fun _ _ _ h => h) (Or.inl ⟨by rfl, ?_⟩) (by assumption) ?_
        rotate_left
        · (intro w hSw; (try dsimp only at hSw); go_simp; try with_reducible rfl)
        try simp only [Act.put, List.setIfInBounds_toArray, List.set_cons_zero, List.set_cons_succ]
        refine wpAnyH_take (i := 6) (oi := ⟨some 50, _, _, _, _, _⟩) (v := ?_) rfl (by kernel_rfl) (by kernel_rfl) (by kernel_rfl) (fun _ _ _ h => h) (Or.inl ⟨by rfl, ?_⟩) (by assumption) ?_
        rotate_left
        · (intro w hSw; (try dsimp only at hSw); go_simp; try with_reducible rfl)
        try simp only [Act.put, List.setIfInBounds_toArray, List.set_cons_zero, List.set_cons_succ]
        refine wpAnyH_ready (rs := [4, 7]) (by kernel_rfl) (by simp) ?_
        refine AllReadyH.cons (o := ⟨some 48, _, _, _, _, _⟩) rfl (fun K hK => ?_) ?_
        · skip
          go_simp
          refine hK.out _ _ ?_ (fun hHeld => ?_)
          · (try dsimp only); first | exact HSB.out | exact HSB.out.drew | exact hHeld | exact hHeld.alloc _ | exact hsx12 | exact hsx13
          clear hK K
          try simp only [Act.put, List.setIfInBounds_toArray, List.set_cons_zero, List.set_cons_succ]
          refine wpAnyH_ready (rs := [7]) (by kernel_rfl) (by simp) ?_
          refine AllReadyH.cons (o := ⟨some 51, _, _, _, _, _⟩) rfl (fun K hK => ?_) AllReadyH.nil
          go_simp
          refine hK.out _ _ ?_ (fun hHeld => ?_)
          · (try dsimp only); first | exact HSB.out | exact HSB.out.drew | exact hHeld | exact hHeld.alloc _ | exact hsx12 | exact hsx13
          clear hK K
          try simp only [Act.put, List.setIfInBounds_toArray, List.set_cons_zero, List.set_cons_succ]
          obtain ⟨wm, hwm⟩ : ∃ z, z = (wb.alloc (.cells (Array.replicate n (.slice none 0 0)) 27)).drew := ⟨_, rfl⟩
          rw [← hwm] at hHeld ⊢
          obtain ⟨hnm, c4m, hszm⟩ := HAF.out _ hwm
          have c4n : ∀ o, (wm.alloc o).cell? ⟨p, 4, none⟩ = some (.slice Ak k ck) := fun o => (World.cell?_alloc_lt _ _ _ hnm.lt).trans c4m
          have hsm := hHeld
          have HGM : Hid (∀ (w10 : World) (r : Option Nat), wm.grownBy w10 r → (wb.alloc (.cells (Array.replicate n (.slice none 0 0)) 27)).grownBy w10 r) := Lib.hid (fun w10 r hg => by subst hwm; exact ⟨hg.os, hg.tape, hg.output, hg.size, hg.block⟩)
          have HNM := Lib.hid hnm
          clear hwm hszm hnm
          refine wpAnyH_ready (rs := [8]) (by kernel_rfl) (by simp) ?_
          refine AllReadyH.cons (o := ⟨some 52, _, _, _, _, _⟩) rfl (fun K hK => ?_) AllReadyH.nil
          go_simp
          refine hK.out _ _ ?_ (fun hHeld => ?_)
          · (try dsimp only); first | exact HSB.out | exact HSB.out.drew | exact hHeld | exact hHeld.alloc _ | exact hsx12 | exact hsx13
          clear hK K
          try simp only [Act.put, List.setIfInBounds_toArray, List.set_cons_zero, List.set_cons_succ]
          refine wpAnyH_ready (rs := [9]) (by kernel_rfl) (by simp) ?_
          refine AllReadyH.cons (o := ⟨some 53, _, _, _, _, _⟩) rfl (fun K hK => ?_) AllReadyH.nil
          refine step_pushL elB_ansss (.tmp 48) (.tmp 52) (by rfl) (by rfl) base k _ (by rfl) HNM.out.kno (by rfl) (by rfl) (by intro u hu; simp at hu; subst hu; rfl) (by omega) (by decide) (Nat.le_trans HNM.out.pb (Nat.le_of_lt HNM.out.lt)) ?_
          intro v10 w10 hown10 hb10 hg10 hL10
          obtain ⟨A10, c10, rfl, hc10⟩ := own_form hown10
          have HND := Lib.hid (HNB.out.pushK hn hown10 (HGM.out _ _ hg10))
          have hp10 := (hg10.block p HNM.out.lt (fun e => row_ne HNM.out.kno HNM.out.cells (by decide) e.symm)).trans HNM.out.cells
          have e4 : w10.cell? ⟨p, 4, none⟩ = some (.slice Ak k ck) := by rw [cell_of_row _ _ _ _ _ _ hp10]; rfl
          have f4 : w10.frozen? ⟨p, 4, none⟩ = false := by simp [World.frozen?, hp10]
          have hsx12 := hsm.grow HNM.out.kno (by decide) hg10 hb10
          have hsx13 := hsx12.set HNA.out.pb hp10 4 (.slice A10 (k + 1) c10)
          clear hp10 hown10 hg10 hb10 hL10
          refine hK.out _ _ ?_ (fun hHeld => ?_)
          · (try dsimp only); first | exact HSB.out | exact HSB.out.drew | exact hHeld | exact hHeld.alloc _ | exact hsx12 | exact hsx13
          clear hK K
          try simp only [Act.put, List.setIfInBounds_toArray, List.set_cons_zero, List.set_cons_succ]
          refine wpAnyH_take (i := 10) (oi := ⟨some 54, _, _, _, _, _⟩) (v := ?_) rfl (by kernel_rfl) (by kernel_rfl) (by kernel_rfl) (fun _ _ _ h => h) (Or.inl ⟨by rfl, ?_⟩) (by assumption) ?_
          rotate_left
          · (intro w hSw; (try dsimp only at hSw); go_simp; try with_reducible rfl)
          try simp only [Act.put, List.setIfInBounds_toArray, List.set_cons_zero, List.set_cons_succ]
          refine wpAnyH_take (i := 11) (oi := ⟨some 55, _, _, _, _, _⟩) (v := ?_) rfl (by kernel_rfl) (by kernel_rfl) (by kernel_rfl) (fun _ _ _ h => h) (Or.inl ⟨by rfl, ?_⟩) (by assumption) ?_
          rotate_left
          · (intro w hSw; (try dsimp only at hSw); go_simp; try with_reducible rfl)
          try simp only [Act.put, List.setIfInBounds_toArray, List.set_cons_zero, List.set_cons_succ]
          refine wpAnyH_ready (rs := [12]) (by kernel_rfl) (by simp) ?_
          refine AllReadyH.cons (o := ⟨none, _, _, _, _, _⟩) rfl (fun K hK => ?_) AllReadyH.nil
          go_simp
          refine hK.out _ _ ?_ (fun hHeld => ?_)
          · (try dsimp only); first | exact HSB.out | exact HSB.out.drew | exact hHeld | exact hHeld.alloc _ | exact hsx12 | exact hsx13
          clear hK K
          try simp only [Act.put, List.setIfInBounds_toArray, List.set_cons_zero, List.set_cons_succ]
          refine wpAnyH_done (by kernel_rfl) ?_ _
          go_wp2_with fail
          go_roundw
          case rel => exact ⟨k + 1, _, _, _, _, hkP, by go_num, HND.out, hsx13⟩
          case measure => simp [intOf]; omega
        refine AllReadyH.cons (o := ⟨some 51, _, _, _, _, _⟩) rfl (fun K hK => ?_) AllReadyH.nil
        go_simp
        refine hK.out _ _ ?_ (fun hHeld => ?_)
        · (try dsimp only); first | exact HSB.out | exact HSB.out.drew | exact hHeld | exact hHeld.alloc _ | exact hsx12 | exact hsx13
        clear hK K
        try simp only [Act.put, List.setIfInBounds_toArray, List.set_cons_zero, List.set_cons_succ]
        obtain ⟨wm, hwm⟩ : ∃ z, z = (wb.alloc (.cells (Array.replicate n (.slice none 0 0)) 27)).drew := ⟨_, rfl⟩
        rw [← hwm] at hHeld ⊢
        obtain ⟨hnm, c4m, hszm⟩ := HAF.out _ hwm
        have c4n : ∀ o, (wm.alloc o).cell? ⟨p, 4, none⟩ = some (.slice Ak k ck) := fun o => (World.cell?_alloc_lt _ _ _ hnm.lt).trans c4m
        have hsm := hHeld
        have HGM : Hid (∀ (w10 : World) (r : Option Nat), wm.grownBy w10 r → (wb.alloc (.cells (Array.replicate n (.slice none 0 0)) 27)).grownBy w10 r) := Lib.hid (fun w10 r hg => by subst hwm; exact ⟨hg.os, hg.tape, hg.output, hg.size, hg.block⟩)
        have HNM := Lib.hid hnm
        clear hwm hszm hnm
        refine wpAnyH_ready (rs := [4, 8]) (by kernel_rfl) (by simp) ?_
        refine AllReadyH.cons (o := ⟨some 48, _, _, _, _, _⟩) rfl (fun K hK => ?_) ?_
        · skip
          go_simp
          refine hK.out _ _ ?_ (fun hHeld => ?_)
          · (try dsimp only); first | exact HSB.out | exact HSB.out.drew | exact hHeld | exact hHeld.alloc _ | exact hsx12 | exact hsx13
          clear hK K
          try simp only [Act.put, List.setIfInBounds_toArray, List.set_cons_zero, List.set_cons_succ]
          refine wpAnyH_ready (rs := [8]) (by kernel_rfl) (by simp) ?_
          refine AllReadyH.cons (o := ⟨some 52, _, _, _, _, _⟩) rfl (fun K hK => ?_) AllReadyH.nil
          go_simp
          refine hK.out _ _ ?_ (fun hHeld => ?_)
          · (try dsimp only); first | exact HSB.out | exact HSB.out.drew | exact hHeld | exact hHeld.alloc _ | exact hsx12 | exact hsx13
          clear hK K
          try simp only [Act.put, List.setIfInBounds_toArray, List.set_cons_zero, List.set_cons_succ]
          refine wpAnyH_ready (rs := [9]) (by kernel_rfl) (by simp) ?_
          refine AllReadyH.cons (o := ⟨some 53, _, _, _, _, _⟩) rfl (fun K hK => ?_) AllReadyH.nil
          refine step_pushL elB_ansss (.tmp 48) (.tmp 52) (by rfl) (by rfl) base k _ (by rfl) HNM.out.kno (by rfl) (by rfl) (by intro u hu; simp at hu; subst hu; rfl) (by omega) (by decide) (Nat.le_trans HNM.out.pb (Nat.le_of_lt HNM.out.lt)) ?_
          intro v10 w10 hown10 hb10 hg10 hL10
          obtain ⟨A10, c10, rfl, hc10⟩ := own_form hown10
          have HND := Lib.hid (HNB.out.pushK hn hown10 (HGM.out _ _ hg10))
          have hp10 := (hg10.block p HNM.out.lt (fun e => row_ne HNM.out.kno HNM.out.cells (by decide) e.symm)).trans HNM.out.cells
          have e4 : w10.cell? ⟨p, 4, none⟩ = some (.slice Ak k ck) := by rw [cell_of_row _ _ _ _ _ _ hp10]; rfl
          have f4 : w10.frozen? ⟨p, 4, none⟩ = false := by simp [World.frozen?, hp10]
          have hsx12 := hsm.grow HNM.out.kno (by decide) hg10 hb10
          have hsx13 := hsx12.set HNA.out.pb hp10 4 (.slice A10 (k + 1) c10)
          clear hp10 hown10 hg10 hb10 hL10
          refine hK.out _ _ ?_ (fun hHeld => ?_)
          · (try dsimp only); first | exact HSB.out | exact HSB.out.drew | exact hHeld | exact hHeld.alloc _ | exact hsx12 | exact hsx13
          clear hK K
          try simp only [Act.put, List.setIfInBounds_toArray, List.set_cons_zero, List.set_cons_succ]
          refine wpAnyH_take (i := 10) (oi := ⟨some 54, _, _, _, _, _⟩) (v := ?_) rfl (by kernel_rfl) (by kernel_rfl) (by kernel_rfl) (fun _ _ _ h => h) (Or.inl ⟨by rfl, ?_⟩) (by assumption) ?_
          rotate_left
          · (intro w hSw; (try dsimp only at hSw); go_simp; try with_reducible rfl)
          try simp only [Act.put, List.setIfInBounds_toArray, List.set_cons_zero, List.set_cons_succ]
          refine wpAnyH_take (i := 11) (oi := ⟨some 55, _, _, _, _, _⟩) (v := ?_) rfl (by kernel_rfl) (by kernel_rfl) (by kernel_rfl) (fun _ _ _ h => h) (Or.inl ⟨by rfl, ?_⟩) (by assumption) ?_
          rotate_left
          · (intro w hSw; (try dsimp only at hSw); go_simp; try with_reducible rfl)
          try simp only [Act.put, List.setIfInBounds_toArray, List.set_cons_zero, List.set_cons_succ]
          refine wpAnyH_ready (rs := [12]) (by kernel_rfl) (by simp) ?_
          refine AllReadyH.cons (o := ⟨none, _, _, _, _, _⟩) rfl (fun K hK => ?_) AllReadyH.nil
          go_simp
          refine hK.out _ _ ?_ (fun hHeld => ?_)
          · (try dsimp only); first | exact HSB.out | exact HSB.out.drew | exact hHeld | exact hHeld.alloc _ | exact hsx12 | exact hsx13
          clear hK K
          try simp only [Act.put, List.setIfInBounds_toArray, List.set_cons_zero, List.set_cons_succ]
          refine wpAnyH_done (by kernel_rfl) ?_ _
          go_wp2_with fail
          go_roundw
          case rel => exact ⟨k + 1, _, _, _, _, hkP, by go_num, HND.out, hsx13⟩
          case measure => simp [intOf]; omega
        refine AllReadyH.cons (o := ⟨some 52, _, _, _, _, _⟩) rfl (fun K hK => ?_) AllReadyH.nil
        go_simp
        refine hK.out _ _ ?_ (fun hHeld => ?_)
        · (try dsimp only); first | exact HSB.out | exact HSB.out.drew | exact hHeld | exact hHeld.alloc _ | exact hsx12 | exact hsx13
        clear hK K
        try simp only [Act.put, List.setIfInBounds_toArray, List.set_cons_zero, List.set_cons_succ]
        refine wpAnyH_ready (rs := [4]) (by kernel_rfl) (by simp) ?_
        refine AllReadyH.cons (o := ⟨some 48, _, _, _, _, _⟩) rfl (fun K hK => ?_) AllReadyH.nil
        go_simp
        refine hK.out _ _ ?_ (fun hHeld => ?_)
        · (try dsimp only); first | exact HSB.out | exact HSB.out.drew | exact hHeld | exact hHeld.alloc _ | exact hsx12 | exact hsx13
        clear hK K
        try simp only [Act.put, List.setIfInBounds_toArray, List.set_cons_zero, List.set_cons_succ]
        refine wpAnyH_ready (rs := [9]) (by kernel_rfl) (by simp) ?_
        refine AllReadyH.cons (o := ⟨some 53, _, _, _, _, _⟩) rfl (fun K hK => ?_) AllReadyH.nil
        refine step_pushL elB_ansss (.tmp 48) (.tmp 52) (by rfl) (by rfl) base k _ (by rfl) HNM.out.kno (by rfl) (by rfl) (by intro u hu; simp at hu; subst hu; rfl) (by omega) (by decide) (Nat.le_trans HNM.out.pb (Nat.le_of_lt HNM.out.lt)) ?_
        intro v10 w10 hown10 hb10 hg10 hL10
        obtain ⟨A10, c10, rfl, hc10⟩ := own_form hown10
        have HND := Lib.hid (HNB.out.pushK hn hown10 (HGM.out _ _ hg10))
        have hp10 := (hg10.block p HNM.out.lt (fun e => row_ne HNM.out.kno HNM.out.cells (by decide) e.symm)).trans HNM.out.cells
        have e4 : w10.cell? ⟨p, 4, none⟩ = some (.slice Ak k ck) := by rw [cell_of_row _ _ _ _ _ _ hp10]; rfl
        have f4 : w10.frozen? ⟨p, 4, none⟩ = false := by simp [World.frozen?, hp10]
        have hsx12 := hsm.grow HNM.out.kno (by decide) hg10 hb10
        have hsx13 := hsx12.set HNA.out.pb hp10 4 (.slice A10 (k + 1) c10)
        clear hp10 hown10 hg10 hb10 hL10
        refine hK.out _ _ ?_ (fun hHeld => ?_)
        · (try dsimp only); first | exact HSB.out | exact HSB.out.drew | exact hHeld | exact hHeld.alloc _ | exact hsx12 | exact hsx13
        clear hK K
        try simp only [Act.put, List.setIfInBounds_toArray, List.set_cons_zero, List.set_cons_succ]
        refine wpAnyH_take (i := 10) (oi := ⟨some 54, _, _, _, _, _⟩) (v := ?_) rfl (by kernel_rfl) (by kernel_rfl) (by kernel_rfl) (fun _ _ _ h => h) (Or.inl ⟨by rfl, ?_⟩) (by assumption) ?_
        rotate_left
        · (intro w hSw; (try dsimp only at hSw); go_simp; try with_reducible rfl)
        try simp only [Act.put, List.setIfInBounds_toArray, List.set_cons_zero, List.set_cons_succ]
        refine wpAnyH_take (i := 11) (oi := ⟨some 55, _, _, _, _, _⟩) (v := ?_) rfl (by kernel_rfl) (by kernel_rfl) (by kernel_rfl) (fun _ _ _ h => h) (Or.inl ⟨by rfl, ?_⟩) (by assumption) ?_
        rotate_left
        · (intro w hSw; (try dsimp only at hSw); go_simp; try with_reducible rfl)
        try simp only [Act.put, List.setIfInBounds_toArray, List.set_cons_zero, List.set_cons_succ]
        refine wpAnyH_ready (rs := [12]) (by kernel_rfl) (by simp) ?_
        refine AllReadyH.cons (o := ⟨none, _, _, _, _, _⟩) rfl (fun K hK => ?_) AllReadyH.nil
        go_simp
        refine hK.out _ _ ?_ (fun hHeld => ?_)
        · (try dsimp only); first | exact HSB.out | exact HSB.out.drew | exact hHeld | exact hHeld.alloc _ | exact hsx12 | exact hsx13
        clear hK K
        try simp only [Act.put, List.setIfInBounds_toArray, List.set_cons_zero, List.set_cons_succ]
        refine wpAnyH_done (by kernel_rfl) ?_ _
        go_wp2_with fail
        go_roundw
        case rel => exact ⟨k + 1, _, _, _, _, hkP, by go_num, HND.out, hsx13⟩
        case measure => simp [intOf]; omega
      refine AllReadyH.cons (o := ⟨some 40, _, _, _, _, _⟩) rfl (fun K hK => ?_) AllReadyH.nil
      go_simp
      refine hK.out _ _ ?_ (fun hHeld => ?_)
      · (try dsimp only); first | exact hsx0 | exact hsx0.drew | exact hHeld | exact hsx0.call HB9.out | exact hHeld.alloc _ | exact hsx8 | exact hsx9
      clear hK K
      try simp only [Act.put, List.setIfInBounds_toArray, List.set_cons_zero, List.set_cons_succ]
      refine wpAnyH_ready (rs := [4]) (by kernel_rfl) (by simp) ?_
      refine AllReadyH.cons (o := ⟨some 34, _, _, _, _, _⟩) rfl (fun K hK => ?_) AllReadyH.nil
      go_simp
      refine hK.out _ _ ?_ (fun hHeld => ?_)
      · (try dsimp only); first | exact hsx0 | exact hsx0.drew | exact hHeld | exact hsx0.call HB9.out | exact hHeld.alloc _ | exact hsx8 | exact hsx9
      clear hK K
      try simp only [Act.put, List.setIfInBounds_toArray, List.set_cons_zero, List.set_cons_succ]
      refine wpAnyH_ready (rs := [11]) (by kernel_rfl) (by simp) ?_
      refine AllReadyH.cons (o := ⟨some 41, _, _, _, _, _⟩) rfl (fun K hK => ?_) AllReadyH.nil
      refine step_pushL elB_ints (.tmp 34) (.tmp 40) (by rfl) (by rfl) base k _ (by rfl) HN9.out.ord (by rfl) (by rfl) (by intro u hu; simp at hu; subst hu; rfl) (by omega) (by decide) (Nat.le_trans HN9.out.pb (Nat.le_of_lt HN9.out.lt)) ?_
      intro v8 w8 hown8 hb8 hg8 hL8
      obtain ⟨A8, c8, rfl, hc8⟩ := own_form hown8
      have hp8 := (hg8.block p HN9.out.lt (fun e => row_ne HN9.out.ord HN9.out.cells (by decide) e.symm)).trans HN9.out.cells
      have e3 : w8.cell? ⟨p, 3, none⟩ = some (.slice Ao k co) := by rw [cell_of_row _ _ _ _ _ _ hp8]; rfl
      have f3 : w8.frozen? ⟨p, 3, none⟩ = false := by simp [World.frozen?, hp8]
      have HNB := Lib.hid (HN9.out.pushO (c := c9) hc9 (Nat.le_trans HNA.out.pb (Nat.le_of_lt HNA.out.lt)) HO9.out hown8 hg8)
      have hsx8 := (hsx0.call HB9.out).grow HN9.out.ord (by decide) hg8 hb8
      have hsx9 := hsx8.set HNA.out.pb hp8 3 (.slice A8 (k + 1) c8)
      clear hp8 hown8 hg8 hb8 hL8
      refine hK.out _ _ ?_ (fun hHeld => ?_)
      · (try dsimp only); first | exact hsx0 | exact hsx0.drew | exact hHeld | exact hsx0.call HB9.out | exact hHeld.alloc _ | exact hsx8 | exact hsx9
      clear hK K
      try simp only [Act.put, List.setIfInBounds_toArray, List.set_cons_zero, List.set_cons_succ]
      refine wpAnyH_take (i := 12) (oi := ⟨some 42, _, _, _, _, _⟩) (v := ?_) rfl (by kernel_rfl) (by kernel_rfl) (by kernel_rfl) (fun _ _ _ h => h) (Or.inl ⟨by rfl, ?_⟩) (by assumption) ?_
      rotate_left
      · (intro w hSw; (try dsimp only at hSw); go_simp; try with_reducible rfl)
      try simp only [Act.put, List.setIfInBounds_toArray, List.set_cons_zero, List.set_cons_succ]
      refine wpAnyH_take (i := 13) (oi := ⟨some 43, _, _, _, _, _⟩) (v := ?_) rfl (by kernel_rfl) (by kernel_rfl) (by kernel_rfl) (fun _ _ _ h => h) (Or.inl ⟨by rfl, ?_⟩) (by assumption) ?_
      rotate_left
      · (intro w hSw; (try dsimp only at hSw); go_simp; try with_reducible rfl)
      try simp only [Act.put, List.setIfInBounds_toArray, List.set_cons_zero, List.set_cons_succ]
      refine wpAnyH_ready (rs := [14]) (by kernel_rfl) (by simp) ?_
      refine AllReadyH.cons (o := ⟨none, _, _, _, _, _⟩) rfl (fun K hK => ?_) AllReadyH.nil
      go_simp
      refine hK.out _ _ ?_ (fun hHeld => ?_)
      · (try dsimp only); first | exact hsx0 | exact hsx0.drew | exact hHeld | exact hsx0.call HB9.out | exact hHeld.alloc _ | exact hsx8 | exact hsx9
      clear hK K
      try simp only [Act.put, List.setIfInBounds_toArray, List.set_cons_zero, List.set_cons_succ]
      refine wpAnyH_done (by kernel_rfl) ?_ _
      try go_wp2_with fail
      obtain ⟨wb, hwb⟩ : ∃ z, z = w8.setCell ⟨p, 3, none⟩ (.slice A8 (k + 1) c8) := ⟨_, rfl⟩
      rw [← hwb] at HNB hsx9 ⊢
      clear hwb e3 f3 hsx8 hHeld HN9 HO9 HB9
      have HSB := Lib.hid hsx9
      obtain ⟨Ak, ck, hvk, hck⟩ := own_form HNB.out.kno
      subst hvk
      have c4 : wb.cell? ⟨p, 4, none⟩ = some (.slice Ak k ck) := by rw [cell_of_row _ _ _ _ _ _ HNB.out.cells]; rfl
      have hmk := fun w => make_anss w n (by omega)
      have HAF : Hid (∀ wm, wm = (wb.alloc (.cells (Array.replicate n (.slice none 0 0)) 27)).drew → RNw wm base p n P B s (k + 1) k Ab cbt b _ (.slice Ak k ck) _ kb vl vy ∧ wm.cell? ⟨p, 4, none⟩ = some (.slice Ak k ck) ∧ wm.heap.size = wb.heap.size + 1) := Lib.hid (fun wm h => by
        have h1 := (HNB.out.below ((Below.refl wb.heap.size wb).alloc (Nat.le_refl _) (.cells (Array.replicate n (.slice none 0 0)) 27))).below (Qw.below (⟨1, rfl⟩ : Qw _ (World.drew _)) _)
        rw [← h] at h1
        exact ⟨h1, by rw [cell_of_row _ _ _ _ _ _ h1.cells]; rfl, by rw [h]; simp⟩)
      clear hsx9
      go_wp2_with fail
      refine wp_region_held_drew (S := fun w' => SX base w w.heap.size P B s w') (by kernel_rfl) ?_ (fun hHeld => ?_)
      · (try dsimp only); first | exact HSB.out | exact HSB.out.drew | exact hHeld | exact hHeld.alloc _ | exact hsx12 | exact hsx13
      refine wpAnyH_take (i := 0) (oi := ⟨some 44, _, _, _, _, _⟩) (v := ?_) rfl (by kernel_rfl) (by kernel_rfl) (by kernel_rfl) (fun _ _ _ h => h) (Or.inl ⟨by rfl, ?_⟩) (by assumption) ?_
      rotate_left
      · (intro w hSw; (try dsimp only at hSw); go_simp; try with_reducible rfl)
      try simp only [Act.put, List.setIfInBounds_toArray, List.set_cons_zero, List.set_cons_succ]
      refine wpAnyH_take (i := 1) (oi := ⟨some 45, _, _, _, _, _⟩) (v := ?_) rfl (by kernel_rfl) (by kernel_rfl) (by kernel_rfl) (fun _ _ _ h => h) (Or.inl ⟨by rfl, ?_⟩) (by assumption) ?_
      rotate_left
      · (intro w hSw; (try dsimp only at hSw); go_simp; try with_reducible rfl)
      try simp only [Act.put, List.setIfInBounds_toArray, List.set_cons_zero, List.set_cons_succ]
      refine wpAnyH_take (i := 2) (oi := ⟨some 46, _, _, _, _, _⟩) (v := ?_) rfl (by kernel_rfl) (by kernel_rfl) (by kernel_rfl) (fun _ _ _ h => h) (Or.inl ⟨by rfl, ?_⟩) (by assumption) ?_
      rotate_left
      · (intro w hSw; (try dsimp only at hSw); go_simp; try with_reducible rfl)
      try simp only [Act.put, List.setIfInBounds_toArray, List.set_cons_zero, List.set_cons_succ]
      refine wpAnyH_take (i := 3) (oi := ⟨some 47, _, _, _, _, _⟩) (v := ?_) rfl (by kernel_rfl) (by kernel_rfl) (by kernel_rfl) (fun _ _ _ h => h) (Or.inl ⟨by rfl, ?_⟩) (by assumption) ?_
      rotate_left
      · (intro w hSw; (try dsimp only at hSw); go_simp; try with_reducible rfl)
      try simp only [Act.put, List.setIfInBounds_toArray, List.set_cons_zero, List.set_cons_succ]
      refine wpAnyH_take (i := 5) (oi := ⟨some 49, _, _, _, _, _⟩) (v := ?_) rfl (by kernel_rfl) (by kernel_rfl) (by kernel_rfl) (fun _ _ _ h => h) (Or.inl ⟨by rfl, ?_⟩) (by assumption) ?_
      rotate_left
      · (intro w hSw; (try dsimp only at hSw); go_simp; try with_reducible rfl)
      try simp only [Act.put, List.setIfInBounds_toArray, List.set_cons_zero, List.set_cons_succ]
      refine wpAnyH_take (i := 6) (oi := ⟨some 50, _, _, _, _, _⟩) (v := ?_) rfl (by kernel_rfl) (by kernel_rfl) (by kernel_rfl) (fun _ _ _ h => h) (Or.inl ⟨by rfl, ?_⟩) (by assumption) ?_
      rotate_left
      · (intro w hSw; (try dsimp only at hSw); go_simp; try with_reducible rfl)
      try simp only [Act.put, List.setIfInBounds_toArray, List.set_cons_zero, List.set_cons_succ]
      refine wpAnyH_ready (rs := [4, 7]) (by kernel_rfl) (by simp) ?_
      refine AllReadyH.cons (o := ⟨some 48, _, _, _, _, _⟩) rfl (fun K hK => ?_) ?_
      · skip
        go_simp
        refine hK.out _ _ ?_ (fun hHeld => ?_)
        · (try dsimp only); first | exact HSB.out | exact HSB.out.drew | exact hHeld | exact hHeld.alloc _ | exact hsx12 | exact hsx13
        clear hK K
        try simp only [Act.put, List.setIfInBounds_toArray, List.set_cons_zero, List.set_cons_succ]
        refine wpAnyH_ready (rs := [7]) (by kernel_rfl) (by simp) ?_
        refine AllReadyH.cons (o := ⟨some 51, _, _, _, _, _⟩) rfl (fun K hK => ?_) AllReadyH.nil
        go_simp
        refine hK.out _ _ ?_ (fun hHeld => ?_)
        · (try dsimp only); first | exact HSB.out | exact HSB.out.drew | exact hHeld | exact hHeld.alloc _ | exact hsx12 | exact hsx13
        clear hK K
        try simp only [Act.put, List.setIfInBounds_toArray, List.set_cons_zero, List.set_cons_succ]
        obtain ⟨wm, hwm⟩ : ∃ z, z = (wb.alloc (.cells (Array.replicate n (.slice none 0 0)) 27)).drew := ⟨_, rfl⟩
        rw [← hwm] at hHeld ⊢
        obtain ⟨hnm, c4m, hszm⟩ := HAF.out _ hwm
        have c4n : ∀ o, (wm.alloc o).cell? ⟨p, 4, none⟩ = some (.slice Ak k ck) := fun o => (World.cell?_alloc_lt _ _ _ hnm.lt).trans c4m
        have hsm := hHeld
        have HGM : Hid (∀ (w10 : World) (r : Option Nat), wm.grownBy w10 r → (wb.alloc (.cells (Array.replicate n (.slice none 0 0)) 27)).grownBy w10 r) := Lib.hid (fun w10 r hg => by subst hwm; exact ⟨hg.os, hg.tape, hg.output, hg.size, hg.block⟩)
        have HNM := Lib.hid hnm
        clear hwm hszm hnm
        refine wpAnyH_ready (rs := [8]) (by kernel_rfl) (by simp) ?_
        refine AllReadyH.cons (o := ⟨some 52, _, _, _, _, _⟩) rfl (fun K hK => ?_) AllReadyH.nil
        go_simp
        refine hK.out _ _ ?_ (fun hHeld => ?_)
        · (try dsimp only); first | exact HSB.out | exact HSB.out.drew | exact hHeld | exact hHeld.alloc _ | exact hsx12 | exact hsx13
        clear hK K
        try simp only [Act.put, List.setIfInBounds_toArray, List.set_cons_zero, List.set_cons_succ]
        refine wpAnyH_ready (rs := [9]) (by kernel_rfl) (by simp) ?_
        refine AllReadyH.cons (o := ⟨some 53, _, _, _, _, _⟩) rfl (fun K hK => ?_) AllReadyH.nil
        refine step_pushL elB_ansss (.tmp 48) (.tmp 52) (by rfl) (by rfl) base k _ (by rfl) HNM.out.kno (by rfl) (by rfl) (by intro u hu; simp at hu; subst hu; rfl) (by omega) (by decide) (Nat.le_trans HNM.out.pb (Nat.le_of_lt HNM.out.lt)) ?_
        intro v10 w10 hown10 hb10 hg10 hL10
        obtain ⟨A10, c10, rfl, hc10⟩ := own_form hown10
        have HND := Lib.hid (HNB.out.pushK hn hown10 (HGM.out _ _ hg10))
        have hp10 := (hg10.block p HNM.out.lt (fun e => row_ne HNM.out.kno HNM.out.cells (by decide) e.symm)).trans HNM.out.cells
        have e4 : w10.cell? ⟨p, 4, none⟩ = some (.slice Ak k ck) := by rw [cell_of_row _ _ _ _ _ _ hp10]; rfl
        have f4 : w10.frozen? ⟨p, 4, none⟩ = false := by simp [World.frozen?, hp10]
        have hsx12 := hsm.grow HNM.out.kno (by decide) hg10 hb10
        have hsx13 := hsx12.set HNA.out.pb hp10 4 (.slice A10 (k + 1) c10)
        clear hp10 hown10 hg10 hb10 hL10
        refine hK.out _ _ ?_ (fun hHeld => ?_)
        · (try dsimp only); first | exact HSB.out | exact HSB.out.drew | exact hHeld | exact hHeld.alloc _ | exact hsx12 | exact hsx13
        clear hK K
        try simp only [Act.put, List.setIfInBounds_toArray, List.set_cons_zero, List.set_cons_succ]
        refine wpAnyH_take (i := 10) (oi := ⟨some 54, _, _, _, _, _⟩) (v := ?_) rfl (by kernel_rfl) (by kernel_rfl) (by kernel_rfl) (fun _ _ _ h => h) (Or.inl ⟨by rfl, ?_⟩) (by assumption) ?_
        rotate_left
        · (intro w hSw; (try dsimp only at hSw); go_simp; try with_reducible rfl)
        try simp only [Act.put, List.setIfInBounds_toArray, List.set_cons_zero, List.set_cons_succ]
        refine wpAnyH_take (i := 11) (oi := ⟨some 55, _, _, _, _, _⟩) (v := ?_) rfl (by kernel_rfl) (by kernel_rfl) (by kernel_rfl) (fun _ _ _ h => h) (Or.inl ⟨by rfl, ?_⟩) (by assumption) ?_
        rotate_left
        · (intro w hSw; (try dsimp only at hSw); go_simp; try with_reducible rfl)
        try simp only [Act.put, List.setIfInBounds_toArray, List.set_cons_zero, List.set_cons_succ]
        refine wpAnyH_ready (rs := [12]) (by kernel_rfl) (by simp) ?_
        refine AllReadyH.cons (o := ⟨none, _, _, _, _, _⟩) rfl (fun K hK => ?_) AllReadyH.nil
        go_simp
        refine hK.out _ _ ?_ (fun hHeld => ?_)
        · (try dsimp only); first | exact HSB.out | exact HSB.out.drew | exact hHeld | exact hHeld.alloc _ | exact hsx12 | exact hsx13
        clear hK K
        try simp only [Act.put, List.setIfInBounds_toArray, List.set_cons_zero, List.set_cons_succ]
        refine wpAnyH_done (by kernel_rfl) ?_ _
        go_wp2_with fail
        go_roundw
        case rel => exact ⟨k + 1, _, _, _, _, hkP, by go_num, HND.out, hsx13⟩
        case measure => simp [intOf]; omega
      refine AllReadyH.cons (o := ⟨some 51, _, _, _, _, _⟩) rfl (fun K hK => ?_) AllReadyH.nil
      go_simp
      refine hK.out _ _ ?_ (fun hHeld => ?_)
      · (try dsimp only); first | exact HSB.out | exact HSB.out.drew | exact hHeld | exact hHeld.alloc _ | exact hsx12 | exact hsx13
      clear hK K
      try simp only [Act.put, List.setIfInBounds_toArray, List.set_cons_zero, List.set_cons_succ]
      obtain ⟨wm, hwm⟩ : ∃ z, z = (wb.alloc (.cells (Array.replicate n (.slice none 0 0)) 27)).drew := ⟨_, rfl⟩
      rw [← hwm] at hHeld ⊢
      obtain ⟨hnm, c4m, hszm⟩ := HAF.out _ hwm
      have c4n : ∀ o, (wm.alloc o).cell? ⟨p, 4, none⟩ = some (.slice Ak k ck) := fun o => (World.cell?_alloc_lt _ _ _ hnm.lt).trans c4m
      have hsm := hHeld
      have HGM : Hid (∀ (w10 : World) (r : Option Nat), wm.grownBy w10 r → (wb.alloc (.cells (Array.replicate n (.slice none 0 0)) 27)).grownBy w10 r) := Lib.hid (fun w10 r hg => by subst hwm; exact ⟨hg.os, hg.tape, hg.output, hg.size, hg.block⟩)
      have HNM := Lib.hid hnm
      clear hwm hszm hnm
      refine wpAnyH_ready (rs := [4, 8]) (by kernel_rfl) (by simp) ?_
      refine AllReadyH.cons (o := ⟨some 48, _, _, _, _, _⟩) rfl (fun K hK => ?_) ?_
      · skip
        go_simp
        refine hK.out _ _ ?_ (fun hHeld => ?_)
        · (try dsimp only); first | exact HSB.out | exact HSB.out.drew | exact hHeld | exact hHeld.alloc _ | exact hsx12 | exact hsx13
        clear hK K
        try simp only [Act.put, List.setIfInBounds_toArray, List.set_cons_zero, List.set_cons_succ]
        refine wpAnyH_ready (rs := [8]) (by kernel_rfl) (by simp) ?_
        refine AllReadyH.cons (o := ⟨some 52, _, _, _, _, _⟩) rfl (fun K hK => ?_) AllReadyH.nil
        go_simp
        refine hK.out _ _ ?_ (fun hHeld => ?_)
        · (try dsimp only); first | exact HSB.out | exact HSB.out.drew | exact hHeld | exact hHeld.alloc _ | exact hsx12 | exact hsx13
        clear hK K
        try simp only [Act.put, List.setIfInBounds_toArray, List.set_cons_zero, List.set_cons_succ]
        refine wpAnyH_ready (rs := [9]) (by kernel_rfl) (by simp) ?_
        refine AllReadyH.cons (o := ⟨some 53, _, _, _, _, _⟩) rfl (fun K hK => ?_) AllReadyH.nil
        refine step_pushL elB_ansss (.tmp 48) (.tmp 52) (by rfl) (by rfl) base k _ (by rfl) HNM.out.kno (by rfl) (by rfl) (by intro u hu; simp at hu; subst hu; rfl) (by omega) (by decide) (Nat.le_trans HNM.out.pb (Nat.le_of_lt HNM.out.lt)) ?_
        intro v10 w10 hown10 hb10 hg10 hL10
        obtain ⟨A10, c10, rfl, hc10⟩ := own_form hown10
        have HND := Lib.hid (HNB.out.pushK hn hown10 (HGM.out _ _ hg10))
        have hp10 := (hg10.block p HNM.out.lt (fun e => row_ne HNM.out.kno HNM.out.cells (by decide) e.symm)).trans HNM.out.cells
        have e4 : w10.cell? ⟨p, 4, none⟩ = some (.slice Ak k ck) := by rw [cell_of_row _ _ _ _ _ _ hp10]; rfl
        have f4 : w10.frozen? ⟨p, 4, none⟩ = false := by simp [World.frozen?, hp10]
        have hsx12 := hsm.grow HNM.out.kno (by decide) hg10 hb10
        have hsx13 := hsx12.set HNA.out.pb hp10 4 (.slice A10 (k + 1) c10)
        clear hp10 hown10 hg10 hb10 hL10
        refine hK.out _ _ ?_ (fun hHeld => ?_)
        · (try dsimp only); first | exact HSB.out | exact HSB.out.drew | exact hHeld | exact hHeld.alloc _ | exact hsx12 | exact hsx13
        clear hK K
        try simp only [Act.put, List.setIfInBounds_toArray, List.set_cons_zero, List.set_cons_succ]
        refine wpAnyH_take (i := 10) (oi := ⟨some 54, _, _, _, _, _⟩) (v := ?_) rfl (by kernel_rfl) (by kernel_rfl) (by kernel_rfl) (fun _ _ _ h => h) (Or.inl ⟨by rfl, ?_⟩) (by assumption) ?_
        rotate_left
        · (intro w hSw; (try dsimp only at hSw); go_simp; try with_reducible rfl)
        try simp only [Act.put, List.setIfInBounds_toArray, List.set_cons_zero, List.set_cons_succ]
        refine wpAnyH_take (i := 11) (oi := ⟨some 55, _, _, _, _, _⟩) (v := ?_) rfl (by kernel_rfl) (by kernel_rfl) (by kernel_rfl) (fun _ _ _ h => h) (Or.inl ⟨by rfl, ?_⟩) (by assumption) ?_
        rotate_left
        · (intro w hSw; (try dsimp only at hSw); go_simp; try with_reducible rfl)
        try simp only [Act.put, List.setIfInBounds_toArray, List.set_cons_zero, List.set_cons_succ]
        refine wpAnyH_ready (rs := [12]) (by kernel_rfl) (by simp) ?_
        refine AllReadyH.cons (o := ⟨none, _, _, _, _, _⟩) rfl (fun K hK => ?_) AllReadyH.nil
        go_simp
        refine hK.out _ _ ?_ (fun hHeld => ?_)
        · (try dsimp only); first | exact HSB.out | exact HSB.out.drew | exact hHeld | exact hHeld.alloc _ | exact hsx12 | exact hsx13
        clear hK K
        try simp only [Act.put, List.setIfInBounds_toArray, List.set_cons_zero, List.set_cons_succ]
        refine wpAnyH_done (by kernel_rfl) ?_ _
        go_wp2_with fail
        go_roundw
        case rel => exact ⟨k + 1, _, _, _, _, hkP, by go_num, HND.out, hsx13⟩
        case measure => simp [intOf]; omega
      refine AllReadyH.cons (o := ⟨some 52, _, _, _, _, _⟩) rfl (fun K hK => ?_) AllReadyH.nil
      go_simp
      refine hK.out _ _ ?_ (fun hHeld => ?_)
      · (try dsimp only); first | exact HSB.out | exact HSB.out.drew | exact hHeld | exact hHeld.alloc _ | exact hsx12 | exact hsx13
      clear hK K
      try simp only [Act.put, List.setIfInBounds_toArray, List.set_cons_zero, List.set_cons_succ]
      refine wpAnyH_ready (rs := [4]) (by kernel_rfl) (by simp) ?_
      refine AllReadyH.cons (o := ⟨some 48, _, _, _, _, _⟩) rfl (fun K hK => ?_) AllReadyH.nil
      go_simp
      refine hK.out _ _ ?_ (fun hHeld => ?_)
      · (try dsimp only); first | exact HSB.out | exact HSB.out.drew | exact hHeld | exact hHeld.alloc _ | exact hsx12 | exact hsx13
      clear hK K
      try simp only [Act.put, List.setIfInBounds_toArray, List.set_cons_zero, List.set_cons_succ]
      refine wpAnyH_ready (rs := [9]) (by kernel_rfl) (by simp) ?_
      refine AllReadyH.cons (o := ⟨some 53, _, _, _, _, _⟩) rfl (fun K hK => ?_) AllReadyH.nil
      refine step_pushL elB_ansss (.tmp 48) (.tmp 52) (by rfl) (by rfl) base k _ (by rfl) HNM.out.kno (by rfl) (by rfl) (by intro u hu; simp at hu; subst hu; rfl) (by omega) (by decide) (Nat.le_trans HNM.out.pb (Nat.le_of_lt HNM.out.lt)) ?_
      intro v10 w10 hown10 hb10 hg10 hL10
      obtain ⟨A10, c10, rfl, hc10⟩ := own_form hown10
      have HND := Lib.hid (HNB.out.pushK hn hown10 (HGM.out _ _ hg10))
      have hp10 := (hg10.block p HNM.out.lt (fun e => row_ne HNM.out.kno HNM.out.cells (by decide) e.symm)).trans HNM.out.cells
      have e4 : w10.cell? ⟨p, 4, none⟩ = some (.slice Ak k ck) := by rw [cell_of_row _ _ _ _ _ _ hp10]; rfl
      have f4 : w10.frozen? ⟨p, 4, none⟩ = false := by simp [World.frozen?, hp10]
      have hsx12 := hsm.grow HNM.out.kno (by decide) hg10 hb10
      have hsx13 := hsx12.set HNA.out.pb hp10 4 (.slice A10 (k + 1) c10)
      clear hp10 hown10 hg10 hb10 hL10
      refine hK.out _ _ ?_ (fun hHeld => ?_)
      · (try dsimp only); first | exact HSB.out | exact HSB.out.drew | exact hHeld | exact hHeld.alloc _ | exact hsx12 | exact hsx13
      clear hK K
      try simp only [Act.put, List.setIfInBounds_toArray, List.set_cons_zero, List.set_cons_succ]
      refine wpAnyH_take (i := 10) (oi := ⟨some 54, _, _, _, _, _⟩) (v := ?_) rfl (by kernel_rfl) (by kernel_rfl) (by kernel_rfl) (fun _ _ _ h => h) (Or.inl ⟨by rfl, ?_⟩) (by assumption) ?_
      rotate_left
      · (intro w hSw; (try dsimp only at hSw); go_simp; try with_reducible rfl)
      try simp only [Act.put, List.setIfInBounds_toArray, List.set_cons_zero, List.set_cons_succ]
      refine wpAnyH_take (i := 11) (oi := ⟨some 55, _, _, _, _, _⟩) (v := ?_) rfl (by kernel_rfl) (by kernel_rfl) (by kernel_rfl) (fun _ _ _ h => h) (Or.inl ⟨by rfl, ?_⟩) (by assumption) ?_
      rotate_left
      · (intro w hSw; (try dsimp only at hSw); go_simp; try with_reducible rfl)
      try simp only [Act.put, List.setIfInBounds_toArray, List.set_cons_zero, List.set_cons_succ]
      refine wpAnyH_ready (rs := [12]) (by kernel_rfl) (by simp) ?_
      refine AllReadyH.cons (o := ⟨none, _, _, _, _, _⟩) rfl (fun K hK => ?_) AllReadyH.nil
      go_simp
      refine hK.out _ _ ?_ (fun hHeld => ?_)
      · (try dsimp only); first | exact HSB.out | exact HSB.out.drew | exact hHeld | exact hHeld.alloc _ | exact hsx12 | exact hsx13
      clear hK K
      try simp only [Act.put, List.setIfInBounds_toArray, List.set_cons_zero, List.set_cons_succ]
      refine wpAnyH_done (by kernel_rfl) ?_ _
      go_wp2_with fail
      go_roundw
      case rel => exact ⟨k + 1, _, _, _, _, hkP, by go_num, HND.out, hsx13⟩
      case measure => simp [intOf]; omega
    · have i1 : ¬ (k : Int) < (P : Int) := by omega
      obtain rfl : k = P := by omega
      have hbelow : Below base w wa := hsx0.1
      obtain ⟨R, hRb, hRp, hRn, hRP, hRB, hRs, hat⟩ := HNA.out.done (Z := Z) hP hP6 hB hB5 hs hn (fun R h1 h2 => HSRC.out wa R hbelow h1 h2)
      subst hRb hRp hRn hRP hRB hRs
      have hA0 : AskI R Z b 0 0 (st0 b) := ⟨GoT.refl _ _ _, Inv.start (L := R.L) HBL.out, rfl, Nat.le_refl _, fun j _ h2 => absurd h2 (by omega)⟩
      have HAT := Lib.hid hat; have HA0 := Lib.hid hA0; have HSX0 := Lib.hid hsx0
      clear HNA hat hA0 HSRC hbelow hsx0 hkP hk
      go_wp2_with fail
      clear b0
      go_loopw [6] (fun i wr => ∃ (pp : Nat) (X : Mst) (kv : Nat → Nat → Value) (vt vl : Value), pp ≤ R.P ∧ i = .int .i64 pp ∧ RAt wr R Z kv vt vl vy X ∧ SX R.base w w.heap.size R.P R.B R.s wr ∧ AskI R Z b pp 0 X) (fun i _ => R.P - (intOf i).toNat)
      case atStart => exact ⟨0, st0 b, _, _, _, Nat.zero_le _, rfl, HAT.out, HSX0.out, HA0.out⟩
      case round =>
        obtain ⟨pp, X, kv, vt, vl, hpp, rfl, hat, hsx, hask⟩ := hrel
        obtain ⟨wb, rfl⟩ : ∃ z : World, z = wr := ⟨_, rfl⟩
        have HAT1 := Lib.hid hat; have HSX1 := Lib.hid hsx; have HASK := Lib.hid hask
        have b0 := hsx.2.1.c0; have b1 := hsx.2.1.c1; have b2 := hsx.2.1.c2
        clear hat hsx hask HAT HA0 HSX0
        by_cases hlp : pp < R.P
        · have hpi : (pp : Int) < (R.P : Int) := by omega
          go_wp2_with fail
          refine (refblocks_any R.P R.B R.s R.n pp _ hB hB5 hn (by omega)).mono ?_
          rintro e w3 ⟨Aq, cq, rfl, hcq, hoq, hb3⟩
          have HAT3 := Lib.hid (HAT1.out.below hb3); have HSX3 := Lib.hid (HSX1.out.call hb3)
          have hcl : cutN R.n (sizeP R.B pp) = (cutL R.B R.n pp).length := by rw [cutL, cutK_len]
          obtain ⟨N, hN⟩ : ∃ N, N = (cutL R.B R.n pp).length := ⟨_, rfl⟩
          rw [hcl, ← hN] at hoq hcq ⊢
          have hN5 : N ≤ 512 := by rw [hN]; exact Nat.le_trans (cutL_len hB) hn
          have HN := Lib.hid hN; have HOQ := Lib.hid hoq
          dsimp only [id]
          clear hcl hN hoq hb3 HAT1 HSX1 b0 b1 b2
          go_wp2_with fail
          go_loopw [8] (fun i wr => ∃ (j : Nat) (X : Mst) (kv : Nat → Nat → Value) (vt vl : Value), j ≤ N ∧ i = .int .i64 j ∧ RAt wr R Z kv vt vl vy X ∧ SX R.base w w.heap.size R.P R.B R.s wr ∧ AskI R Z b pp j X ∧ wr.ownsRow wb.heap.size 44 3 (.slice Aq N cq) N (qCells (cutL R.B R.n pp))) (fun i _ => N - (intOf i).toNat)
          case atStart => exact ⟨0, X, kv, vt, vl, Nat.zero_le _, rfl, HAT3.out, HSX3.out, HASK.out, HOQ.out⟩
          case round =>
            obtain ⟨j, X, kv, vt, vl, hj, rfl, hat, hsx, hask, hoq⟩ := hrel
            obtain ⟨wc, rfl⟩ : ∃ z : World, z = wr := ⟨_, rfl⟩
            have HAT4 := Lib.hid hat; have HSX4 := Lib.hid hsx; have HASK4 := Lib.hid hask; have HOB := Lib.hid hoq
            clear hat hsx hask HAT3 HSX3 HASK HOQ
            by_cases hlj : j < N
            · have hji : (j : Int) < (N : Int) := by omega
              have hjl : j < (cutL R.B R.n pp).length := by rw [← HN.out]; exact hlj
              obtain ⟨gq, cpq, hvq⟩ := own_head hoq (by omega)
              injection hvq with hvq1 _ hvq2
              subst hvq1
              clear hvq2
              obtain ⟨a0, a1, a2⟩ := qCells_at (cutL R.B R.n pp) j hjl
              have e0 : wc.cell? ⟨gq, j * 3, none⟩ = some (.int .i64 ((cutL R.B R.n pp)[j]).p) := by rw [hoq.cellAt (j * 3) (by omega)]; exact a0
              have e1 : wc.cell? ⟨gq, j * 3 + 1, none⟩ = some (.int .i64 ((cutL R.B R.n pp)[j]).f) := by rw [hoq.cellAt (j * 3 + 1) (by omega)]; exact a1
              have e2 : wc.cell? ⟨gq, j * 3 + 2, none⟩ = some (.int .i64 ((cutL R.B R.n pp)[j]).t) := by rw [hoq.cellAt (j * 3 + 2) (by omega)]; exact a2
              obtain ⟨g1, g2, g3⟩ := cutL_in hB (List.getElem?_eq_getElem hjl)
              have hqj : (cutL R.B R.n pp)[j]? = some (cutL R.B R.n pp)[j] := List.getElem?_eq_getElem hjl
              obtain ⟨q, hq⟩ : ∃ q, q = (cutL R.B R.n pp)[j] := ⟨_, rfl⟩
              rw [← hq] at e0 e1 e2 g1 g2 g3 hqj
              have HQK : Hid (QOk R.L q) := Lib.hid ⟨⟨by show q.p < R.P; omega, by omega, g3⟩, g2⟩
              have HQJ := Lib.hid hqj
              have HLEN : Hid (X.told.length < 1000000) := Lib.hid (by have := HASK4.out.inv.len hP6 hn; omega)
              clear a0 a1 a2 hq hoq g1 g2 g3 hqj hjl
              go_wp2_with fail
              refine (ans_any R Z kv vt vl vy X q _ HAT4.out HQK.out HLEN.out).mono ?_
              rintro e w5 ⟨ba, ok, rfl, hT5, hcase⟩
              have HSX5 := Lib.hid (HSX4.out.rt hT5)
              have HOB5 := Lib.hid (ownsRow_r HOB.out hT5 (by decide) (by decide) (by decide) (by decide))
              clear hT5 e0 e1 e2
              rcases hcase with ⟨hth, rfl, _, hm5⟩ | ⟨hno, hor, rfl, hm5⟩ | ⟨hno, hor, rfl, kv', vt', vl', hm5⟩
              · have HAT5 := Lib.hid hm5; have HASK5 := Lib.hid (ask_known HASK4.out HQJ.out hth)
                clear hm5 hth
                go_wp2_with fail
                go_roundw
                case rel => exact ⟨j + 1, X, kv, vt, vl, hlj, by go_num, HAT5.out, HSX5.out, HASK5.out, HOB5.out⟩
                case measure => simp [intOf]; omega
              · have HAT5 := Lib.hid hm5; have HGO := Lib.hid (ask_wait HASK4.out hlp HQJ.out hno hor)
                clear hm5 hno hor
                go_wp2_with fail
                go_ret
                exact ⟨R, _, kv, vt, vl, rfl, rfl, rfl, rfl, rfl, rfl, rfl, HAT5.out.as (S' := { X with block := j, next := q, opn := true }) rfl rfl rfl rfl rfl rfl, HSX5.out.1, HGO.out.1, HGO.out.2, HGO.out.1.inv (I := fun z => Inv R.L z.1 z.2) (fun z hz => hz.stepO hB hn z) (Inv.start (L := R.L) HBL.out)⟩
              · have HAT5 := Lib.hid hm5; have HASK5 := Lib.hid (ask_tell hB hn HASK4.out hlp HQJ.out hno hor)
                clear hm5 hno hor
                go_wp2_with fail
                go_roundw
                case rel => exact ⟨j + 1, _, kv', vt', vl', hlj, by go_num, HAT5.out.as (S' := { X with block := j, told := X.told ++ [(q, ba)] }) rfl rfl rfl rfl rfl rfl, HSX5.out, HASK5.out, HOB5.out⟩
                case measure => simp [intOf]; omega
            · have hji : ¬ (j : Int) < (N : Int) := by omega
              obtain rfl : j = N := by omega
              have hask2 := HASK4.out
              rw [HN.out] at hask2
              obtain ⟨kk, hsea⟩ := ask_done hB hn hask2 hlp
              have HSEA := Lib.hid hsea
              have HAT6 := Lib.hid (HAT4.out.as (S' := { X with block := kk }) rfl rfl rfl rfl rfl rfl)
              clear hask2 hsea hoq HAT4 HASK4
              obtain ⟨X2, hX2⟩ : ∃ z, z = { X with block := kk } := ⟨_, rfl⟩
              rw [← hX2] at HSEA HAT6
              clear hX2
              go_wp2_with fail
              go_loopg [] 1000 (fun g wr => ∃ (X : Mst) (kv : Nat → Nat → Value) (vt vl : Value), R.n - X.flips < g ∧ RAt wr R Z kv vt vl vy X ∧ SX R.base w w.heap.size R.P R.B R.s wr ∧ SeaI R Z b pp X)
              case atStart => exact ⟨X2, kv, vt, vl, by omega, HAT6.out, HSX4.out, HSEA.out⟩
              case round =>
                obtain ⟨X, kv, vt, vl, hg, hat, hsx, hsea⟩ := hrel
                obtain ⟨wd, rfl⟩ : ∃ z : World, z = wr := ⟨_, rfl⟩
                have HAT7 := Lib.hid hat; have HSX7 := Lib.hid hsx; have HSEA7 := Lib.hid hsea; have HG := Lib.hid hg
                have hps := hsea.ps
                have hpas := hsea.inv.pas2 (.inl rfl)
                have hfl := hsea.inv.flips
                have HPAS := Lib.hid hpas
                have HLEN : Hid (X.told.length < 1000000) := Lib.hid (by have := hsea.inv.len hP6 hn; omega)
                have HFL : Hid (X.flips ≤ R.n) := Lib.hid hfl
                clear hat hsx hsea hg HSEA HAT6 HSX4 hpas hfl
                subst hps
                go_wp2_with fail
                refine (rsearch_any R Z kv vt vl vy X _ HAT7.out HPAS.out.1 HPAS.out.2 HLEN.out).mono ?_
                rintro e w6 ⟨⟨q, a, f, rfl, hf, hbq⟩, hm6, hT6⟩
                have HAT8 := Lib.hid hm6; have HSX8 := Lib.hid (HSX7.out.rt hT6)
                have HF := Lib.hid hf; have HBQ := Lib.hid hbq
                have hal := (Below.refl w6.heap.size w6).alloc (Nat.le_refl _) (.cells #[.int .i64 q.p, .int .i64 q.f, .int .i64 q.t] 44)
                have HAT9 := Lib.hid (hm6.below hal); have HSX9 := Lib.hid (HSX8.out.call hal)
                have c6 : (w6.alloc (.cells #[.int .i64 q.p, .int .i64 q.f, .int .i64 q.t] 44)).cell? ⟨R.p, 6, none⟩ = some (.int .i64 X.flips) := HAT9.out.cell 6
                have c14 : (w6.alloc (.cells #[.int .i64 q.p, .int .i64 q.f, .int .i64 q.t] 44)).cell? ⟨R.p, 14, none⟩ = some (.bool X.failed) := HAT9.out.cell 14
                have f14 : (w6.alloc (.cells #[.int .i64 q.p, .int .i64 q.f, .int .i64 q.t] 44)).frozen? ⟨R.p, 14, none⟩ = false := HAT9.out.frozen 14
                have hflp : (X.flips : Int) ≤ 512 := by have := HFL.out; omega
                clear hm6 hT6 hf hbq hal HAT7 HSX7
                cases f
                · have hbn : bestS R.L X = none := by
                    have := HF.out
                    cases hb : bestS R.L X with
                    | none => rfl
                    | some b => rw [hb] at this; cases this
                  have HA := Lib.hid (sea_none hB hn HSEA7.out hbn)
                  have HATA := Lib.hid (HAT9.out.as (S' := { X with pass := X.pass + 1, block := 0 }) rfl rfl rfl rfl rfl rfl)
                  clear hbn
                  go_wp2_with fail
                  go_roundw
                  case rel => exact ⟨X.pass + 1, _, kv, vt, vl, hlp, by go_num, HATA.out, HSX9.out, HA.out⟩
                  case measure => simp [intOf]; omega
                · obtain ⟨bq, hbs⟩ : ∃ bq, bestS R.L X = some bq := by
                    have := HF.out
                    cases hb : bestS R.L X with
                    | none => rw [hb] at this; cases this
                    | some b => exact ⟨b, rfl⟩
                  obtain ⟨hq1, ha1⟩ := HBQ.out bq hbs
                  rw [← hq1] at hbs ha1
                  have HBS := Lib.hid hbs; have HA1 := Lib.hid ha1
                  clear hq1 ha1 hbs
                  by_cases hff : X.flips = R.n
                  · have hfi : ((X.flips : Int) == (R.n : Int)) = true := by rw [beq_iff_eq]; omega
                    have HGO := Lib.hid (sea_fail HSEA7.out HBS.out hff)
                    have HATF := Lib.hid (HAT9.out.set 14 (.bool true) { X with failed := true } rfl rfl rfl HAT9.out.src)
                    have HSXF := Lib.hid (HSX9.out.set HAT9.out.pb HAT9.out.cells 14 (.bool true))
                    have HFF := Lib.hid hff
                    clear hff
                    go_wp2_with fail
                    go_ret
                    exact ⟨R, _, kv, vt, vl, rfl, rfl, rfl, rfl, rfl, rfl, rfl, HATF.out, HSXF.out.1, HGO.out.1, HGO.out.2, HGO.out.1.inv (I := fun z => Inv R.L z.1 z.2) (fun z hz => hz.stepO hB hn z) (Inv.start (L := R.L) HBL.out)⟩
                  · have hfi : ((X.flips : Int) == (R.n : Int)) = false := by rw [beq_eq_false_iff_ne]; omega
                    obtain ⟨hgo3, hinv3⟩ := sea_some hB hn HSEA7.out HBS.out hff
                    have HGO3 := Lib.hid hgo3; have HINV3 := Lib.hid hinv3
                    have hlt : X.flips < R.n := by have := HFL.out; omega
                    have hat3 := HAT9.out.as (S' := { X with odd := q, ans := toldAns X.told q, searching := true }) rfl rfl rfl rfl rfl rfl
                    obtain ⟨X3, hX3⟩ : ∃ z, z = { X with odd := q, ans := toldAns X.told q, searching := true } := ⟨_, rfl⟩
                    have hx1 : X3.odd = q := by rw [hX3]
                    have hx2 : X3.ans = a := by rw [hX3]; exact HA1.out.symm
                    have hx3 : X3.flips = X.flips := by rw [hX3]
                    have hx4 : X3.pass = X.pass := by rw [hX3]
                    rw [← hX3] at hat3 HGO3 HINV3
                    have HAT3 := Lib.hid hat3; have HX1 := Lib.hid hx1; have HX2 := Lib.hid hx2; have HX3 := Lib.hid hx3; have HX4 := Lib.hid hx4
                    clear hgo3 hinv3 hff hat3 hX3 hx1 hx2 hx3 hx4
                    have z0 : (w6.alloc (.cells #[.int .i64 q.p, .int .i64 q.f, .int .i64 q.t] 44)).cell? ⟨w6.heap.size, 0, none⟩ = some (.int .i64 q.p) := by rw [cell_of_row _ _ _ _ _ _ (heap_alloc_new w6 _)]; rfl
                    have z1 : (w6.alloc (.cells #[.int .i64 q.p, .int .i64 q.f, .int .i64 q.t] 44)).cell? ⟨w6.heap.size, 1, none⟩ = some (.int .i64 q.f) := by rw [cell_of_row _ _ _ _ _ _ (heap_alloc_new w6 _)]; rfl
                    have z2 : (w6.alloc (.cells #[.int .i64 q.p, .int .i64 q.f, .int .i64 q.t] 44)).cell? ⟨w6.heap.size, 2, none⟩ = some (.int .i64 q.t) := by rw [cell_of_row _ _ _ _ _ _ (heap_alloc_new w6 _)]; rfl
                    go_wp2_with fail
                    have hcall := rhalve_any R Z kv vt vl vy X3 _ HAT3.out HINV3.out
                    rw [HX1.out, HX2.out] at hcall
                    refine hcall.mono ?_
                    clear hcall
                    rintro e w8 ⟨ok, X', kv', vt', vl', rfl, hT8, hm8, hres⟩
                    have HAT10 := Lib.hid hm8; have HSX10 := Lib.hid (HSX9.out.rt hT8)
                    clear hm8 hT8 z0 z1 z2 c6 c14 f14
                    cases ok
                    · rw [if_neg (by simp)] at hres
                      have HR := Lib.hid hres
                      clear hres
                      go_wp2_with fail
                      go_ret
                      have hgo := HGO3.out.trans HR.out.1
                      exact ⟨R, X', kv', vt', vl', rfl, rfl, rfl, rfl, rfl, rfl, rfl, HAT10.out, HSX10.out.1, hgo, HR.out.2, hgo.inv (I := fun z => Inv R.L z.1 z.2) (fun z hz => hz.stepO hB hn z) (Inv.start (L := R.L) HBL.out)⟩
                    · rw [if_pos rfl] at hres
                      obtain ⟨hr1, hr2, hr3⟩ := hres
                      have hgo := HGO3.out.trans hr1
                      have HSE : Hid (SeaI R Z b X.pass X') := Lib.hid ⟨hgo, hgo.inv (I := fun z => Inv R.L z.1 z.2) (fun z hz => hz.stepO hB hn z) (Inv.start (L := R.L) HBL.out), by rw [hr3, HX4.out]⟩
                      have HFX : Hid (X'.flips = X.flips + 1) := Lib.hid (by rw [hr2, HX3.out])
                      clear hr1 hr2 hr3 hgo
                      go_wp2_with fail
                      go_roundg (R.n - X.flips)
                      case measure => exact HG.out
                      case rel => exact ⟨X', kv', vt', vl', by have := HFX.out; omega, HAT10.out, HSX10.out, HSE.out⟩
        · have hpi : ¬ (pp : Int) < (R.P : Int) := by omega
          obtain rfl : pp = R.P := by omega
          have HGO := Lib.hid (ask_last HASK.out)
          clear b1 b2
          go_wp2_with fail
          go_ret
          exact ⟨R, X, kv, vt, vl, rfl, rfl, rfl, rfl, rfl, rfl, rfl, HAT1.out, HSX1.out.1, HGO.out.1, HGO.out.2, HGO.out.1.inv (I := fun z => Inv R.L z.1 z.2) (fun z hz => hz.stepO hB hn z) (Inv.start (L := R.L) HBL.out)⟩
end Go.Proofs.Ytoofnkkbebjldaa
/- The contracts of Replay and Run of the document's cascades. Conditions: as each statement says. -/
namespace Go.Proofs.Ytoofnkkbebjldaa
open Go.RowKit
set_option linter.unusedVariables false
theorem oR_true (L : Lay) (y : List Bool) : oR L ⟨true, y, []⟩ = oT L y := rfl
theorem RNw.start {w2 wq : World} {base n P B s c2 : Nat} {A2 : Option Addr} {b : List Bool} {vl vy : Value} {kb : Nat → Nat} (ho : w2.ownsRow base 4 1 (.slice A2 n c2) n (b.map Value.bool)) (hc : n ≤ c2) (hb : base ≤ w2.heap.size)
    (hq : wq = w2.alloc (.cells #[.int .i64 P, .int .i64 B, .int .u64 s, .slice none 0 0, .slice none 0 0, .slice A2 n c2, .int .i64 0, .slice none 0 0, vl, vy, .int .i64 0, .int .i64 0, .int .i64 0, .bool false, .bool false] 74)) :
    RNw wq base w2.heap.size n P B s 0 0 A2 c2 b (.slice none 0 0) (.slice none 0 0) [] kb vl vy := by
  subst hq
  refine ⟨heap_alloc_new w2 _, ?_, hb, hc, rfl, World.ownsRow_nil _ _ _ _, by simp, World.ownsRow_nil _ _ _ _, fun i hi => absurd hi (by omega), fun i i' hi => absurd hi (by omega)⟩
  exact ownsRow_below ho ((Below.refl w2.heap.size w2).alloc (Nat.le_refl _) (.cells #[.int .i64 P, .int .i64 B, .int .u64 s, .slice none 0 0, .slice none 0 0, .slice A2 n c2, .int .i64 0, .slice none 0 0, vl, vy, .int .i64 0, .int .i64 0, .int .i64 0, .bool false, .bool false] 74)) (Nat.le_refl _)
/-- What Replay hands back. -/
def ReplayQ (n P B s : Nat) (b : List Bool) (Z : Src) (w : World) (e : Ending) (w' : World) : Prop :=
  ∃ (R : RLay) (X : Mst) (kv : Nat → Nat → Value) (vt vl vy : Value), e = .returned (.pointer (some ⟨R.p, 0, none⟩)) ∧ R.n = n ∧ R.P = P ∧ R.B = B ∧ R.s = s ∧ w.heap.size < R.base ∧ RAt w' R Z kv vt vl vy X ∧ Below w.heap.size w w' ∧ GoT R.L (oR R.L Z) (1, st0 b) (0, X) ∧ Fin (oR R.L Z) (0, X) ∧ Inv R.L 0 X
/-- Where the copy begins. -/
theorem made_rd {w1 : World} {n : Nat} {A : Option Addr} {b : List Bool} (h : Rd w1 w1.heap.size 1 A n (b.map Value.bool)) (wm : World) (hwm : wm = (w1.alloc (.cells #[] 4)).drew) :
    wm.ownsRow w1.heap.size 4 1 (.slice (some ⟨w1.heap.size, 0, none⟩) 0 0) 0 [] ∧ Rd wm w1.heap.size 1 A n (b.map Value.bool) := by
  subst hwm
  have h1 := World.ownsRow_made (e := 4) (size := 1) w1 #[] 0 (Nat.le_refl _) (by simp [maxLen]) (by simp)
  have hb : Below w1.heap.size w1 (w1.alloc (.cells #[] 4)).drew := ((Below.refl w1.heap.size w1).alloc (Nat.le_refl _) (.cells #[] 4)).trans (Qw.below (⟨1, rfl⟩ : Qw _ (World.drew _)) _)
  exact ⟨ownsRow_below h1 (Qw.below (⟨1, rfl⟩ : Qw _ (World.drew _)) _) (Nat.le_refl _), h.below hb⟩
set_option maxRecDepth 100000 in
set_option maxHeartbeats 4000000 in
theorem Replay_any (A Al : Option Addr) (n c k cl P B s : Nat) (b ans : List Bool) (w : World) (hP : 1 ≤ P) (hP6 : P ≤ 6) (hB : 1 ≤ B) (hB5 : B ≤ 512) (hs : s < two64) (hn : n ≤ 512) (hcl : k ≤ cl) (h : Rd w w.heap.size 1 A n (b.map Value.bool)) (h' : Rd w w.heap.size 1 Al k (ans.map Value.bool)) :
    Calls Try.prog 39 #[casV P B s, .slice A n c, .slice Al k cl] w (ReplayQ n P B s b ⟨false, [], ans⟩ w) := by
  obtain ⟨i0, hi0, hz0, hz1, hz2⟩ := info_parts info_bool
  have HI0 := Lib.hid hi0; have HZ0 := Lib.hid hz0; have HZ1 := Lib.hid hz1; have HZ2 := Lib.hid hz2
  have hal : ans.length = k := by have := h'.1; simpa using this
  obtain ⟨w1, hw1⟩ : ∃ z, z = w.alloc (.cells (casC P B s) 24) := ⟨_, rfl⟩
  have Bw1 : Below w.heap.size w w1 := by rw [hw1]; exact (Below.refl _ _).alloc (Nat.le_refl _) _
  have hlt1 : w.heap.size < w1.heap.size := by rw [hw1]; simp
  have HSX1 : Hid (SX w1.heap.size w1 w.heap.size P B s w1) := Lib.hid ⟨Below.refl _ _, by rw [hw1]; exact PlanAt.new w P B s, Nat.le_refl _⟩
  have HAF := Lib.hid (made_rd (h.past Bw1))
  have HSRC : Hid (∀ (w' : World) (R : RLay), Below w1.heap.size w1 w' → R.base = w1.heap.size → R.n = n → RSrc w' R ⟨false, [], ans⟩ (.slice Al k cl) (.slice none 0 0) 0) := Lib.hid (fun w' R hb h1 h2 => by
    unfold RSrc
    rw [if_neg (by simp)]
    subst hal
    refine ⟨rfl, Al, cl, by simp, by simpa using hcl, ?_⟩
    rw [h1]
    exact (h'.past Bw1).below hb)
  have HB1 := Lib.hid Bw1; have HW := Lib.hid hw1
  clear hi0 hz0 hz1 hz2 h h' hal Bw1 hw1
  go_enter Try.func39, Try.ntmps39
  go_wp2_with fail
  rw [← HW.out]
  clear HW
  refine wp_region_held_drew (S := fun w' => SX w1.heap.size w1 w.heap.size P B s w') (by kernel_rfl) ?_ (fun hHeld => ?_)
  · (try dsimp only); first | exact HSX1.out | exact HSX1.out.drew | exact (HSX1.out.alloc _).drew | exact HSX1.out.alloc _ | exact hsx2 | exact hsx2.drew | exact (hsx2.alloc _).drew | exact hsx2.alloc _ | exact hsx9.out | exact hsx9.out.drew | exact hHeld
  refine wpAnyH_take (i := 0) (oi := ⟨some 7, _, _, _, _, _⟩) (v := .agg #[.int .i64 P, .int .i64 B, .int .u64 s]) rfl (by kernel_rfl) (by kernel_rfl) (by kernel_rfl) (fun _ _ _ h => h) (Or.inl ⟨by rfl, ?_⟩) (by assumption) ?_
  · (intro w hSw; (try dsimp only at hSw); have h0 := hSw.2.1.c0; have h1 := hSw.2.1.c1; have h2 := hSw.2.1.c2; go_simp)
  try simp only [Act.put, List.setIfInBounds_toArray, List.set_cons_zero, List.set_cons_succ]
  refine wpAnyH_take (i := 2) (oi := ⟨some 9, _, _, _, _, _⟩) (v := ?_) rfl (by kernel_rfl) (by kernel_rfl) (by kernel_rfl) (fun _ _ _ h => h) (Or.inl ⟨by rfl, ?_⟩) (by assumption) ?_
  rotate_left
  · (intro w hSw; (try dsimp only at hSw); go_simp; try with_reducible rfl)
  try simp only [Act.put, List.setIfInBounds_toArray, List.set_cons_zero, List.set_cons_succ]
  refine wpAnyH_take (i := 4) (oi := ⟨some 11, _, _, _, _, _⟩) (v := ?_) rfl (by kernel_rfl) (by kernel_rfl) (by kernel_rfl) (fun _ _ _ h => h) (Or.inl ⟨by rfl, ?_⟩) (by assumption) ?_
  rotate_left
  · (intro w hSw; (try dsimp only at hSw); go_simp; try with_reducible rfl)
  try simp only [Act.put, List.setIfInBounds_toArray, List.set_cons_zero, List.set_cons_succ]
  refine wpAnyH_ready (rs := [1]) (by kernel_rfl) (by simp) ?_
  refine AllReadyH.cons (o := ⟨some 8, _, _, _, _, _⟩) rfl (fun K hK => ?_) AllReadyH.nil
  go_simp
  refine hK.out _ _ ?_ (fun hHeld => ?_)
  · (try dsimp only); first | exact HSX1.out | exact HSX1.out.drew | exact (HSX1.out.alloc _).drew | exact HSX1.out.alloc _ | exact hsx2 | exact hsx2.drew | exact (hsx2.alloc _).drew | exact hsx2.alloc _ | exact hsx9.out | exact hsx9.out.drew | exact hHeld
  clear hK K
  try simp only [Act.put, List.setIfInBounds_toArray, List.set_cons_zero, List.set_cons_succ]
  obtain ⟨wm, hwm⟩ : ∃ z, z = (w1.alloc (.cells #[] 4)).drew := ⟨_, rfl⟩
  rw [← hwm] at hHeld ⊢
  obtain ⟨hmade, hrd⟩ := HAF.out _ hwm
  have HMM := Lib.hid hHeld
  have hszm : w1.heap.size ≤ wm.heap.size := hHeld.2.2
  clear hwm
  refine wpAnyH_ready (rs := [3]) (by kernel_rfl) (by simp) ?_
  refine AllReadyH.cons (o := ⟨some 10, _, _, _, _, _⟩) rfl (fun K hK => ?_) AllReadyH.nil
  refine step_append_rd wm rfl (.tmp 8) (.tmp 9) _ (by rfl) w1.heap.size 4 i0 _ 1 1 Try.underlying25 HI0.out HZ0.out HZ1.out HZ2.out rfl (by decide) _ 0 [] (by rfl) hmade _ A n c _ (by rfl) hrd (by intro u hu; obtain ⟨_, _, rfl⟩ := List.mem_map.1 hu; rfl) (by unfold maxLen; omega) (by omega) hszm ?_
  intro v2 w2 hown2 hg2
  rw [Nat.zero_add, List.nil_append] at hown2
  obtain ⟨A2, c2, rfl, hc2⟩ := own_form hown2
  have hb2 : Below w1.heap.size wm w2 := (Below.refl _ _).grown hg2 hszm (fun g hg => by cases hg; exact Nat.le_refl _)
  have hsx2 := HMM.out.grow hmade (by decide) hg2 hb2
  have HO2 := Lib.hid hown2
  clear hown2 hg2 hb2
  refine hK.out _ _ ?_ (fun hHeld => ?_)
  · (try dsimp only); first | exact HSX1.out | exact HSX1.out.drew | exact (HSX1.out.alloc _).drew | exact HSX1.out.alloc _ | exact hsx2 | exact hsx2.drew | exact (hsx2.alloc _).drew | exact hsx2.alloc _ | exact hsx9.out | exact hsx9.out.drew | exact hHeld
  clear hK K
  try simp only [Act.put, List.setIfInBounds_toArray, List.set_cons_zero, List.set_cons_succ]
  refine wpAnyH_take (i := 5) (oi := ⟨some 12, _, _, _, _, _⟩) (v := ?_) rfl (by kernel_rfl) (by kernel_rfl) (by kernel_rfl) (fun _ _ _ h => h) (Or.inl ⟨by rfl, ?_⟩) (by assumption) ?_
  rotate_left
  · (intro w hSw; (try dsimp only at hSw); go_simp; try with_reducible rfl)
  try simp only [Act.put, List.setIfInBounds_toArray, List.set_cons_zero, List.set_cons_succ]
  refine wpAnyH_ready (rs := [6]) (by kernel_rfl) (by simp) ?_
  refine AllReadyH.cons (o := ⟨some 13, _, _, _, _, _⟩) rfl (fun K hK => ?_) AllReadyH.nil
  go_simp
  refine hK.out _ _ ?_ (fun hHeld => ?_)
  · (try dsimp only); first | exact HSX1.out | exact HSX1.out.drew | exact (HSX1.out.alloc _).drew | exact HSX1.out.alloc _ | exact hsx2 | exact hsx2.drew | exact (hsx2.alloc _).drew | exact hsx2.alloc _ | exact hsx9.out | exact hsx9.out.drew | exact hHeld
  clear hK K
  try simp only [Act.put, List.setIfInBounds_toArray, List.set_cons_zero, List.set_cons_succ]
  refine wpAnyH_ready (rs := [7]) (by kernel_rfl) (by simp) ?_
  refine AllReadyH.cons (o := ⟨some 14, _, _, _, _, _⟩) rfl (fun K hK => ?_) AllReadyH.nil
  go_simp
  refine (replay_any w1.heap.size w2.heap.size n P B s c2 A2 b (.slice Al k cl) (.slice none 0 0) (fun _ => 0) ⟨false, [], ans⟩ _ hP hP6 hB hB5 hs hn (RNw.start HO2.out hc2 hsx2.2.2 (by rfl)) (fun w' R hbb h1 h2 => HSRC.out w' R (hHeld.1.trans hbb) h1 h2)).mono ?_
  rintro e w9 ⟨R, X, kv, vt, vl', rfl, hRb, hRp, hRn, hRP, hRB, hRs, hat, hb9, hgo, hfin, hinv⟩
  have hbl9 := hHeld.1.trans hb9
  have hsx9 : Hid (SX w1.heap.size w1 w.heap.size P B s w9) := Lib.hid ⟨hbl9, HSX1.out.2.1.below hbl9 (Nat.le_refl _), hbl9.size⟩
  have HAT := Lib.hid hat; have HGO := Lib.hid hgo; have HFIN := Lib.hid hfin; have HINV := Lib.hid hinv; have HRB := Lib.hid hRb
  clear hat hb9 hgo hfin hinv hHeld hRb hbl9
  go_wp2_with fail
  refine hK.out _ _ ?_ (fun hHeld => ?_)
  · (try dsimp only); first | exact HSX1.out | exact HSX1.out.drew | exact (HSX1.out.alloc _).drew | exact HSX1.out.alloc _ | exact hsx2 | exact hsx2.drew | exact (hsx2.alloc _).drew | exact hsx2.alloc _ | exact hsx9.out | exact hsx9.out.drew | exact hHeld
  clear hK K
  try simp only [Act.put, List.setIfInBounds_toArray, List.set_cons_zero, List.set_cons_succ]
  refine wpAnyH_take (i := 8) (oi := ⟨some 6, _, _, _, _, _⟩) (v := ?_) rfl (by kernel_rfl) (by kernel_rfl) (by kernel_rfl) (fun _ _ _ h => h) (Or.inl ⟨by rfl, ?_⟩) (by assumption) ?_
  rotate_left
  · (intro w hSw; (try dsimp only at hSw); go_simp; try with_reducible rfl)
  try simp only [Act.put, List.setIfInBounds_toArray, List.set_cons_zero, List.set_cons_succ]
  refine wpAnyH_done (by kernel_rfl) ?_ _
  go_wp2_with fail
  go_ret
  exact ⟨R, X, kv, vt, vl', _, by rw [hRp]; rfl, hRn, hRP, hRB, hRs, by rw [HRB.out]; exact hlt1, HAT.out, (HB1.out.trans (hsx9.out.1.mono (Nat.le_of_lt hlt1))), HGO.out, HFIN.out, HINV.out⟩
theorem Check_err {P B : Int} (h : ¬ checkE P B = 0) : checkE P B = 2 := by
  unfold checkE at *
  split at h <;> first | rfl | exact absurd rfl h | (rename_i g; rw [if_pos g])
set_option maxRecDepth 100000 in
set_option maxHeartbeats 4000000 in
theorem refRun_ok (A A' : Option Addr) (n c c' P B s : Nat) (b y : List Bool) (w : World) (hP : 1 ≤ P) (hP6 : P ≤ 6) (hB : 1 ≤ B) (hB5 : B ≤ 512) (hs : s < two64) (hn : n ≤ 512) (hnc : n ≤ c') (h : Rd w w.heap.size 1 A n (b.map Value.bool)) (h' : Rd w w.heap.size 1 A' n (y.map Value.bool)) :
    Calls Try.prog 15 #[casV P B s, .slice A n c, .slice A' n c'] w (RunP n P B s b y w) := by
  obtain ⟨i0, hi0, hz0, hz1, hz2⟩ := info_parts info_bool
  have HI0 := Lib.hid hi0; have HZ0 := Lib.hid hz0; have HZ1 := Lib.hid hz1; have HZ2 := Lib.hid hz2
  have hsn : checkE P B = 0 := checkE_ok.2 ⟨by omega, by omega, by omega, by omega⟩
  have H := Lib.hid h; have H' := Lib.hid h'; have HS := Lib.hid hsn
  clear h h' hsn hi0 hz0 hz1 hz2
  have hne : ((n : Int) != (n : Int)) = false := by simp
  have hn5 : (n : Int) ≤ 512 := by omega
  go_enter Try.func15, Try.ntmps15
  go_wp2_with fail
  refine (refCheck_ex _ _ _ _).mono ?_
  rintro e w1 ⟨⟨E, hE, rfl⟩, hs1, hb1⟩
  obtain rfl : E = 0 := hE.trans HS.out
  have Bw1 : Below w.heap.size w w1 := ((Below.refl _ _).alloc (Nat.le_refl _) _).trans (hb1.mono (by simp))
  have hlt1 : w.heap.size < w1.heap.size := by rw [hs1]; simp; omega
  have HSX1 : Hid (SX w1.heap.size w1 w.heap.size P B s w1) := Lib.hid ⟨Below.refl _ _, (PlanAt.new w P B s).past hb1, Nat.le_refl _⟩
  have HAF := Lib.hid (made_rd (H.out.past Bw1))
  have HSRC : Hid (∀ (w' : World) (R : RLay), Below w1.heap.size w1 w' → R.base = w1.heap.size → R.n = n → RSrc w' R ⟨true, y, []⟩ (.slice none 0 0) (.slice A' n c') 0) := Lib.hid (fun w' R hb h1 h2 => by
    unfold RSrc
    rw [if_pos rfl]
    refine ⟨⟨A', c', by rw [h2], by rw [h2]; exact hnc, ?_⟩, rfl, rfl⟩
    rw [h1, h2]
    exact (H'.out.past Bw1).below hb)
  have HB1 := Lib.hid Bw1
  clear hE hs1 hb1 HS H H' Bw1
  go_wp2_with fail
  refine wp_region_held_drew (S := fun w' => SX w1.heap.size w1 w.heap.size P B s w') (by kernel_rfl) ?_ (fun hHeld => ?_)
  · (try dsimp only); first | exact HSX1.out | exact HSX1.out.drew | exact (HSX1.out.alloc _).drew | exact HSX1.out.alloc _ | exact hsx2 | exact hsx2.drew | exact (hsx2.alloc _).drew | exact hsx2.alloc _ | exact hsx9.out | exact hsx9.out.drew | exact hHeld
  refine wpAnyH_take (i := 0) (oi := ⟨some 26, _, _, _, _, _⟩) (v := .agg #[.int .i64 P, .int .i64 B, .int .u64 s]) rfl (by kernel_rfl) (by kernel_rfl) (by kernel_rfl) (fun _ _ _ h => h) (Or.inl ⟨by rfl, ?_⟩) (by assumption) ?_
  · (intro w hSw; (try dsimp only at hSw); have h0 := hSw.2.1.c0; have h1 := hSw.2.1.c1; have h2 := hSw.2.1.c2; go_simp)
  try simp only [Act.put, List.setIfInBounds_toArray, List.set_cons_zero, List.set_cons_succ]
  refine wpAnyH_take (i := 2) (oi := ⟨some 28, _, _, _, _, _⟩) (v := ?_) rfl (by kernel_rfl) (by kernel_rfl) (by kernel_rfl) (fun _ _ _ h => h) (Or.inl ⟨by rfl, ?_⟩) (by assumption) ?_
  rotate_left
  · (intro w hSw; (try dsimp only at hSw); go_simp; try with_reducible rfl)
  try simp only [Act.put, List.setIfInBounds_toArray, List.set_cons_zero, List.set_cons_succ]
  refine wpAnyH_take (i := 4) (oi := ⟨some 30, _, _, _, _, _⟩) (v := ?_) rfl (by kernel_rfl) (by kernel_rfl) (by kernel_rfl) (fun _ _ _ h => h) (Or.inl ⟨by rfl, ?_⟩) (by assumption) ?_
  rotate_left
  · (intro w hSw; (try dsimp only at hSw); go_simp; try with_reducible rfl)
  try simp only [Act.put, List.setIfInBounds_toArray, List.set_cons_zero, List.set_cons_succ]
  refine wpAnyH_ready (rs := [1]) (by kernel_rfl) (by simp) ?_
  refine AllReadyH.cons (o := ⟨some 27, _, _, _, _, _⟩) rfl (fun K hK => ?_) AllReadyH.nil
  go_simp
  refine hK.out _ _ ?_ (fun hHeld => ?_)
  · (try dsimp only); first | exact HSX1.out | exact HSX1.out.drew | exact (HSX1.out.alloc _).drew | exact HSX1.out.alloc _ | exact hsx2 | exact hsx2.drew | exact (hsx2.alloc _).drew | exact hsx2.alloc _ | exact hsx9.out | exact hsx9.out.drew | exact hHeld
  clear hK K
  try simp only [Act.put, List.setIfInBounds_toArray, List.set_cons_zero, List.set_cons_succ]
  obtain ⟨wm, hwm⟩ : ∃ z, z = (w1.alloc (.cells #[] 4)).drew := ⟨_, rfl⟩
  rw [← hwm] at hHeld ⊢
  obtain ⟨hmade, hrd⟩ := HAF.out _ hwm
  have HMM := Lib.hid hHeld
  have hszm : w1.heap.size ≤ wm.heap.size := hHeld.2.2
  clear hwm
  refine wpAnyH_ready (rs := [3]) (by kernel_rfl) (by simp) ?_
  refine AllReadyH.cons (o := ⟨some 29, _, _, _, _, _⟩) rfl (fun K hK => ?_) AllReadyH.nil
  refine step_append_rd wm rfl (.tmp 27) (.tmp 28) _ (by rfl) w1.heap.size 4 i0 _ 1 1 Try.underlying25 HI0.out HZ0.out HZ1.out HZ2.out rfl (by decide) _ 0 [] (by rfl) hmade _ A n c _ (by rfl) hrd (by intro u hu; obtain ⟨_, _, rfl⟩ := List.mem_map.1 hu; rfl) (by unfold maxLen; omega) (by omega) hszm ?_
  intro v2 w2 hown2 hg2
  rw [Nat.zero_add, List.nil_append] at hown2
  obtain ⟨A2, c2, rfl, hc2⟩ := own_form hown2
  have hb2 : Below w1.heap.size wm w2 := (Below.refl _ _).grown hg2 hszm (fun g hg => by cases hg; exact Nat.le_refl _)
  have hsx2 := HMM.out.grow hmade (by decide) hg2 hb2
  have HO2 := Lib.hid hown2
  clear hown2 hg2 hb2
  refine hK.out _ _ ?_ (fun hHeld => ?_)
  · (try dsimp only); first | exact HSX1.out | exact HSX1.out.drew | exact (HSX1.out.alloc _).drew | exact HSX1.out.alloc _ | exact hsx2 | exact hsx2.drew | exact (hsx2.alloc _).drew | exact hsx2.alloc _ | exact hsx9.out | exact hsx9.out.drew | exact hHeld
  clear hK K
  try simp only [Act.put, List.setIfInBounds_toArray, List.set_cons_zero, List.set_cons_succ]
  refine wpAnyH_take (i := 5) (oi := ⟨some 31, _, _, _, _, _⟩) (v := ?_) rfl (by kernel_rfl) (by kernel_rfl) (by kernel_rfl) (fun _ _ _ h => h) (Or.inl ⟨by rfl, ?_⟩) (by assumption) ?_
  rotate_left
  · (intro w hSw; (try dsimp only at hSw); go_simp; try with_reducible rfl)
  try simp only [Act.put, List.setIfInBounds_toArray, List.set_cons_zero, List.set_cons_succ]
  refine wpAnyH_ready (rs := [6]) (by kernel_rfl) (by simp) ?_
  refine AllReadyH.cons (o := ⟨some 32, _, _, _, _, _⟩) rfl (fun K hK => ?_) AllReadyH.nil
  go_simp
  refine hK.out _ _ ?_ (fun hHeld => ?_)
  · (try dsimp only); first | exact HSX1.out | exact HSX1.out.drew | exact (HSX1.out.alloc _).drew | exact HSX1.out.alloc _ | exact hsx2 | exact hsx2.drew | exact (hsx2.alloc _).drew | exact hsx2.alloc _ | exact hsx9.out | exact hsx9.out.drew | exact hHeld
  clear hK K
  try simp only [Act.put, List.setIfInBounds_toArray, List.set_cons_zero, List.set_cons_succ]
  refine wpAnyH_ready (rs := [7]) (by kernel_rfl) (by simp) ?_
  refine AllReadyH.cons (o := ⟨some 33, _, _, _, _, _⟩) rfl (fun K hK => ?_) AllReadyH.nil
  go_simp
  refine (replay_any w1.heap.size w2.heap.size n P B s c2 A2 b (.slice none 0 0) (.slice A' n c') (fun _ => 0) ⟨true, y, []⟩ _ hP hP6 hB hB5 hs hn (RNw.start HO2.out hc2 hsx2.2.2 (by rfl)) (fun w' R hbb h1 h2 => HSRC.out w' R (hHeld.1.trans hbb) h1 h2)).mono ?_
  rintro e w9 ⟨R, X, kv, vt, vl', rfl, hRb, hRp, hRn, hRP, hRB, hRs, hat, hb9, hgo, hfin, hinv⟩
  have hbl9 := hHeld.1.trans hb9
  have hsx9 : Hid (SX w1.heap.size w1 w.heap.size P B s w9) := Lib.hid ⟨hbl9, HSX1.out.2.1.below hbl9 (Nat.le_refl _), hbl9.size⟩
  have HAT := Lib.hid hat; have HGO := Lib.hid hgo; have HFIN := Lib.hid hfin; have HINV := Lib.hid hinv; have HRB := Lib.hid hRb
  clear hat hb9 hgo hfin hinv hHeld hRb hbl9
  go_wp2_with fail
  refine hK.out _ _ ?_ (fun hHeld => ?_)
  · (try dsimp only); first | exact HSX1.out | exact HSX1.out.drew | exact (HSX1.out.alloc _).drew | exact HSX1.out.alloc _ | exact hsx2 | exact hsx2.drew | exact (hsx2.alloc _).drew | exact hsx2.alloc _ | exact hsx9.out | exact hsx9.out.drew | exact hHeld
  clear hK K
  try simp only [Act.put, List.setIfInBounds_toArray, List.set_cons_zero, List.set_cons_succ]
  refine wpAnyH_take (i := 8) (oi := ⟨some 9, _, _, _, _, _⟩) (v := ?_) rfl (by kernel_rfl) (by kernel_rfl) (by kernel_rfl) (fun _ _ _ h => h) (Or.inl ⟨by rfl, ?_⟩) (by assumption) ?_
  rotate_left
  · (intro w hSw; (try dsimp only at hSw); go_simp; try with_reducible rfl)
  try simp only [Act.put, List.setIfInBounds_toArray, List.set_cons_zero, List.set_cons_succ]
  refine wpAnyH_done (by kernel_rfl) ?_ _
  subst hRn hRP hRB hRs
  rw [← hRp]
  clear hRp
  have c5 : w9.cell? ⟨R.p, 5, none⟩ = some (.slice R.Ab R.n R.cbt) := HAT.out.cell 5
  have c7 : w9.cell? ⟨R.p, 7, none⟩ = some vt := HAT.out.cell 7
  have HB9 := Lib.hid (HB1.out.trans (hsx9.out.1.mono (Nat.le_of_lt hlt1)))
  clear hsx9
  go_wp2_with fail
  go_region
  go_wp2_with fail
  go_ret3
  have hat := HAT.out.q (⟨1, rfl⟩ : Qw w9 w9.drew)
  obtain ⟨At, ct, hvt, hct⟩ := own_form hat.told
  have hbs : w.heap.size ≤ R.base := by rw [HRB.out]; exact Nat.le_of_lt hlt1
  have ht := ownsRow_mono hat.told hbs
  rw [hvt] at ht
  have hop : X.opn = false := by
    rcases HFIN.out.2 with h | h
    · exact h
    · exact absurd h (by unfold oR; rw [if_pos rfl]; simp)
  refine ⟨R.Ab, R.cbt, At, ct, X, by rw [hvt]; rfl, ?_, hop, HINV.out.len hP6 hn, hat.st.pc.2.2, hct, ownsRow_mono hat.bits hbs, ht, HB9.out.trans (Qw.below (⟨1, rfl⟩ : Qw w9 w9.drew) _)⟩
  have hg := HGO.out
  rw [oR_true] at hg
  exact hg
end Go.Proofs.Ytoofnkkbebjldaa
