/- Ranging over a map with integer keys. Conditions: as each statement says. -/
import Derived.Test.YtdgmjedkhjeadaaGreatSto2
import Derived.Maps.RangeWalk
namespace Go.Proofs.YtdgmjedkhjeadaaGreat
open Go.RowKit
set_option linter.unusedVariables false
/-- What is said of a map's datum. -/
def DatI (D : DataW Value) (l : List Int) (f : Int → Option Value) : Prop :=
  Maps.Tidy D ∧ Maps.size D = l.length ∧ l.Nodup ∧ (∀ x ∈ l, intK.ok x) ∧ (∀ x, intK.ok x → ((f x).isSome = true ↔ x ∈ l)) ∧
    ∀ x, intK.ok x → ∀ kl, keyOf Tryz.prog 3 (intK.kv x) = some kl → Maps.has D kl = (f x).isSome ∧ ∀ z, D.atKey kl (.held z) = .held ((f x).getD z)
/-- A loop over a map is under way: the keys 'rest' are still to come. -/
def RngI (w : World) (b r : Nat) (l rest : List Int) (f : Int → Option Value) : Prop :=
  ∃ D left cnt, w.ranges Tryz.prog 3 rawR b r l.length D left cnt ∧ DatI D l f ∧ rest.Nodup ∧ (∀ x ∈ rest, x ∈ l) ∧ ∀ x, intK.ok x → (left (.int .i64 x) = true ↔ x ∈ rest)
section
variable {w w' : World} {b r : Nat} {l rest : List Int} {f : Int → Option Value}
theorem RngI.mapL (h : RngI w b r l rest f) : MapL intK w b l f := by
  obtain ⟨D, left, cnt, h1, h2, _⟩ := h
  exact ⟨D, h1.owns, h2⟩
theorem RngI.nodup (h : RngI w b r l rest f) : rest.Nodup := by
  obtain ⟨D, left, cnt, _, _, h3, _⟩ := h
  exact h3
theorem RngI.lt (h : RngI w b r l rest f) : r < w.heap.size := by
  obtain ⟨D, left, cnt, h1, _⟩ := h
  exact h1.lt
theorem RngI.kept {row : Option Nat} (h : RngI w b r l rest f) (hg : w.grownBy w' row) (hb : some b ≠ row) (hr : some r ≠ row) : RngI w' b r l rest f := by
  obtain ⟨D, left, cnt, h1, h2⟩ := h
  exact ⟨D, left, cnt, h1.kept hg hb hr, h2⟩
theorem RngI.keepL {L : List Nat} (h : RngI w b r l rest f) (hk : KeepL L w w') (hb : b ∉ L) (hr : r ∉ L) : RngI w' b r l rest f := by
  obtain ⟨D, left, cnt, h1, h2⟩ := h
  have e1 := hk.block b h1.owns.lt hb
  have e2 := hk.block r h1.lt hr
  obtain ⟨es, clock, since, seen, c0, a1, a2, a3, a4, a5, a6⟩ := h1
  exact ⟨D, left, cnt, ⟨es, clock, since, seen, c0, e1.trans a1, a2, a3, a4, e2.trans a5, a6⟩, h2⟩
end
section
variable (w : World) {ops : Array Oper} {orest : List Oper} {o : Oper} {a : Act} {Q : Exit → Act → World → Prop}
/-- 'range m'. -/
theorem wpList_rangeI (hg : o.guard = none) (m : Operand) (t e : TypeId) (hop : o.op = Op.range t m) (ht : Tryz.prog.underlying t = some (.map 3 e)) (b : Nat) (l : List Int) (f : Int → Option Value)
    (hm : a.eval m = .map (some b)) (hown : MapL intK w b l f)
    (hK : ∀ w', RngI w' b w.heap.size l l f → w.grownBy w' none → w'.heap.size = w.heap.size + 1 → wpList Tryz.prog ops Q orest (a.put o.dst (.pointer (some ⟨w.heap.size, 0, none⟩))) w') :
    wpList Tryz.prog ops Q (o :: orest) a w := by
  obtain ⟨D, h1, h2, h3, h4, h5, h6, h7⟩ := hown
  refine wpList_range_own w hg m t hop 3 e intK.law ht rawR b l.length D hm h1 fun w' r1 r2 r3 => hK w' ⟨D, Maps.has D, _, r1, ⟨h2, h3, h4, h5, h6, h7⟩, h4, fun _ h => h, fun x hx => ?_⟩ r2 r3
  have := (h7 x hx _ (Go.Maps.keyOf_int_mk Tryz.underlying3 (WalkArith.wf_i64 hx))).1
  rw [this]
  exact h6 x hx
/-- The step. -/
theorem wpList_nextI (hg : o.guard = none) (it : Operand) (hop : o.op = Op.next it false) (b r : Nat) (l rest : List Int) (f : Int → Option Value)
    (hit : a.eval it = .pointer (some ⟨r, 0, none⟩)) (h : RngI w b r l rest f)
    (hDone : rest = [] → wpList Tryz.prog ops Q orest (a.put o.dst (.tuple #[.bool false])) w)
    (hMore : ∀ (x : Int) (v : Value) (w' : World), x ∈ rest → f x = some v → RngI w' b r l (rest.erase x) f → w.grownBy w' (some r) → w'.heap.size = w.heap.size → w'.rangeLeft b r < w.rangeLeft b r →
      (Instr.entry (.pointer (some ⟨r, 0, none⟩))).run Tryz.prog w' = .ok (.tuple #[.int .i64 x, v]) w' → wpList Tryz.prog ops Q orest (a.put o.dst (.tuple #[.bool true, .int .i64 x, v])) w') :
    wpList Tryz.prog ops Q (o :: orest) a w := by
  obtain ⟨D, left, cnt, h1, h2, h3, h4, h5⟩ := h
  have hd := h2
  obtain ⟨d1, d2, d3, d4, d5, d6⟩ := hd
  refine wpList_next_ranges w hg it hop 3 intK.law rawR (Value.int .i64) id
    (fun key kl hkey => by obtain ⟨x, rfl, _⟩ := Maps.keyOf_int_inv Tryz.underlying3 hkey; exact ⟨x, rfl⟩) (fun v y _ => ⟨v, rfl⟩) b r l.length D left cnt hit h1
    (fun hc hl => hDone (List.eq_nil_iff_forall_not_mem.2 fun x hx => by have := (h5 x (d4 x (h4 x hx))).2 hx; rw [hl] at this; cases this)) fun x c kl y w' cnt' hkey hlk hv hat hrg hlt hgr hsz hen => ?_
  obtain ⟨x', ex, rfl, hwx⟩ := Maps.keyOf_int_inv Tryz.underlying3 hkey
  cases ex
  have hok : intK.ok x := by
    have := hwx
    simp only [Lit.wf, Bool.and_eq_true, decide_eq_true_eq] at this
    have hmin : IntKind.i64.min = -9223372036854775808 := rfl
    have hmax : IntKind.i64.max = 9223372036854775807 := rfl
    exact ⟨by omega, by omega⟩
  have hxr : x ∈ rest := (h5 x hok).1 hlk
  obtain ⟨q1, q2⟩ := d6 x hok _ hkey
  have hfx : f x = some c := by
    have hs : (f x).isSome = true := (d5 x hok).2 (h4 x hxr)
    obtain ⟨u, hu⟩ := Option.isSome_iff_exists.1 hs
    have e1 := q2 (.bool true)
    rw [hat, hu] at e1
    simp only [rawR, id, Option.some.injEq] at hv
    rw [← hv] at e1
    simp only [Option.getD_some, DataW.held.injEq] at e1
    rw [hu, e1]
  refine hMore x c w' hxr hfx ⟨D, _, _, hrg, h2, h3.erase x, fun y hy => h4 y (List.mem_of_mem_erase hy), fun y hy => ?_⟩ hgr hsz (by rw [hrg.left_eq, h1.left_eq]; exact hlt) hen
  have := h5 y hy
  simp only [Bool.and_eq_true, Bool.not_eq_true', this, h3.mem_erase_iff]
  constructor
  · rintro ⟨e1, e2⟩
    refine ⟨fun e => ?_, e1⟩
    subst e
    simp [Lit.sameKey] at e2
  · rintro ⟨e1, e2⟩
    refine ⟨e2, ?_⟩
    simp [Lit.sameKey, e1]
end
end Go.Proofs.YtdgmjedkhjeadaaGreat
