/- append of one element that has just been laid, onto a row of the call's own: the laws in a short form. Conditions: as each statement says. -/
import Derived.Test.YtdgmjedkhjeadaaGreatApp
import Derived.ArgAppend
namespace Go.Proofs.YtdgmjedkhjeadaaGreat
open Go.RowKit
theorem one_cell1 {u : Value} (h : u.oneCell' = true) : ∀ x ∈ (#[u] : Array Value).toList, x.oneCell' = true := fun x hx => by simp at hx; subst hx; exact h
/-- What the laws of append ask of an element type. -/
def ElemB (P : Program) (t e : TypeId) (size bytes : Nat) : Prop :=
  ∃ (i : TypeInfo) (z : Value), P.underlying t = some (.slice e) ∧ P.info? e = some i ∧ i.zero = some z ∧ i.size = size ∧ i.bytes = bytes ∧ z.cells.size = size ∧ 0 < size
theorem ElemB.of {P : Program} {t e : TypeId} {z : Value} {size bytes : Nat} (ht : P.underlying t = some (.slice e)) (h : (P.info? e).map (fun i => (i.zero, i.size, i.bytes)) = some (some z, size, bytes)) (hz : z.cells.size = size) (hs : 0 < size) : ElemB P t e size bytes := by
  obtain ⟨i, h1, h2, h3, h4⟩ := info_parts h
  exact ⟨i, z, ht, h1, h2, h3, h4, hz, hs⟩
section
variable {P : Program} {t e : TypeId} {size bytes : Nat}
theorem below_push {B : Nat} {wa w' : World} {o : Obj} {v : Value} {n : Nat} {xs : List Value} (hown : wa.ownsRow B e size v n xs) (hB : B ≤ wa.heap.size) (hg : (wa.alloc o).grownBy w' v.ownBlock) : Below B wa w' ∧ wa.grownBy w' v.ownBlock :=
  ⟨((Below.refl _ _).alloc hB _).grown hg (by simp; omega) (fun k hk => (hown.lt k hk).1),
    ⟨hg.os, hg.tape, hg.output, Nat.le_trans (by simp) hg.size, fun k hk hne => (hg.block k (by simp; omega) hne).trans (Below.heap_alloc _ _ _ hk)⟩⟩
end
section
variable {P : Program} {t e : TypeId} {size bytes : Nat}
theorem run_put (T : ElemB P t e size bytes) (ty : TypeId) (B : Nat) (v : Value) (n : Nat) (xs : List Value) (w : World) (hown : w.ownsRow B e size v n xs) (B2 : Nat) (A : Option Addr) (m c : Nat) (news : List Value) (hr : Rd w B2 size A m news) (h1 : ∀ u ∈ news, u.oneCell' = true)
    (hn : n + m ≤ 1099511627776) (hb : bytes ≤ 64) (hB : B ≤ w.heap.size) :
    ∃ v' w', (Builtin.append_ #[t, t] ty #[v, .slice A m c]).run P w = .ok v' w' ∧ w'.ownsRow B e size v' (n + m) (xs ++ news) ∧ Below B w w' ∧ w.grownBy w' v.ownBlock := by
  obtain ⟨i, z, ht, hi, hz, hs, hby, hzs, hp⟩ := T
  have hby2 : (n + m) * bytes ≤ (n + m) * 64 := Nat.mul_le_mul_left _ hb
  obtain ⟨v', w', hrun, h2, h3⟩ := run_append_rd (P := P) w B t ty e i z size bytes ht hi hz hs hby hzs hp v n xs hown B2 A m c news hr h1 (by unfold maxLen; omega) (by omega) hB
  exact ⟨v', w', hrun, h2, (Below.refl _ _).grown h3 hB (fun k hk => (hown.lt k hk).1), h3⟩
theorem wp_put {o : Oper} {a : Act} {K : Act → World → Prop} {Q : Exit → Act → World → Prop} {w : World} (T : ElemB P t e size bytes) (s x : Operand)
    (ho : o.op = .call { callee := .builtin .append, args := #[s, x], argTypes := #[t, t] }) (B : Nat) (n : Nat) (xs : List Value) {v : Value} (hs : a.eval s = v) (hown : w.ownsRow B e size v n xs)
    {B2 : Nat} {A : Option Addr} {m c : Nat} {news : List Value} (hx : a.eval x = .slice A m c) (hr : Rd w B2 size A m news) (h1 : ∀ u ∈ news, u.oneCell' = true) (hn : n + m ≤ 1099511627776) (hb : bytes ≤ 64) (hB : B ≤ w.heap.size)
    (h : ∀ v' w', w'.ownsRow B e size v' (n + m) (xs ++ news) → Below B w w' → w.grownBy w' v.ownBlock → K (a.put o.dst v') w') : o.wp P a w K Q := by
  obtain ⟨v', w', hrun, h2, h3, h4⟩ := run_put (P := P) T o.type B v n xs w hown B2 A m c news hr h1 hn hb hB
  unfold Oper.wp execOp
  simp only [ho, resolve, invoke, builtin, Sem.run_bind, Sem.run_pure, Result.andThen_ok, List.map_toArray, List.map_cons, List.map_nil, hs, hx, hrun]
  exact h v' w' h2 h3 h4
theorem wpList_put {ops : Array Oper} {rest : List Oper} {o : Oper} {a : Act} {Q : Exit → Act → World → Prop} {w : World} (T : ElemB P t e size bytes) (s x : Operand) (hgd : o.guard = none)
    (ho : o.op = .call { callee := .builtin .append, args := #[s, x], argTypes := #[t, t] }) (B : Nat) (n : Nat) (xs : List Value) {v : Value} (hs : a.eval s = v) (hown : w.ownsRow B e size v n xs)
    {B2 : Nat} {A : Option Addr} {m c : Nat} {news : List Value} (hx : a.eval x = .slice A m c) (hr : Rd w B2 size A m news) (h1 : ∀ u ∈ news, u.oneCell' = true) (hn : n + m ≤ 1099511627776) (hb : bytes ≤ 64) (hB : B ≤ w.heap.size)
    (h : ∀ v' w', w'.ownsRow B e size v' (n + m) (xs ++ news) → Below B w w' → w.grownBy w' v.ownBlock → wpList P ops Q rest (a.put o.dst v') w') : wpList P ops Q (o :: rest) a w :=
  wpList_plain hgd fun _ hK => wp_put T s x ho B n xs hs hown hx hr h1 hn hb hB fun v' w' h2 h3 h4 => hK _ _ (h v' w' h2 h3 h4)
theorem step_put {ops : Array Oper} {o : Oper} {a : Act} {K : Act → World → Prop} {Q : Exit → Act → World → Prop} {E : Prop} {w : World} (T : ElemB P t e size bytes) (s x : Operand) (hgd : o.guard = none)
    (ho : o.op = .call { callee := .builtin .append, args := #[s, x], argTypes := #[t, t] }) (B : Nat) (n : Nat) (xs : List Value) {v : Value} (hs : a.eval s = v) (hown : w.ownsRow B e size v n xs)
    {B2 : Nat} {A : Option Addr} {m c : Nat} {news : List Value} (hx : a.eval x = .slice A m c) (hr : Rd w B2 size A m news) (h1 : ∀ u ∈ news, u.oneCell' = true) (hn : n + m ≤ 1099511627776) (hb : bytes ≤ 64) (hB : B ≤ w.heap.size)
    (h : ∀ v' w', w'.ownsRow B e size v' (n + m) (xs ++ news) → Below B w w' → w.grownBy w' v.ownBlock → K (a.put o.dst v') w') :
    if Region.wanted o (yielded ops a.tmps) = true then Oper.wp P o a w K Q else E := by
  rw [if_pos (by simp [Region.wanted, hgd])]
  exact wp_put T s x ho B n xs hs hown hx hr h1 hn hb hB h
end
section
variable {P : Program} {t e : TypeId} {size bytes : Nat}
end
theorem ownsRow_mono {w : World} {B B' : Nat} {t : TypeId} {sz n : Nat} {v : Value} {xs : List Value} (h : w.ownsRow B t sz v n xs) (hB : B' ≤ B) : w.ownsRow B' t sz v n xs := by
  refine ⟨h.1, ?_⟩
  rcases h.2 with h1 | ⟨g, cap, cur, hv, hg, rest⟩
  · exact .inl h1
  · exact .inr ⟨g, cap, cur, hv, by omega, rest⟩
theorem ownsRow_below {w w' : World} {base B : Nat} {t : TypeId} {sz n : Nat} {v : Value} {xs : List Value} (h : w.ownsRow base t sz v n xs) (hb : Below B w w') (hB : w.heap.size ≤ B) : w'.ownsRow base t sz v n xs := by
  refine ⟨h.1, ?_⟩
  rcases h.2 with h1 | ⟨g, cap, cur, hv, hg, hh, rest⟩
  · exact .inl h1
  · refine .inr ⟨g, cap, cur, hv, hg, ?_, rest⟩
    rw [hb.block _ (by have := (Array.getElem?_eq_some_iff.1 hh).1; omega)]; exact hh
/-- A row of which only the elements below another block are asked. -/
theorem ownsRow_grown {w w' : World} {base : Nat} {t : TypeId} {sz n : Nat} {v : Value} {xs : List Value} {r : Option Nat} (h : w.ownsRow base t sz v n xs) (hg : w.grownBy w' r) (hr : ∀ k, v.ownBlock = some k → some k ≠ r) : w'.ownsRow base t sz v n xs := by
  refine ⟨h.1, ?_⟩
  rcases h.2 with h1 | ⟨g, cap, cur, rfl, hg1, hh, rest⟩
  · exact .inl h1
  · exact .inr ⟨g, cap, cur, rfl, hg1, (hg.block _ (Array.getElem?_eq_some_iff.1 hh).1 (hr g rfl)).trans hh, rest⟩
end Go.Proofs.YtdgmjedkhjeadaaGreat
