/- append of one element onto an own row, and where the new row lies. Conditions: as each statement says. -/
import Derived.Test.YtdgmjedkhjeadaaGreatPush
import Derived.Maps.AppendAt
namespace Go.Proofs.YtdgmjedkhjeadaaGreat
open Go.RowKit
section
variable {P : Program} {t e : TypeId} {size bytes : Nat}
/-- The row's block is the old one's, or new. -/
def Lies (v v' : Value) (H : Nat) : Prop := v'.ownBlock = v.ownBlock ∨ v'.ownBlock = some H
theorem run_pushL (T : ElemB P t e size bytes) (ty : TypeId) (B : Nat) (v : Value) (n : Nat) (xs : List Value) (wa : World) (hown : wa.ownsRow B e size v n xs) (us : Array Value) (tu : TypeId) (hus : us.size = size) (h1 : ∀ u ∈ us.toList, u.oneCell' = true)
    (hn : n ≤ 1099511627776) (hb : bytes ≤ 64) (hB : B ≤ wa.heap.size) :
    ∃ v' w', (Builtin.append_ #[t, t] ty #[v, .slice (some ⟨wa.heap.size, 0, none⟩) 1 1]).run P (wa.alloc (.cells us tu)) = .ok v' w' ∧ w'.ownsRow B e size v' (n + 1) (xs ++ us.toList) ∧ Below B wa w' ∧ wa.grownBy w' v.ownBlock ∧ Lies v v' (wa.heap.size + 1) := by
  obtain ⟨i, z, ht, hi, hz, hs, hby, hzs, hp⟩ := T
  have hby2 : (n + 1) * bytes ≤ (n + 1) * 64 := Nat.mul_le_mul_left _ hb
  obtain ⟨v', w', hrun, h2, h3, _, h6⟩ := run_append_own_at (P := P) (wa.alloc (.cells us tu)) B t ty e i z size bytes ht hi hz hs hby hzs hp v n xs (hown.alloc _) ⟨wa.heap.size, 0, none⟩ 1 1 us.toList (by simp [hus])
    (fun j u hu => by
      rw [addr_add, Nat.zero_add, cell_of_row _ _ _ _ _ _ (heap_alloc_new wa _)]; simpa using hu) h1 (by unfold maxLen; omega) (by omega) (by simp; omega)
  obtain ⟨h4, h5⟩ := below_push hown hB h3
  exact ⟨v', w', hrun, h2, h4, h5, by simpa [Lies] using h6⟩
theorem wp_pushL {o : Oper} {a : Act} {K : Act → World → Prop} {Q : Exit → Act → World → Prop} {wa : World} {us : Array Value} {tu : TypeId} (T : ElemB P t e size bytes) (s x : Operand)
    (ho : o.op = .call { callee := .builtin .append, args := #[s, x], argTypes := #[t, t] }) (B : Nat) (n : Nat) (xs : List Value) {v : Value} (hs : a.eval s = v) (hown : wa.ownsRow B e size v n xs)
    (hx : a.eval x = .slice (some ⟨wa.heap.size, 0, none⟩) 1 1) (hus : us.size = size) (h1 : ∀ u ∈ us.toList, u.oneCell' = true) (hn : n ≤ 1099511627776) (hb : bytes ≤ 64) (hB : B ≤ wa.heap.size)
    (h : ∀ v' w', w'.ownsRow B e size v' (n + 1) (xs ++ us.toList) → Below B wa w' → wa.grownBy w' v.ownBlock → Lies v v' (wa.heap.size + 1) → K (a.put o.dst v') w') : o.wp P a (wa.alloc (.cells us tu)) K Q := by
  obtain ⟨v', w', hrun, h2, h3, h4, h5⟩ := run_pushL (P := P) T o.type B v n xs wa hown us tu hus h1 hn hb hB
  unfold Oper.wp execOp
  simp only [ho, resolve, invoke, builtin, Sem.run_bind, Sem.run_pure, Result.andThen_ok, List.map_toArray, List.map_cons, List.map_nil, hs, hx, hrun]
  exact h v' w' h2 h3 h4 h5
theorem wpList_pushL {ops : Array Oper} {rest : List Oper} {o : Oper} {a : Act} {Q : Exit → Act → World → Prop} {wa : World} {us : Array Value} {tu : TypeId} (T : ElemB P t e size bytes) (s x : Operand) (hgd : o.guard = none)
    (ho : o.op = .call { callee := .builtin .append, args := #[s, x], argTypes := #[t, t] }) (B : Nat) (n : Nat) (xs : List Value) {v : Value} (hs : a.eval s = v) (hown : wa.ownsRow B e size v n xs)
    (hx : a.eval x = .slice (some ⟨wa.heap.size, 0, none⟩) 1 1) (hus : us.size = size) (h1 : ∀ u ∈ us.toList, u.oneCell' = true) (hn : n ≤ 1099511627776) (hb : bytes ≤ 64) (hB : B ≤ wa.heap.size)
    (h : ∀ v' w', w'.ownsRow B e size v' (n + 1) (xs ++ us.toList) → Below B wa w' → wa.grownBy w' v.ownBlock → Lies v v' (wa.heap.size + 1) → wpList P ops Q rest (a.put o.dst v') w') : wpList P ops Q (o :: rest) a (wa.alloc (.cells us tu)) :=
  wpList_plain hgd fun _ hK => wp_pushL T s x ho B n xs hs hown hx hus h1 hn hb hB fun v' w' h2 h3 h4 h5 => hK _ _ (h v' w' h2 h3 h4 h5)
end
section
variable {P : Program} {t e : TypeId} {size bytes : Nat}
end
/-- Two rows that lie apart. -/
def Apart (v1 v2 : Value) : Prop := ∀ k, v1.ownBlock = some k → v2.ownBlock ≠ some k
theorem Apart.symm {v1 v2 : Value} (h : Apart v1 v2) : Apart v2 v1 := fun k h1 h2 => h k h2 h1
theorem Apart.none (v : Value) : Apart (.slice none 0 0) v := fun k h => by cases h
theorem Apart.lies {v1 v2 v' : Value} {w : World} {base : Nat} {t : TypeId} {sz n H : Nat} {xs : List Value} (h : Apart v1 v2) (hl : Lies v1 v' H) (ho : w.ownsRow base t sz v2 n xs) (hH : w.heap.size ≤ H) : Apart v' v2 := fun k h1 h2 => by
  rcases hl with hl | hl
  · exact h k (by rw [← hl]; exact h1) h2
  · rw [h1] at hl
    injection hl with hl
    have := (ho.lt k h2).2
    omega
end Go.Proofs.YtdgmjedkhjeadaaGreat
