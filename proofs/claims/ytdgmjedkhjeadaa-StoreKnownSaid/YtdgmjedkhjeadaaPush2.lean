/- append of one element onto an own row, and where the new row lies. Conditions: as each statement says. -/
import Derived.Test.YtdgmjedkhjeadaaPush
import Derived.Maps.AppendAt
namespace Go.Proofs.Ytdgmjedkhjeadaa
open Go.RowKit
section
variable {P : Program} {t e : TypeId} {size bytes : Nat}
/-- The row's block is the old one's, or new. -/
def Lies (v v' : Value) (H : Nat) : Prop := v'.ownBlock = v.ownBlock ∨ v'.ownBlock = some H
theorem run_pushL (T : ElemB P t e size bytes) (ty : TypeId) (B : Nat) (v : Value) (n : Nat) (xs : List Value) (wa : World) (hown : wa.ownsRow B e size v n xs) (us : Array Value) (tu : TypeId) (hus : us.size = size) (h1 : ∀ u ∈ us.toList, u.oneCell' = true)
    (hn : n ≤ 1099511627776) (hb : bytes ≤ 64) (hB : B ≤ wa.heap.size) :
    ∃ v' w', (Builtin.append_ #[t, t] ty #[v, .slice (some ⟨wa.heap.size, 0, none⟩) 1 1]).run P (wa.alloc (.cells us tu)) = .ok v' w' ∧ w'.ownsRow B e size v' (n + 1) (xs ++ us.toList) ∧ Below B wa w' ∧ wa.grownBy w' v.ownBlock ∧ Lies v v' (wa.heap.size + 1) := by
  obtain ⟨i, z, ht, hi, hz, hs, hby, hzs, hp⟩ := T
  have hby2 : (n + 1) * bytes ≤ (n + 1) * 64 := Nat.mul_le_mul_left _ hb
  obtain ⟨v', w', hrun, h2, h3, _, h6⟩ := run_append_own_at (P := P) (wa.alloc (.cells us tu)) B t ty e i z size bytes ht hi hz hs hby hzs hp v n xs (hown.alloc _) ⟨wa.heap.size, 0, none⟩ 1 1 us.toList (by simp [hus])
    (fun j u hu => by
      rw [addr_add, Nat.zero_add, cell_of_row _ _ _ _ _ _ (heap_alloc_new wa _)]; simpa using hu) h1 (by unfold maxLen; omega) (by omega) (by simp; omega)
  obtain ⟨h4, h5⟩ := below_push hown hB h3
  exact ⟨v', w', hrun, h2, h4, h5, by simpa [Lies] using h6⟩
theorem wp_pushL {o : Oper} {a : Act} {K : Act → World → Prop} {Q : Exit → Act → World → Prop} {wa : World} {us : Array Value} {tu : TypeId} (T : ElemB P t e size bytes) (s x : Operand)
    (ho : o.op = .call { callee := .builtin .append, args := #[s, x], argTypes := #[t, t] }) (B : Nat) (n : Nat) (xs : List Value) {v : Value} (hs : a.eval s = v) (hown : wa.ownsRow B e size v n xs)
    (hx : a.eval x = .slice (some ⟨wa.heap.size, 0, none⟩) 1 1) (hus : us.size = size) (h1 : ∀ u ∈ us.toList, u.oneCell' = true) (hn : n ≤ 1099511627776) (hb : bytes ≤ 64) (hB : B ≤ wa.heap.size)
    (h : ∀ v' w', w'.ownsRow B e size v' (n + 1) (xs ++ us.toList) → Below B wa w' → wa.grownBy w' v.ownBlock → Lies v v' (wa.heap.size + 1) → K (a.put o.dst v') w') : o.wp P a (wa.alloc (.cells us tu)) K Q := by
  obtain ⟨v', w', hrun, h2, h3, h4, h5⟩ := run_pushL (P := P) T o.type B v n xs wa hown us tu hus h1 hn hb hB
  unfold Oper.wp execOp
  simp only [ho, resolve, invoke, builtin, Sem.run_bind, Sem.run_pure, Result.andThen_ok, List.map_toArray, List.map_cons, List.map_nil, hs, hx, hrun]
  exact h v' w' h2 h3 h4 h5
theorem wpList_pushL {ops : Array Oper} {rest : List Oper} {o : Oper} {a : Act} {Q : Exit → Act → World → Prop} {wa : World} {us : Array Value} {tu : TypeId} (T : ElemB P t e size bytes) (s x : Operand) (hgd : o.guard = none)
    (ho : o.op = .call { callee := .builtin .append, args := #[s, x], argTypes := #[t, t] }) (B : Nat) (n : Nat) (xs : List Value) {v : Value} (hs : a.eval s = v) (hown : wa.ownsRow B e size v n xs)
    (hx : a.eval x = .slice (some ⟨wa.heap.size, 0, none⟩) 1 1) (hus : us.size = size) (h1 : ∀ u ∈ us.toList, u.oneCell' = true) (hn : n ≤ 1099511627776) (hb : bytes ≤ 64) (hB : B ≤ wa.heap.size)
    (h : ∀ v' w', w'.ownsRow B e size v' (n + 1) (xs ++ us.toList) → Below B wa w' → wa.grownBy w' v.ownBlock → Lies v v' (wa.heap.size + 1) → wpList P ops Q rest (a.put o.dst v') w') : wpList P ops Q (o :: rest) a (wa.alloc (.cells us tu)) :=
  wpList_plain hgd fun _ hK => wp_pushL T s x ho B n xs hs hown hx hus h1 hn hb hB fun v' w' h2 h3 h4 h5 => hK _ _ (h v' w' h2 h3 h4 h5)
end
section
variable {P : Program} {t e : TypeId} {size bytes : Nat}
/-- append onto a full slice: nothing that was there changes. -/
theorem run_fullB (T : ElemB P t e size bytes) (ty : TypeId) (w : World) (g n : Nat) (olds : List Value) (ho : Rd w w.heap.size size (some ⟨g, 0, none⟩) n olds) (hn0 : 0 < n) (B2 : Nat) (A : Option Addr) (m c : Nat) (news : List Value) (hr : Rd w B2 size A m news)
    (hm : n + m ≤ 1099511627776) (hb : bytes ≤ 64) :
    ∃ A' c' w', (Builtin.append_ #[t, t] ty #[.slice (some ⟨g, 0, none⟩) n n, .slice A m c]).run P w = .ok (.slice A' (n + m) c') w' ∧ n + m ≤ c' ∧ Rd w' w'.heap.size size A' (n + m) (olds ++ news) ∧ Below w.heap.size w w' := by
  obtain ⟨i, z, ht, hi, hz, hs, hby, hzs, hp⟩ := T
  rcases Nat.eq_zero_or_pos m with h0 | h0
  · subst h0
    obtain rfl : news = [] := List.eq_nil_of_length_eq_zero (by simpa using hr.1)
    refine ⟨some ⟨g, 0, none⟩, n, w, ?_, Nat.le_refl _, by simpa using ho, Below.refl _ _⟩
    rcases A with _ | ad
    · simp [Builtin.append_, run_underlying ht, sizeOf, typeInfo, hi, Builtin.lenOf, Builtin.firstCells, storeCells]
    · have := run_append_room_cells (P := P) w t ty e i ht hi g 0 n n ad 0 c [] (by simp) (by simp) (by simp) (by simp) (by simp) (by simp)
      rw [this]; rfl
  · have hby2 : (n + m) * bytes ≤ (n + m) * 64 := Nat.mul_le_mul_left _ hb
    obtain ⟨b, off, rfl, _, hc⟩ := hr.2 h0
    obtain ⟨b', off', he, _, hc'⟩ := ho.2 hn0
    injection he with he; injection he with e1 e2 _
    subst e1 e2
    obtain ⟨v', w', hrun, h1, h2⟩ := run_append_arg_grows (P := P) w t ty e i z size bytes ht hi hz hs hby hzs hp ⟨g, 0, none⟩ n n olds ho.1 (fun j u hu => by rw [addr_add]; exact hc' j u hu) ⟨b, off, none⟩ m c news hr.1 (fun j u hu => by rw [addr_add]; exact hc j u hu) (by omega) (by unfold maxLen; omega) (by omega)
    obtain ⟨A', c', rfl, hc'⟩ := own_form h1
    exact ⟨A', c', w', hrun, hc', Rd.own h1, (Below.refl _ _).grown h2 (Nat.le_refl _) (fun k hk => by cases hk)⟩
theorem step_fullB {ops : Array Oper} {o : Oper} {a : Act} {K : Act → World → Prop} {Q : Exit → Act → World → Prop} {E : Prop} {w : World} (T : ElemB P t e size bytes) (s x : Operand) (hgd : o.guard = none)
    (ho : o.op = .call { callee := .builtin .append, args := #[s, x], argTypes := #[t, t] }) {g n : Nat} {olds : List Value} (hs : a.eval s = .slice (some ⟨g, 0, none⟩) n n) (hod : Rd w w.heap.size size (some ⟨g, 0, none⟩) n olds) (hn0 : 0 < n)
    {B2 : Nat} {A : Option Addr} {m c : Nat} {news : List Value} (hx : a.eval x = .slice A m c) (hr : Rd w B2 size A m news) (hm : n + m ≤ 1099511627776) (hb : bytes ≤ 64)
    (h : ∀ A' c' w', n + m ≤ c' → Rd w' w'.heap.size size A' (n + m) (olds ++ news) → Below w.heap.size w w' → K (a.put o.dst (.slice A' (n + m) c')) w') :
    if Region.wanted o (yielded ops a.tmps) = true then Oper.wp P o a w K Q else E := by
  rw [if_pos (by simp [Region.wanted, hgd])]
  obtain ⟨A', c', w', hrun, h2, h3, h4⟩ := run_fullB (P := P) T o.type w g n olds hod hn0 B2 A m c news hr hm hb
  unfold Oper.wp execOp
  simp only [ho, resolve, invoke, builtin, Sem.run_bind, Sem.run_pure, Result.andThen_ok, List.map_toArray, List.map_cons, List.map_nil, hs, hx, hrun]
  exact h A' c' w' h2 h3 h4
end
/-- Two rows that lie apart. -/
def Apart (v1 v2 : Value) : Prop := ∀ k, v1.ownBlock = some k → v2.ownBlock ≠ some k
theorem Apart.symm {v1 v2 : Value} (h : Apart v1 v2) : Apart v2 v1 := fun k h1 h2 => h k h2 h1
theorem Apart.none (v : Value) : Apart (.slice none 0 0) v := fun k h => by cases h
theorem Apart.lies {v1 v2 v' : Value} {w : World} {base : Nat} {t : TypeId} {sz n H : Nat} {xs : List Value} (h : Apart v1 v2) (hl : Lies v1 v' H) (ho : w.ownsRow base t sz v2 n xs) (hH : w.heap.size ≤ H) : Apart v' v2 := fun k h1 h2 => by
  rcases hl with hl | hl
  · exact h k (by rw [← hl]; exact h1) h2
  · rw [h1] at hl
    injection hl with hl
    have := (ho.lt k h2).2
    omega
end Go.Proofs.Ytdgmjedkhjeadaa
