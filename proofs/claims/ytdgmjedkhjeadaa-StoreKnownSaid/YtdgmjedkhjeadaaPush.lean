/- append of one element that has just been laid, onto a row of the call's own: the laws in a short form. Conditions: as each statement says. -/
import Derived.Test.YtdgmjedkhjeadaaApp
import Derived.ArgAppend
namespace Go.Proofs.Ytdgmjedkhjeadaa
open Go.RowKit
theorem one_cell1 {u : Value} (h : u.oneCell' = true) : ∀ x ∈ (#[u] : Array Value).toList, x.oneCell' = true := fun x hx => by simp at hx; subst hx; exact h
/-- What the laws of append ask of an element type. -/
def ElemB (P : Program) (t e : TypeId) (size bytes : Nat) : Prop :=
  ∃ (i : TypeInfo) (z : Value), P.underlying t = some (.slice e) ∧ P.info? e = some i ∧ i.zero = some z ∧ i.size = size ∧ i.bytes = bytes ∧ z.cells.size = size ∧ 0 < size
theorem ElemB.of {P : Program} {t e : TypeId} {z : Value} {size bytes : Nat} (ht : P.underlying t = some (.slice e)) (h : (P.info? e).map (fun i => (i.zero, i.size, i.bytes)) = some (some z, size, bytes)) (hz : z.cells.size = size) (hs : 0 < size) : ElemB P t e size bytes := by
  obtain ⟨i, h1, h2, h3, h4⟩ := info_parts h
  exact ⟨i, z, ht, h1, h2, h3, h4, hz, hs⟩
section
variable {P : Program} {t e : TypeId} {size bytes : Nat}
theorem below_push {B : Nat} {wa w' : World} {o : Obj} {v : Value} {n : Nat} {xs : List Value} (hown : wa.ownsRow B e size v n xs) (hB : B ≤ wa.heap.size) (hg : (wa.alloc o).grownBy w' v.ownBlock) : Below B wa w' ∧ wa.grownBy w' v.ownBlock :=
  ⟨((Below.refl _ _).alloc hB _).grown hg (by simp; omega) (fun k hk => (hown.lt k hk).1),
    ⟨hg.os, hg.tape, hg.output, Nat.le_trans (by simp) hg.size, fun k hk hne => (hg.block k (by simp; omega) hne).trans (Below.heap_alloc _ _ _ hk)⟩⟩
theorem run_push (T : ElemB P t e size bytes) (ty : TypeId) (B : Nat) (v : Value) (n : Nat) (xs : List Value) (wa : World) (hown : wa.ownsRow B e size v n xs) (us : Array Value) (tu : TypeId) (hus : us.size = size) (h1 : ∀ u ∈ us.toList, u.oneCell' = true)
    (hn : n ≤ 1099511627776) (hb : bytes ≤ 64) (hB : B ≤ wa.heap.size) :
    ∃ v' w', (Builtin.append_ #[t, t] ty #[v, .slice (some ⟨wa.heap.size, 0, none⟩) 1 1]).run P (wa.alloc (.cells us tu)) = .ok v' w' ∧ w'.ownsRow B e size v' (n + 1) (xs ++ us.toList) ∧ Below B wa w' ∧ wa.grownBy w' v.ownBlock := by
  obtain ⟨i, z, ht, hi, hz, hs, hby, hzs, hp⟩ := T
  have hby2 : (n + 1) * bytes ≤ (n + 1) * 64 := Nat.mul_le_mul_left _ hb
  obtain ⟨v', w', hrun, h2, h3, _⟩ := run_append_own (P := P) (wa.alloc (.cells us tu)) B t ty e i z size bytes ht hi hz hs hby hzs hp v n xs (hown.alloc _) ⟨wa.heap.size, 0, none⟩ 1 1 us.toList (by simp [hus])
    (fun j u hu => by
      rw [addr_add, Nat.zero_add, cell_of_row _ _ _ _ _ _ (heap_alloc_new wa _)]; simpa using hu) h1 (by unfold maxLen; omega) (by omega) (by simp; omega)
  obtain ⟨h4, h5⟩ := below_push hown hB h3
  exact ⟨v', w', hrun, h2, h4, h5⟩
theorem wp_push {o : Oper} {a : Act} {K : Act → World → Prop} {Q : Exit → Act → World → Prop} {wa : World} {us : Array Value} {tu : TypeId} (T : ElemB P t e size bytes) (s x : Operand)
    (ho : o.op = .call { callee := .builtin .append, args := #[s, x], argTypes := #[t, t] }) (B : Nat) (n : Nat) (xs : List Value) {v : Value} (hs : a.eval s = v) (hown : wa.ownsRow B e size v n xs)
    (hx : a.eval x = .slice (some ⟨wa.heap.size, 0, none⟩) 1 1) (hus : us.size = size) (h1 : ∀ u ∈ us.toList, u.oneCell' = true) (hn : n ≤ 1099511627776) (hb : bytes ≤ 64) (hB : B ≤ wa.heap.size)
    (h : ∀ v' w', w'.ownsRow B e size v' (n + 1) (xs ++ us.toList) → Below B wa w' → wa.grownBy w' v.ownBlock → K (a.put o.dst v') w') : o.wp P a (wa.alloc (.cells us tu)) K Q := by
  obtain ⟨v', w', hrun, h2, h3, h4⟩ := run_push (P := P) T o.type B v n xs wa hown us tu hus h1 hn hb hB
  unfold Oper.wp execOp
  simp only [ho, resolve, invoke, builtin, Sem.run_bind, Sem.run_pure, Result.andThen_ok, List.map_toArray, List.map_cons, List.map_nil, hs, hx, hrun]
  exact h v' w' h2 h3 h4
theorem wpList_push {ops : Array Oper} {rest : List Oper} {o : Oper} {a : Act} {Q : Exit → Act → World → Prop} {wa : World} {us : Array Value} {tu : TypeId} (T : ElemB P t e size bytes) (s x : Operand) (hgd : o.guard = none)
    (ho : o.op = .call { callee := .builtin .append, args := #[s, x], argTypes := #[t, t] }) (B : Nat) (n : Nat) (xs : List Value) {v : Value} (hs : a.eval s = v) (hown : wa.ownsRow B e size v n xs)
    (hx : a.eval x = .slice (some ⟨wa.heap.size, 0, none⟩) 1 1) (hus : us.size = size) (h1 : ∀ u ∈ us.toList, u.oneCell' = true) (hn : n ≤ 1099511627776) (hb : bytes ≤ 64) (hB : B ≤ wa.heap.size)
    (h : ∀ v' w', w'.ownsRow B e size v' (n + 1) (xs ++ us.toList) → Below B wa w' → wa.grownBy w' v.ownBlock → wpList P ops Q rest (a.put o.dst v') w') : wpList P ops Q (o :: rest) a (wa.alloc (.cells us tu)) :=
  wpList_plain hgd fun _ hK => wp_push T s x ho B n xs hs hown hx hus h1 hn hb hB fun v' w' h2 h3 h4 => hK _ _ (h v' w' h2 h3 h4)
theorem step_push {ops : Array Oper} {o : Oper} {a : Act} {K : Act → World → Prop} {Q : Exit → Act → World → Prop} {E : Prop} {wa : World} {us : Array Value} {tu : TypeId} (T : ElemB P t e size bytes) (s x : Operand) (hgd : o.guard = none)
    (ho : o.op = .call { callee := .builtin .append, args := #[s, x], argTypes := #[t, t] }) (B : Nat) (n : Nat) (xs : List Value) {v : Value} (hs : a.eval s = v) (hown : wa.ownsRow B e size v n xs)
    (hx : a.eval x = .slice (some ⟨wa.heap.size, 0, none⟩) 1 1) (hus : us.size = size) (h1 : ∀ u ∈ us.toList, u.oneCell' = true) (hn : n ≤ 1099511627776) (hb : bytes ≤ 64) (hB : B ≤ wa.heap.size)
    (h : ∀ v' w', w'.ownsRow B e size v' (n + 1) (xs ++ us.toList) → Below B wa w' → wa.grownBy w' v.ownBlock → K (a.put o.dst v') w') :
    if Region.wanted o (yielded ops a.tmps) = true then Oper.wp P o a (wa.alloc (.cells us tu)) K Q else E := by
  rw [if_pos (by simp [Region.wanted, hgd])]
  exact wp_push T s x ho B n xs hs hown hx hus h1 hn hb hB h
end
section
variable {P : Program} {t e : TypeId} {size bytes : Nat}
theorem run_put (T : ElemB P t e size bytes) (ty : TypeId) (B : Nat) (v : Value) (n : Nat) (xs : List Value) (w : World) (hown : w.ownsRow B e size v n xs) (B2 : Nat) (A : Option Addr) (m c : Nat) (news : List Value) (hr : Rd w B2 size A m news) (h1 : ∀ u ∈ news, u.oneCell' = true)
    (hn : n + m ≤ 1099511627776) (hb : bytes ≤ 64) (hB : B ≤ w.heap.size) :
    ∃ v' w', (Builtin.append_ #[t, t] ty #[v, .slice A m c]).run P w = .ok v' w' ∧ w'.ownsRow B e size v' (n + m) (xs ++ news) ∧ Below B w w' ∧ w.grownBy w' v.ownBlock := by
  obtain ⟨i, z, ht, hi, hz, hs, hby, hzs, hp⟩ := T
  have hby2 : (n + m) * bytes ≤ (n + m) * 64 := Nat.mul_le_mul_left _ hb
  obtain ⟨v', w', hrun, h2, h3⟩ := run_append_rd (P := P) w B t ty e i z size bytes ht hi hz hs hby hzs hp v n xs hown B2 A m c news hr h1 (by unfold maxLen; omega) (by omega) hB
  exact ⟨v', w', hrun, h2, (Below.refl _ _).grown h3 hB (fun k hk => (hown.lt k hk).1), h3⟩
theorem wp_put {o : Oper} {a : Act} {K : Act → World → Prop} {Q : Exit → Act → World → Prop} {w : World} (T : ElemB P t e size bytes) (s x : Operand)
    (ho : o.op = .call { callee := .builtin .append, args := #[s, x], argTypes := #[t, t] }) (B : Nat) (n : Nat) (xs : List Value) {v : Value} (hs : a.eval s = v) (hown : w.ownsRow B e size v n xs)
    {B2 : Nat} {A : Option Addr} {m c : Nat} {news : List Value} (hx : a.eval x = .slice A m c) (hr : Rd w B2 size A m news) (h1 : ∀ u ∈ news, u.oneCell' = true) (hn : n + m ≤ 1099511627776) (hb : bytes ≤ 64) (hB : B ≤ w.heap.size)
    (h : ∀ v' w', w'.ownsRow B e size v' (n + m) (xs ++ news) → Below B w w' → w.grownBy w' v.ownBlock → K (a.put o.dst v') w') : o.wp P a w K Q := by
  obtain ⟨v', w', hrun, h2, h3, h4⟩ := run_put (P := P) T o.type B v n xs w hown B2 A m c news hr h1 hn hb hB
  unfold Oper.wp execOp
  simp only [ho, resolve, invoke, builtin, Sem.run_bind, Sem.run_pure, Result.andThen_ok, List.map_toArray, List.map_cons, List.map_nil, hs, hx, hrun]
  exact h v' w' h2 h3 h4
theorem wpList_put {ops : Array Oper} {rest : List Oper} {o : Oper} {a : Act} {Q : Exit → Act → World → Prop} {w : World} (T : ElemB P t e size bytes) (s x : Operand) (hgd : o.guard = none)
    (ho : o.op = .call { callee := .builtin .append, args := #[s, x], argTypes := #[t, t] }) (B : Nat) (n : Nat) (xs : List Value) {v : Value} (hs : a.eval s = v) (hown : w.ownsRow B e size v n xs)
    {B2 : Nat} {A : Option Addr} {m c : Nat} {news : List Value} (hx : a.eval x = .slice A m c) (hr : Rd w B2 size A m news) (h1 : ∀ u ∈ news, u.oneCell' = true) (hn : n + m ≤ 1099511627776) (hb : bytes ≤ 64) (hB : B ≤ w.heap.size)
    (h : ∀ v' w', w'.ownsRow B e size v' (n + m) (xs ++ news) → Below B w w' → w.grownBy w' v.ownBlock → wpList P ops Q rest (a.put o.dst v') w') : wpList P ops Q (o :: rest) a w :=
  wpList_plain hgd fun _ hK => wp_put T s x ho B n xs hs hown hx hr h1 hn hb hB fun v' w' h2 h3 h4 => hK _ _ (h v' w' h2 h3 h4)
theorem step_put {ops : Array Oper} {o : Oper} {a : Act} {K : Act → World → Prop} {Q : Exit → Act → World → Prop} {E : Prop} {w : World} (T : ElemB P t e size bytes) (s x : Operand) (hgd : o.guard = none)
    (ho : o.op = .call { callee := .builtin .append, args := #[s, x], argTypes := #[t, t] }) (B : Nat) (n : Nat) (xs : List Value) {v : Value} (hs : a.eval s = v) (hown : w.ownsRow B e size v n xs)
    {B2 : Nat} {A : Option Addr} {m c : Nat} {news : List Value} (hx : a.eval x = .slice A m c) (hr : Rd w B2 size A m news) (h1 : ∀ u ∈ news, u.oneCell' = true) (hn : n + m ≤ 1099511627776) (hb : bytes ≤ 64) (hB : B ≤ w.heap.size)
    (h : ∀ v' w', w'.ownsRow B e size v' (n + m) (xs ++ news) → Below B w w' → w.grownBy w' v.ownBlock → K (a.put o.dst v') w') :
    if Region.wanted o (yielded ops a.tmps) = true then Oper.wp P o a w K Q else E := by
  rw [if_pos (by simp [Region.wanted, hgd])]
  exact wp_put T s x ho B n xs hs hown hx hr h1 hn hb hB h
end
section
variable {P : Program} {t e : TypeId} {size bytes : Nat}
/-- append onto an empty slice without room (a copy): nothing that was there changes. -/
theorem run_copyB (T : ElemB P t e size bytes) (ty : TypeId) (w : World) (g : Nat) (B2 : Nat) (A : Option Addr) (m c : Nat) (news : List Value) (hr : Rd w B2 size A m news)
    (hm : m ≤ 1099511627776) (hb : bytes ≤ 64) :
    ∃ A' c' w', (Builtin.append_ #[t, t] ty #[.slice (some ⟨g, 0, none⟩) 0 0, .slice A m c]).run P w = .ok (.slice A' m c') w' ∧ m ≤ c' ∧ Rd w' w'.heap.size size A' m news ∧ (0 < m → w'.ownsRow w.heap.size e size (.slice A' m c') m news) ∧ Below w.heap.size w w' := by
  obtain ⟨i, z, ht, hi, hz, hs, hby, hzs, hp⟩ := T
  rcases Nat.eq_zero_or_pos m with h0 | h0
  · subst h0
    obtain rfl : news = [] := List.eq_nil_of_length_eq_zero (by simpa using hr.1)
    refine ⟨some ⟨g, 0, none⟩, 0, w, ?_, Nat.le_refl _, Rd.nil _ _ _ _, fun h => absurd h (by omega), Below.refl _ _⟩
    rcases A with _ | ad
    · simp [Builtin.append_, run_underlying ht, sizeOf, typeInfo, hi, Builtin.lenOf, Builtin.firstCells, storeCells]
    · have := run_append_room_cells (P := P) w t ty e i ht hi g 0 0 0 ad 0 c [] (by simp) (by simp) (by simp) (by simp) (by simp) (by simp)
      rw [this]; rfl
  · have hby2 : m * bytes ≤ m * 64 := Nat.mul_le_mul_left _ hb
    obtain ⟨b, off, rfl, _, hc⟩ := hr.2 h0
    obtain ⟨v', w', hrun, h1, h2⟩ := run_append_arg_grows (P := P) w t ty e i z size bytes ht hi hz hs hby hzs hp ⟨g, 0, none⟩ 0 0 [] (by simp) (by simp) ⟨b, off, none⟩ m c news hr.1 (fun j u hu => by rw [addr_add]; exact hc j u hu) (by omega) (by unfold maxLen; omega) (by rw [Nat.zero_add]; omega)
    rw [Nat.zero_add, List.nil_append] at h1
    obtain ⟨A', c', rfl, hc'⟩ := own_form h1
    exact ⟨A', c', w', hrun, hc', Rd.own h1, fun _ => h1, (Below.refl _ _).grown h2 (Nat.le_refl _) (fun k hk => by cases hk)⟩
theorem wp_copyB {o : Oper} {a : Act} {K : Act → World → Prop} {Q : Exit → Act → World → Prop} {w : World} (T : ElemB P t e size bytes) (s x : Operand)
    (ho : o.op = .call { callee := .builtin .append, args := #[s, x], argTypes := #[t, t] }) {g : Nat} (hs : a.eval s = .slice (some ⟨g, 0, none⟩) 0 0)
    {B2 : Nat} {A : Option Addr} {m c : Nat} {news : List Value} (hx : a.eval x = .slice A m c) (hr : Rd w B2 size A m news) (hm : m ≤ 1099511627776) (hb : bytes ≤ 64)
    (h : ∀ A' c' w', m ≤ c' → Rd w' w'.heap.size size A' m news → (0 < m → w'.ownsRow w.heap.size e size (.slice A' m c') m news) → Below w.heap.size w w' → K (a.put o.dst (.slice A' m c')) w') : o.wp P a w K Q := by
  obtain ⟨A', c', w', hrun, h2, h3, h4, h5⟩ := run_copyB (P := P) T o.type w g B2 A m c news hr hm hb
  unfold Oper.wp execOp
  simp only [ho, resolve, invoke, builtin, Sem.run_bind, Sem.run_pure, Result.andThen_ok, List.map_toArray, List.map_cons, List.map_nil, hs, hx, hrun]
  exact h A' c' w' h2 h3 h4 h5
theorem wpList_copyB {ops : Array Oper} {rest : List Oper} {o : Oper} {a : Act} {Q : Exit → Act → World → Prop} {w : World} (T : ElemB P t e size bytes) (s x : Operand) (hgd : o.guard = none)
    (ho : o.op = .call { callee := .builtin .append, args := #[s, x], argTypes := #[t, t] }) {g : Nat} (hs : a.eval s = .slice (some ⟨g, 0, none⟩) 0 0)
    {B2 : Nat} {A : Option Addr} {m c : Nat} {news : List Value} (hx : a.eval x = .slice A m c) (hr : Rd w B2 size A m news) (hm : m ≤ 1099511627776) (hb : bytes ≤ 64)
    (h : ∀ A' c' w', m ≤ c' → Rd w' w'.heap.size size A' m news → (0 < m → w'.ownsRow w.heap.size e size (.slice A' m c') m news) → Below w.heap.size w w' → wpList P ops Q rest (a.put o.dst (.slice A' m c')) w') : wpList P ops Q (o :: rest) a w :=
  wpList_plain hgd fun _ hK => wp_copyB T s x ho hs hx hr hm hb fun A' c' w' h2 h3 h4 h5 => hK _ _ (h A' c' w' h2 h3 h4 h5)
theorem step_copyB {ops : Array Oper} {o : Oper} {a : Act} {K : Act → World → Prop} {Q : Exit → Act → World → Prop} {E : Prop} {w : World} (T : ElemB P t e size bytes) (s x : Operand) (hgd : o.guard = none)
    (ho : o.op = .call { callee := .builtin .append, args := #[s, x], argTypes := #[t, t] }) {g : Nat} (hs : a.eval s = .slice (some ⟨g, 0, none⟩) 0 0)
    {B2 : Nat} {A : Option Addr} {m c : Nat} {news : List Value} (hx : a.eval x = .slice A m c) (hr : Rd w B2 size A m news) (hm : m ≤ 1099511627776) (hb : bytes ≤ 64)
    (h : ∀ A' c' w', m ≤ c' → Rd w' w'.heap.size size A' m news → (0 < m → w'.ownsRow w.heap.size e size (.slice A' m c') m news) → Below w.heap.size w w' → K (a.put o.dst (.slice A' m c')) w') :
    if Region.wanted o (yielded ops a.tmps) = true then Oper.wp P o a w K Q else E := by
  rw [if_pos (by simp [Region.wanted, hgd])]
  exact wp_copyB T s x ho hs hx hr hm hb h
end
/-- A new block is an own row. -/
theorem own_new (w : World) (cs : Array Value) (t : TypeId) (n : Nat) (hs : cs.size = n) (hn : n ≤ 1099511627776) : (w.alloc (.cells cs t)).ownsRow w.heap.size t 1 (.slice (some ⟨w.heap.size, 0, none⟩) n n) n cs.toList :=
  ⟨by simp [hs], .inr ⟨w.heap.size, n, cs, rfl, Nat.le_refl _, heap_alloc_new w _, Nat.le_refl _, by unfold maxLen; omega, by simp [hs], by rw [List.take_of_length_le (by simp [hs])]⟩⟩
theorem oneCell_map {α : Type} {f : α → Value} {l : List α} (h : ∀ x, (f x).oneCell' = true) : ∀ u ∈ l.map f, u.oneCell' = true := fun u hu => by
  obtain ⟨x, _, rfl⟩ := List.mem_map.1 hu; exact h x
theorem ownsRow_mono {w : World} {B B' : Nat} {t : TypeId} {sz n : Nat} {v : Value} {xs : List Value} (h : w.ownsRow B t sz v n xs) (hB : B' ≤ B) : w.ownsRow B' t sz v n xs := by
  refine ⟨h.1, ?_⟩
  rcases h.2 with h1 | ⟨g, cap, cur, hv, hg, rest⟩
  · exact .inl h1
  · exact .inr ⟨g, cap, cur, hv, by omega, rest⟩
theorem ownsRow_below {w w' : World} {base B : Nat} {t : TypeId} {sz n : Nat} {v : Value} {xs : List Value} (h : w.ownsRow base t sz v n xs) (hb : Below B w w') (hB : w.heap.size ≤ B) : w'.ownsRow base t sz v n xs := by
  refine ⟨h.1, ?_⟩
  rcases h.2 with h1 | ⟨g, cap, cur, hv, hg, hh, rest⟩
  · exact .inl h1
  · refine .inr ⟨g, cap, cur, hv, hg, ?_, rest⟩
    rw [hb.block _ (by have := (Array.getElem?_eq_some_iff.1 hh).1; omega)]; exact hh
/-- A row of which only the elements below another block are asked. -/
theorem ownsRow_grown {w w' : World} {base : Nat} {t : TypeId} {sz n : Nat} {v : Value} {xs : List Value} {r : Option Nat} (h : w.ownsRow base t sz v n xs) (hg : w.grownBy w' r) (hr : ∀ k, v.ownBlock = some k → some k ≠ r) : w'.ownsRow base t sz v n xs := by
  refine ⟨h.1, ?_⟩
  rcases h.2 with h1 | ⟨g, cap, cur, rfl, hg1, hh, rest⟩
  · exact .inl h1
  · exact .inr ⟨g, cap, cur, rfl, hg1, (hg.block _ (Array.getElem?_eq_some_iff.1 hh).1 (hr g rfl)).trans hh, rest⟩
end Go.Proofs.Ytdgmjedkhjeadaa
