/- Plain mathematics of Join and Explain: what is joined, and when. No program is in sight. -/
import Derived.Test.YthmooplhhkafcaaFaults
import Derived.Test.YthmooplhhkafcaaInterp
namespace Go.Proofs.Ythmooplhhkafcaa
open Go.RowKit
set_option linter.unusedVariables false
/-- What shares without an error are. -/
structure ShGood (len : Nat) (l : List ShareV) : Prop where
  x : ∀ s ∈ l, 1 ≤ s.X ∧ s.X ≤ 16
  n : ∀ s ∈ l, s.n = len
  d : (l.map ShareV.X).Nodup
  len : l ≠ [] → len ≤ 256
theorem chk_good (len : Nat) : ∀ (l : List ShareV) (seen : List Nat), chkE len seen l = 0 → ShGood len l ∧ ∀ s ∈ l, s.X ∉ seen
  | [], _, _ => ⟨⟨fun _ h => (by cases h), fun _ h => (by cases h), List.nodup_nil, fun h => absurd rfl h⟩, fun _ h => (by cases h)⟩
  | s :: r, seen, h => by
    rw [chkE_cons] at h
    split at h
    · omega
    · rename_i h1
      split at h
      · omega
      · rename_i h2
        split at h
        · omega
        · rename_i h3
          split at h
          · omega
          · rename_i h4
            obtain ⟨g, h5⟩ := chk_good len r _ h
            refine ⟨⟨fun t ht => ?_, fun t ht => ?_, ?_, fun _ => by omega⟩, fun t ht => ?_⟩
            · rcases List.mem_cons.1 ht with rfl | ht
              · omega
              · exact g.x t ht
            · rcases List.mem_cons.1 ht with rfl | ht
              · omega
              · exact g.n t ht
            · rw [List.map_cons, List.nodup_cons]
              refine ⟨fun hm => ?_, g.d⟩
              obtain ⟨t, ht, he⟩ := List.mem_map.1 hm
              exact h5 t ht (by rw [he]; simp)
            · rcases List.mem_cons.1 ht with rfl | ht
              · exact h2
              · exact fun hm => h5 t ht (List.mem_cons_of_mem _ hm)
/-- Places from 1 to 16, each once: at most 16. -/
theorem nodup_le : ∀ (m : Nat) (l : List Nat), l.Nodup → (∀ x ∈ l, x < m) → l.length ≤ m
  | 0, l, _, h => by
    cases l with
    | nil => simp
    | cons a l => exact absurd (h a (by simp)) (by omega)
  | m + 1, l, hd, h => by
    by_cases hm : m ∈ l
    · have h1 := List.length_erase_of_mem hm
      have h2 := nodup_le m (l.erase m) (hd.erase m) (fun x hx => by
        have hx1 := List.mem_of_mem_erase hx
        have hx2 : x ≠ m := fun e => by subst e; exact (List.Nodup.not_mem_erase hd) hx
        have := h x hx1; omega)
      have := List.length_pos_of_mem hm
      omega
    · have h2 := nodup_le m l hd (fun x hx => by
        have hx2 : x ≠ m := fun e => by subst e; exact hm hx
        have := h x hx; omega)
      omega
theorem ShGood.few {len : Nat} {l : List ShareV} (g : ShGood len l) : l.length ≤ 16 := by
  have := nodup_le 17 (0 :: l.map ShareV.X) (List.nodup_cons.2 ⟨fun hm => by obtain ⟨s, hs, he⟩ := List.mem_map.1 hm; have := g.x s hs; omega, g.d⟩) (fun x hx => by
    rcases List.mem_cons.1 hx with rfl | hx
    · omega
    · obtain ⟨s, hs, rfl⟩ := List.mem_map.1 hx; have := g.x s hs; omega)
  simpa using this
theorem shCells_take : ∀ (l : List ShareV) (k : Nat), (shCells l).take (k * 2) = shCells (l.take k)
  | [], k => by simp [shCells]
  | s :: l, 0 => by simp [shCells]
  | s :: l, k + 1 => by
    rw [Nat.add_mul, List.take_succ_cons]
    show Value.int .u8 s.X :: Value.slice s.A s.n s.c :: (shCells l).take (k * 2) = _
    rw [shCells_take l k]; rfl
theorem shCells_drop : ∀ (l : List ShareV) (k : Nat), (shCells l).drop (k * 2) = shCells (l.drop k)
  | [], k => by simp [shCells]
  | s :: l, 0 => by simp [shCells]
  | s :: l, k + 1 => by
    rw [Nat.add_mul, List.drop_succ_cons]
    show (shCells l).drop (k * 2) = _
    exact shCells_drop l k
/-- The first k shares, and all others, of a list that is read. -/
theorem ShR.head {w : World} {B n : Nat} {A A2 : Option Addr} {l : List ShareV} (h : ShR w B A n l) (k : Nat) (hk : k ≤ n) (hr : Rd w B 2 A2 k ((shCells l).take (k * 2))) : ShR w B A2 k (l.take k) :=
  ⟨by rw [List.length_take, h.1]; omega, by rw [← shCells_take]; exact hr, fun s hs => h.2.2 s (List.mem_of_mem_take hs)⟩
theorem ShR.tail {w : World} {B n : Nat} {A A2 : Option Addr} {l : List ShareV} (h : ShR w B A n l) (k : Nat) (hk : k ≤ n) (hr : Rd w B 2 A2 (n - k) (((shCells l).drop (k * 2)).take ((n - k) * 2))) : ShR w B A2 (n - k) (l.drop k) := by
  have e : ((shCells l).drop (k * 2)).take ((n - k) * 2) = shCells (l.drop k) := by
    rw [shCells_drop, List.take_of_length_le (by rw [shCells_len, List.length_drop, h.1]; exact Nat.le_refl _)]
  rw [e] at hr
  exact ⟨by rw [List.length_drop, h.1], hr, fun s hs => h.2.2 s (List.mem_of_mem_drop hs)⟩
/-- What a read of share i takes. -/
theorem ShR.at {w : World} {B n : Nat} {A : Option Addr} {l : List ShareV} (h : ShR w B A n l) {i : Nat} (hi : i < n) :
    ∃ (b off : Nat) (s : ShareV), A = some ⟨b, off, none⟩ ∧ l[i]? = some s ∧ b < B ∧ w.cell? ⟨b, off + i * 2, none⟩ = some (.int .u8 s.X) ∧ w.cell? ⟨b, off + i * 2 + 1, none⟩ = some (.slice s.A s.n s.c) ∧ s.ok w B := by
  obtain ⟨b, off, rfl, hb, hc⟩ := h.2.1.2 (by omega)
  have hl : i < l.length := by rw [h.1]; exact hi
  exact ⟨b, off, l[i], rfl, List.getElem?_eq_getElem hl, hb, hc _ _ (shCells_0 l i hl), hc _ _ (shCells_1 l i hl), h.2.2 _ (List.getElem_mem hl)⟩
/-- What a read of a byte of a share takes. -/
theorem ShareV.ok.at {w : World} {B : Nat} {s : ShareV} (h : s.ok w B) {j : Nat} (hj : j < s.n) : ∃ b off, s.A = some ⟨b, off, none⟩ ∧ b < B ∧ w.cell? ⟨b, off + j, none⟩ = some (.int .u8 (s.Y.getD j 0 : Nat)) := by
  obtain ⟨b, off, hA, hb, hc⟩ := h.2.2.2.2.2.2 (by omega)
  have hl : j < s.Y.length := by rw [h.2.2.2.2.1]; exact hj
  exact ⟨b, off, hA, hb, hc j _ (by simp [u8s, List.getD, List.getElem?_eq_getElem hl])⟩
/-- The points of byte j. -/
def ptsJ (l : List ShareV) (k j : Nat) : List (Nat × Nat) := (l.take k).map fun s => (s.X, s.Y.getD j 0)
def polyJ (l : List ShareV) (k j : Nat) : List Nat := throughN (ptsJ l k j)
def okJ (l : List ShareV) (k j : Nat) : Bool := (l.drop k).all fun s => valF (polyJ l k j) s.X == s.Y.getD j 0
def secJ (l : List ShareV) (k m : Nat) : List Nat := (List.range m).map fun j => (polyJ l k j).getD 0 0
def allJ (l : List ShareV) (k m : Nat) : Bool := (List.range m).all (okJ l k)
theorem secJ_snoc (l : List ShareV) (k m : Nat) : secJ l k (m + 1) = secJ l k m ++ [(polyJ l k m).getD 0 0] := by simp [secJ, List.range_succ]
theorem secJ_len (l : List ShareV) (k m : Nat) : (secJ l k m).length = m := by simp [secJ]
theorem allJ_snoc (l : List ShareV) (k m : Nat) : allJ l k (m + 1) = (allJ l k m && okJ l k m) := by simp [allJ, List.range_succ]
theorem allJ_false {l : List ShareV} {k m j : Nat} (h : j < m) (h0 : okJ l k j = false) : allJ l k m = false := by
  cases h1 : allJ l k m
  · rfl
  · have := List.all_eq_true.1 h1 j (List.mem_range.2 h)
    rw [h0] at this; cases this
/-- Each share's bytes are bytes. -/
def ShBytes (l : List ShareV) : Prop := ∀ s ∈ l, s.X < 256 ∧ Bytes s.Y
theorem getD_byte {l : List Nat} (h : Bytes l) (j : Nat) : l.getD j 0 < 256 := by
  rcases Nat.lt_or_ge j l.length with h1 | h1
  · simp only [List.getD, List.getElem?_eq_getElem h1, Option.getD_some]; exact h _ (List.getElem_mem h1)
  · simp [List.getD, List.getElem?_eq_none h1]
theorem ptsJ_b {l : List ShareV} (h : ShBytes l) (k j : Nat) : PtB (ptsJ l k j) := fun p hp => by
  obtain ⟨s, hs, rfl⟩ := List.mem_map.1 hp
  obtain ⟨h1, h2⟩ := h s (List.mem_of_mem_take hs)
  exact ⟨h1, getD_byte h2 j⟩
theorem ptsJ_d {len : Nat} {l : List ShareV} (g : ShGood len l) (k j : Nat) : ((ptsJ l k j).map (·.1)).Nodup := by
  unfold ptsJ
  rw [List.map_map]
  have : ((l.take k).map ((fun p : Nat × Nat => p.1) ∘ fun s : ShareV => (s.X, s.Y.getD j 0))) = (l.map ShareV.X).take k := by rw [← List.map_take]; rfl
  rw [this]
  exact g.d.sublist (List.take_sublist _ _)
theorem ptsJ_len (l : List ShareV) (k j : Nat) (h : k ≤ l.length) : (ptsJ l k j).length = k := by simp [ptsJ]; omega
theorem polyJ_bytes {len : Nat} {l : List ShareV} (g : ShGood len l) (hb : ShBytes l) (k j : Nat) : Bytes (polyJ l k j) := (throughN_hits (ptsJ_b hb k j) (ptsJ_d g k j)).2.1
theorem polyJ_len {len : Nat} {l : List ShareV} (g : ShGood len l) (hb : ShBytes l) (k j : Nat) (h : k ≤ l.length) : (polyJ l k j).length = k := by
  unfold polyJ
  rw [(throughN_hits (ptsJ_b hb k j) (ptsJ_d g k j)).1, ptsJ_len l k j h]
def okE (b : Bool) : Int := if b then 0 else 19
def okS (b : Bool) (S : List Nat) : List Nat := if b then S else []
/-- The error of Join, and the secret. -/
def joinE (l : List ShareV) (k : Int) : Int :=
  if k < 1 ∨ 16 < k then 3 else if (l.length : Int) < k then 14 else
    if chkE (l.headD ⟨0, none, 0, 0, []⟩).n [] l ≠ 0 then chkE (l.headD ⟨0, none, 0, 0, []⟩).n [] l else if allJ l k.toNat (l.headD ⟨0, none, 0, 0, []⟩).n then 0 else 19
def joinS (l : List ShareV) (k : Int) : List Nat := if joinE l k = 0 then secJ l k.toNat (l.headD ⟨0, none, 0, 0, []⟩).n else []
/-- The call returns bytes and an error. -/
def RetES (w : World) (E : Int) (S : List Nat) (e : Ending) (w' : World) : Prop :=
  ∃ A m c, e = .returned (.tuple #[.slice A m c, .int .i64 E]) ∧ m ≤ c ∧ S.length = m ∧ Rd w' w'.heap.size 1 A m (u8s S) ∧ Below w.heap.size w w'
theorem RetES.nil {w w' : World} (E : Int) (hb : Below w.heap.size w w') : RetES w E [] (.returned (.tuple #[.slice none 0 0, .int .i64 E])) w' := ⟨none, 0, 0, rfl, Nat.le_refl _, rfl, by simpa [u8s] using Rd.nil _ _ _ _, hb⟩
theorem RetES.own {w w' : World} {t n : Nat} {v : Value} {S : List Nat} (h : w'.ownsRow w.heap.size t 1 v n (u8s S)) (hb : Below w.heap.size w w') : RetES w 0 S (.returned (.tuple #[v, .int .i64 0])) w' := by
  obtain ⟨A, c, rfl, hc⟩ := own_form h
  exact ⟨A, n, c, rfl, hc, by have := h.1; simpa [u8s] using this, Rd.own h, hb⟩
end Go.Proofs.Ythmooplhhkafcaa
