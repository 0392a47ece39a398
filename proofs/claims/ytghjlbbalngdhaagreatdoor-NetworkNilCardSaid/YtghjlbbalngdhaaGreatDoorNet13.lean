/- The contract of slices.BinarySearch at the names of a graph. Conditions: as each statement says. -/
import Derived.Test.YtghjlbbalngdhaaGreatDoorNet10
import Derived.Sort.Walk0
namespace Go.Proofs.YtghjlbbalngdhaaGreatDoor
open Go.RowKit
set_option linter.unusedVariables false
theorem nan_any (a : Nm) (w : World) : Calls Tryz.prog 160 #[encS a] w fun e w' => e = .returned (.bool false) ∧ w = w' := by
  go_enter Tryz.func160, Tryz.ntmps160
  go_wp2_with fail
  go_ret
  exact ⟨by simp, rfl⟩
theorem less_any (a b : Nm) (w : World) : Calls Tryz.prog 128 #[encS a, encS b] w fun e w' => e = .returned (.bool (decide (a < b))) ∧ w = w' := by
  go_enter Tryz.func128, Tryz.ntmps128
  go_wp2_with (go_at_call 160; refine (nan_any a _).mono ?_; rintro e w' ⟨rfl, rfl⟩)
  go_ret
  refine ⟨?_, rfl⟩
  simp [Go.Proofs.bytesLess_eq]
theorem sorted_lt {ns : List Nm} (hs : ns.Pairwise (· < ·)) {h k : Nat} {y x : Nm} (hy : ns[h]? = some y) (hx : ns[k]? = some x) : decide (y < x) = decide (h < k) := by
  obtain ⟨h1, rfl⟩ := List.getElem?_eq_some_iff.1 hy
  obtain ⟨h2, rfl⟩ := List.getElem?_eq_some_iff.1 hx
  rw [List.pairwise_iff_getElem] at hs
  rcases Nat.lt_trichotomy h k with h3 | h3 | h3
  · rw [decide_eq_true h3, decide_eq_true (hs _ _ h1 h2 h3)]
  · subst h3
    rw [decide_eq_false (Nat.lt_irrefl _), decide_eq_false (List.lt_irrefl _)]
  · have e1 : decide (ns[h] < ns[k]) = false := decide_eq_false (fun h4 => List.lt_irrefl _ (List.lt_trans h4 (hs _ _ h2 h1 h3)))
    have e2 : decide (h < k) = false := decide_eq_false (by omega)
    rw [e1, e2]
set_option maxHeartbeats 1000000 in
theorem search_any {w : World} {B n c : Nat} {A : Option Addr} {ns : List Nm} (hr : Rd w B 1 A n (ns.map encS)) (hn16 : n ≤ 16) (hs : ns.Pairwise (· < ·)) (k : Nat) (x : Nm) (hx : ns[k]? = some x) :
    Calls Tryz.prog 99 #[.slice A n c, encS x] w fun e w' => e = .returned (.tuple #[.int .i64 (k : Int), .bool true]) ∧ w = w' := by
  have hln : ns.length = n := by have := hr.1; simpa using this
  have hk : k < n := by rw [← hln]; exact (List.getElem?_eq_some_iff.1 hx).1
  obtain ⟨b, off, rfl, hb, hc⟩ := hr.2 (by omega)
  have HC : Hid (∀ h, h < n → ∃ y, ns[h]? = some y ∧ w.cell? ⟨b, off + h, none⟩ = some (encS y)) := Lib.hid fun h hh => by
    have h1 : h < ns.length := by omega
    exact ⟨ns[h], List.getElem?_eq_getElem h1, hc h _ (by rw [List.getElem?_map, List.getElem?_eq_getElem h1]; rfl)⟩
  have HS := Lib.hid hs; have HX := Lib.hid hx
  clear hr hc hs hx
  go_enter Tryz.func99, Tryz.ntmps99
  go_wp2_with fail
  go_loopw [7, 8] (fun i j wr => ∃ p q : Nat, i = .int .i64 p ∧ j = .int .i64 q ∧ p ≤ k ∧ k ≤ q ∧ q ≤ n ∧ w = wr) (fun i j _ => (intOf j - intOf i).toNat)
  case atStart => exact ⟨0, n, rfl, rfl, Nat.zero_le _, by omega, Nat.le_refl _, rfl⟩
  case round =>
    obtain ⟨p, q, rfl, rfl, hpk, hkq, hqn, rfl⟩ := hrel
    by_cases hlt : p < q
    · have hki : (p : Int) < (q : Int) := by omega
      obtain ⟨y, hy, cy⟩ := HC.out ((p + q) / 2) (by omega)
      have HL := Lib.hid (sorted_lt HS.out hy HX.out)
      have HLS := Lib.hid (less_any y x w)
      clear hy
      have hhn : ((p : Int) + (q : Int)) / 2 < (n : Int) := by omega
      have hhp : 0 ≤ ((p : Int) + (q : Int)) / 2 := by omega
      go_wp2_with fail
      refine HLS.out.mono ?_
      rintro e w' ⟨rfl, rfl⟩
      rw [HL.out]
      have hmp : p ≤ (p + q) / 2 ∧ (p + q) / 2 < q := by omega
      by_cases hlk : (p + q) / 2 < k
      · rw [decide_eq_true hlk]
        clear HLS cy
        go_wp2_with fail
        go_roundw
        case rel => exact ⟨(p + q) / 2 + 1, q, by go_num, rfl, by omega, hkq, hqn, trivial⟩
        case measure => simp [intOf]; omega
      · rw [decide_eq_false hlk]
        clear HLS cy
        go_wp2_with fail
        go_roundw
        case rel => exact ⟨p, (p + q) / 2, rfl, by go_num, hpk, by omega, by omega, trivial⟩
        case measure => simp [intOf]; omega
    · have hki : ¬ (p : Int) < (q : Int) := by omega
      obtain rfl : p = k := by omega
      obtain ⟨y, hy, cy⟩ := HC.out p hk
      obtain rfl : y = x := by have := hy.symm.trans HX.out; injection this
      clear hy
      have hpn : (p : Int) < (n : Int) := by omega
      go_wp2_with fail
      go_ret2
      exact ⟨by simp, rfl⟩
#print axioms search_any
end Go.Proofs.YtghjlbbalngdhaaGreatDoor
/- A plain walk through a region's list serves within a round of a range over a function. Conditions: as each statement says. -/
namespace Go.Proofs.YtghjlbbalngdhaaGreatDoor
open Go.RowKit
set_option linter.unusedVariables false
section
variable {P : Program} {l n : Nat}
theorem rowsIn_round {row : String} {args : Array Value} {w : World} {R : Value → World → Prop} (h : Rows P row args w R) : RowsIn (Fence.wide.inRound l) n P row args w R := by
  intro c cs _
  obtain ⟨v, w', r, s⟩ := h c cs
  exact ⟨v, w', r, stepsIn_wide.2 s⟩
theorem upon_in {o : Oper} {a : Act} {next next' : Act → World → Prop} {Q : Exit → Act → World → Prop} {r : Result Next} (hn : ∀ a w, next a w → next' a w) (h : o.upon P a next Q r) : o.uponIn (Fence.wide.inRound l) n P a next' Q r := by
  cases r with
  | ok x w =>
    cases x with
    | value v => exact hn _ _ h
    | skip => exact hn _ _ h
    | defer d => exact hn _ _ h
    | enter f args => exact ⟨(fun h1 => by cases h1), CallsIn.inRound l (callsIn_wide.2 (Calls.mono h (fun e w' h2 => by
        cases e with
        | returned v => exact hn _ _ h2
        | panicked c => exact h2
        | outgrown => exact h2)))⟩
    | row r args => exact ⟨(fun h1 => by cases h1), rowsIn_round (Rows.mono h (fun v w' h2 => hn _ _ h2))⟩
    | _ => exact False.elim h
  | halt x w =>
    cases x with
    | panic v => exact h
    | _ => exact False.elim h
/-- No operation of the list is a defer statement. -/
def noDefer (l : List Oper) : Bool := l.all fun o => match o.op with | .defer _ => false | _ => true
theorem noDefer_op {o : Oper} (h : (match o.op with | .defer _ => false | _ => true) = true) (c : Call) : o.op ≠ .defer c := fun e => by rw [e] at h; cases h
theorem wpListIn_of_plain {ops : Array Oper} {Q : Exit → Act → World → Prop} (hQ : ∀ a w, ¬ Q .outgrown a w) : ∀ (L : List Oper) (a : Act) (w : World), noDefer L = true → wpList P ops Q L a w → wpListIn (Fence.wide.inRound l) n P ops Q L a w
  | [], a, w, _, h => h
  | o :: rest, a, w, hn, h => by
    have hn2 : (match o.op with | .defer _ => false | _ => true) = true ∧ noDefer rest = true := by
      unfold noDefer at hn ⊢
      rw [List.all_cons, Bool.and_eq_true] at hn
      exact hn
    unfold wpList at h
    unfold wpListIn
    split at h
    · rename_i hw
      rw [if_pos hw]
      rcases h with h | h
      · refine ⟨fun f _ => trivial, ?_⟩
        rw [Oper.semAt_eq _ _ _ (noDefer_op hn2.1)]
        exact upon_in (fun a w h => wpListIn_of_plain hQ rest a w hn2.2 h) h
      · obtain ⟨_, a, w, h⟩ := h
        exact (hQ a w h).elim
    · rename_i hw
      rw [if_neg hw]
      exact ⟨fun f _ => trivial, wpListIn_of_plain hQ rest _ w hn2.2 h⟩
end
end Go.Proofs.YtghjlbbalngdhaaGreatDoor
/- The state of choose. Conditions: as each statement says. -/
namespace Go.Proofs.YtghjlbbalngdhaaGreatDoor
open Go.RowKit
set_option linter.unusedVariables false
/-- Blocks known whole stay, and all that lies below n₀. -/
structure Kt (T : TypeId → Prop) (n₀ : Nat) (W W' : World) : Prop where
  size : W.heap.size ≤ W'.heap.size
  low : ∀ k, k < n₀ → k < W.heap.size → W'.heap[k]? = W.heap[k]?
  bk : ∀ h cs t, T t → Bk W h cs t → Bk W' h cs t
abbrev Kb (n₀ : Nat) (W W' : World) : Prop := Kt (fun _ => True) n₀ W W'
theorem Kt.refl (T : TypeId → Prop) (n₀ : Nat) (W : World) : Kt T n₀ W W := ⟨Nat.le_refl _, fun _ _ _ => rfl, fun _ _ _ _ h => h⟩
theorem Kb.of_below {n₀ : Nat} {W W' : World} (h : Below W.heap.size W W') : Kb n₀ W W' := ⟨h.size, fun k _ hk => h.block k hk, fun x cs t _ hx => hx.past h hx.lt⟩
theorem Kt.trans {T : TypeId → Prop} {n₀ : Nat} {A B C : World} (h : Kt T n₀ A B) (k : Kt T n₀ B C) : Kt T n₀ A C := ⟨Nat.le_trans h.size k.size, fun j hj hl => (k.low j hj (Nat.lt_of_lt_of_le hl h.size)).trans (h.low j hj hl), fun x cs t ht hx => k.bk x cs t ht (h.bk x cs t ht hx)⟩
theorem Kt.sub {T T' : TypeId → Prop} {n₀ : Nat} {A B : World} (h : Kt T n₀ A B) (hT : ∀ t, T' t → T t) : Kt T' n₀ A B := ⟨h.size, h.low, fun x cs t ht hx => h.bk x cs t (hT t ht) hx⟩
theorem Kt.cell {T : TypeId → Prop} {n₀ : Nat} {W W' : World} (h : Kt T n₀ W W') {b o : Nat} (hb : b < n₀) (hn : n₀ ≤ W.heap.size) : W'.cell? ⟨b, o, none⟩ = W.cell? ⟨b, o, none⟩ := World.cell?_of_block (w' := W') (w := W) (a := ⟨b, o, none⟩) (h.low b hb (by omega))
theorem Kb.iter {n₀ : Nat} {A B : World} {row : Option Nat} (hg : A.grownBy B row) (hr : ∀ r, row = some r → n₀ ≤ r ∧ ∃ o : Obj, A.heap[r]? = some o ∧ o.isCells = false) : Kb n₀ A B :=
  ⟨hg.size, fun k hk hl => hg.block k hl (fun e => by have := (hr k e.symm).1; omega), fun h cs t _ hb => (hg.block h hb.lt (fun e => by
      obtain ⟨_, o, ho, hc⟩ := hr h e.symm
      unfold Bk at hb
      rw [ho] at hb; cases hb; cases hc)).trans hb⟩
/-- A graph whose names and links lie below n₀, and whose own blocks are known whole. -/
def GX (w : World) (n₀ G : Nat) (ns : List Nm) (g : PG) : Prop := (g.n = ns.length ∧ 1 ≤ g.n ∧ g.n ≤ 16) ∧ (g.adj.length = g.n ∧ ∀ r ∈ g.adj, r.length = g.n) ∧ g.out.length = g.n ∧
  ∃ nA nc ab ao ac bo co, Bk w G #[.slice nA g.n nc, .slice (some ⟨ab, ao, none⟩) g.n ac, .slice (some ⟨bo, 0, none⟩) g.n co, .bool g.far] 149 ∧ Rd w n₀ 1 nA g.n (ns.map encS) ∧
    (ab < n₀ ∧ ∀ i, i < g.n → ∃ bi oi ci, w.cell? ⟨ab, ao + i, none⟩ = some (.slice (some ⟨bi, oi, none⟩) g.n ci) ∧ bi < n₀ ∧ ∀ j, j < g.n → w.cell? ⟨bi, oi + j, none⟩ = some (.bool (g.has i j))) ∧ g.n ≤ co ∧ BRow w bo g.out
theorem BRow.kt {T : TypeId → Prop} {n₀ : Nat} {W W' : World} {h : Nat} {l : List Bool} (k : BRow W h l) (hk : Kt T n₀ W W') (hT : T 4) : BRow W' h l := by
  obtain ⟨cs, h1, h2⟩ := k
  exact ⟨cs, hk.bk _ _ _ hT h1, h2⟩
theorem GX.kt {T : TypeId → Prop} {n₀ G : Nat} {ns : List Nm} {g : PG} {W W' : World} (h : GX W n₀ G ns g) (k : Kt T n₀ W W') (hT1 : T 149) (hT2 : T 4) (hn : n₀ ≤ W.heap.size) : GX W' n₀ G ns g := by
  obtain ⟨h1, h2, h3, nA, nc, ab, ao, ac, bo, co, h4, h5, ⟨h6, h7⟩, h8, h9⟩ := h
  refine ⟨h1, h2, h3, nA, nc, ab, ao, ac, bo, co, k.bk _ _ _ hT1 h4, h5.keep (fun b o hb => k.cell hb hn), ⟨h6, fun i hi => ?_⟩, h8, h9.kt k hT2⟩
  obtain ⟨bi, oi, ci, q1, q2, q3⟩ := h7 i hi
  exact ⟨bi, oi, ci, (k.cell h6 hn).trans q1, q2, fun j hj => (k.cell q2 hn).trans (q3 j hj)⟩
theorem GX.at' {n₀ G : Nat} {ns : List Nm} {g : PG} {W : World} (h : GX W n₀ G ns g) (hn : n₀ ≤ W.heap.size) : GAt W W.heap.size G ns g := by
  obtain ⟨h1, h2, h3, nA, nc, ab, ao, ac, bo, co, h4, h5, ⟨h6, h7⟩, h8, h9⟩ := h
  refine ⟨h4.lt, h1, h2, h3, ⟨nA, nc, by rw [h4.cell]; rfl, h5.mono hn⟩, ⟨ab, ao, ac, by rw [h4.cell]; rfl, by omega, fun i hi => ?_⟩, ⟨bo, 0, co, by rw [h4.cell]; rfl, h8, h9.lt, fun j hj => by rw [Nat.zero_add]; exact h9.cell (by omega)⟩, by rw [h4.cell]; rfl⟩
  obtain ⟨bi, oi, ci, q1, q2, q3⟩ := h7 i hi
  exact ⟨bi, oi, ci, q1, by omega, q3⟩
theorem GX.new {n₀ G : Nat} {ns : List Nm} {g : PG} {p : List Nat} {W W' : World} (h : GX W n₀ G ns g) (hn : n₀ ≤ W.heap.size) (hb : Below W.heap.size W W') (hg : NewG G g p W W') : GX W' n₀ W.heap.size ns (g.without p) := by
  obtain ⟨h1, h2, h3, nA, nc, ab, ao, ac, bo, co, h4, h5, ⟨h6, h7⟩, h8, h9⟩ := h
  obtain ⟨v0, v1, g1, c1, e0, e1, b1, r1, hc1⟩ := hg
  have k : Kb n₀ W W' := Kb.of_below hb
  rw [h4.cell] at e0 e1
  obtain rfl : _ = v0 := by simpa using e0
  obtain rfl : _ = v1 := by simpa using e1
  refine ⟨h1, h2, by show (outAll _ _).length = _; rw [outAll_len]; exact h3, nA, nc, ab, ao, ac, g1, c1, b1, h5.keep (fun b o hb => k.cell hb hn), ⟨h6, fun i hi => ?_⟩, hc1, r1⟩
  obtain ⟨bi, oi, ci, q1, q2, q3⟩ := h7 i hi
  exact ⟨bi, oi, ci, (k.cell h6 hn).trans q1, q2, fun j hj => (k.cell q2 hn).trans (q3 j hj)⟩
/-- A row of names in memory: the path p. -/
def RowAt (w : World) (ns : List Nm) (v : Value) (p : List Nat) : Prop := ∃ h c cs, v = .slice (some ⟨h, 0, none⟩) p.length c ∧ p.length ≤ c ∧ Bk w h cs 9 ∧ ∀ i, i < p.length → cs[i]? = some (encS (ns.getD (p.getD i 0) []))
theorem RowAt.kt {T : TypeId → Prop} {n₀ : Nat} {W W' : World} {ns : List Nm} {v : Value} {p : List Nat} (h : RowAt W ns v p) (k : Kt T n₀ W W') (hT : T 9) : RowAt W' ns v p := by
  obtain ⟨hh, c, cs, h1, h2, h3, h4⟩ := h
  exact ⟨hh, c, cs, h1, h2, k.bk _ _ _ hT h3, h4⟩
/-- The rows found so far. -/
def OutAt (w : World) (n₀ : Nat) (ns : List Nm) (v : Value) (acc : List (List Nat)) : Prop := ∃ vals, w.ownsRow n₀ 35 1 v acc.length vals ∧ ∀ (i : Nat) (p : List Nat), acc[i]? = some p → ∃ u, vals[i]? = some u ∧ RowAt w ns u p
theorem ownsRow_kb {n₀ : Nat} {w w' : World} {base : Nat} {t : TypeId} {sz n : Nat} {v : Value} {xs : List Value} (h : w.ownsRow base t sz v n xs) (hk : Kb n₀ w w') : w'.ownsRow base t sz v n xs := by
  refine ⟨h.1, ?_⟩
  rcases h.2 with h1 | ⟨g, cap, cur, rfl, hg1, hh, rest⟩
  · exact .inl h1
  · exact .inr ⟨g, cap, cur, rfl, hg1, hk.bk _ _ _ trivial hh, rest⟩
theorem OutAt.kb {n₀ m : Nat} {W W' : World} {ns : List Nm} {v : Value} {acc : List (List Nat)} (h : OutAt W m ns v acc) (k : Kb n₀ W W') : OutAt W' m ns v acc := by
  obtain ⟨vals, h1, h2⟩ := h
  refine ⟨vals, ownsRow_kb h1 k, fun i p hp => ?_⟩
  obtain ⟨u, q1, q2⟩ := h2 i p hp
  exact ⟨u, q1, q2.kt k trivial⟩
/-- The state of choose. -/
structure ChS (n₀ b4 b9 b11 b13 b14 : Nat) (ns : List Nm) (s t : Nat) (G : Nat) (g : PG) (v : Value) (acc : List (List Nat)) (left : Int) (w0 W : World) : Prop where
  k4 : Bk W b4 #[.pointer (some ⟨G, 0, none⟩)] 123
  k9 : Bk W b9 #[.int .i64 (s : Int)] 3
  k11 : Bk W b11 #[.int .i64 (t : Int)] 3
  k13 : Bk W b13 #[v] 55
  k14 : Bk W b14 #[.int .i64 left] 3
  gx : GX W n₀ G ns g
  out : OutAt W n₀ ns v acc
  nil : acc = [] → v = .slice none 0 0
  low : Below n₀ w0 W
  hn : n₀ ≤ w0.heap.size
theorem ChS.kb {n₀ b4 b9 b11 b13 b14 : Nat} {ns : List Nm} {s t : Nat} {G : Nat} {g : PG} {v : Value} {acc : List (List Nat)} {left : Int} {w0 W W' : World} (h : ChS n₀ b4 b9 b11 b13 b14 ns s t G g v acc left w0 W) (k : Kb n₀ W W') (hb : Below n₀ W W') :
    ChS n₀ b4 b9 b11 b13 b14 ns s t G g v acc left w0 W' :=
  ⟨k.bk _ _ _ trivial h.k4, k.bk _ _ _ trivial h.k9, k.bk _ _ _ trivial h.k11, k.bk _ _ _ trivial h.k13, k.bk _ _ _ trivial h.k14, h.gx.kt k trivial trivial (Nat.le_trans h.hn h.low.size), h.out.kb k, h.nil, h.low.trans hb, h.hn⟩
theorem ChS.sz {n₀ b4 b9 b11 b13 b14 : Nat} {ns : List Nm} {s t : Nat} {G : Nat} {g : PG} {v : Value} {acc : List (List Nat)} {left : Int} {w0 W : World} (h : ChS n₀ b4 b9 b11 b13 b14 ns s t G g v acc left w0 W) : n₀ ≤ W.heap.size := Nat.le_trans h.hn h.low.size
theorem below_grown {n₀ : Nat} {A B : World} {row : Option Nat} (hg : A.grownBy B row) (hr : ∀ r, row = some r → n₀ ≤ r) (hn : n₀ ≤ A.heap.size) : Below n₀ A B :=
  ⟨hg.os, hg.tape, hg.output, hg.size, fun k hk => hg.block k (by omega) (fun e => by have := hr k e.symm; omega)⟩
theorem ChS.iter {n₀ b4 b9 b11 b13 b14 : Nat} {ns : List Nm} {s t : Nat} {G : Nat} {g : PG} {v : Value} {acc : List (List Nat)} {left : Int} {w0 A B : World} {row : Option Nat} (h : ChS n₀ b4 b9 b11 b13 b14 ns s t G g v acc left w0 A)
    (hg : A.grownBy B row) (hr : ∀ r, row = some r → n₀ ≤ r ∧ ∃ o : Obj, A.heap[r]? = some o ∧ o.isCells = false) : ChS n₀ b4 b9 b11 b13 b14 ns s t G g v acc left w0 B :=
  h.kb (Kb.iter hg hr) (below_grown hg (fun r e => (hr r e).1) h.sz)
theorem ChS.far {n₀ b4 b9 b11 b13 b14 : Nat} {ns : List Nm} {s t : Nat} {G : Nat} {g : PG} {v : Value} {acc : List (List Nat)} {left : Int} {w0 W W' : World} (h : ChS n₀ b4 b9 b11 b13 b14 ns s t G g v acc left w0 W) (hb : Below W.heap.size W W') :
    ChS n₀ b4 b9 b11 b13 b14 ns s t G g v acc left w0 W' := h.kb (Kb.of_below hb) (hb.mono h.sz)
theorem ChS.push {n₀ b4 b9 b11 b13 b14 : Nat} {ns : List Nm} {s t : Nat} {G G' : Nat} {g g' : PG} {v v2 u : Value} {acc : List (List Nat)} {p : List Nat} {left : Int} {w0 wa w2 : World} {vals : List Value} (h : ChS n₀ b4 b9 b11 b13 b14 ns s t G g v acc left w0 wa)
    (hgx : GX wa n₀ G' ns g') (hrow : RowAt wa ns u p) (ho : wa.ownsRow n₀ 35 1 v acc.length vals) (hv : ∀ (i : Nat) (q : List Nat), acc[i]? = some q → ∃ u, vals[i]? = some u ∧ RowAt wa ns u q)
    (hown : w2.ownsRow n₀ 35 1 v2 (acc.length + 1) (vals ++ [u])) (hb : Below n₀ wa w2) (hg : wa.grownBy w2 v.ownBlock) (hb4 : n₀ ≤ b4) (hb13 : n₀ ≤ b13) :
    ChS n₀ b4 b9 b11 b13 b14 ns s t G' g' v2 (acc ++ [p]) left w0 ((w2.setCell ⟨b13, 0, none⟩ v2).setCell ⟨b4, 0, none⟩ (.pointer (some ⟨G', 0, none⟩))) ∧
    (w2.cell? ⟨b13, 0, none⟩ = some v ∧ w2.frozen? ⟨b13, 0, none⟩ = false) ∧ ((w2.setCell ⟨b13, 0, none⟩ v2).cell? ⟨b4, 0, none⟩ = some (.pointer (some ⟨G, 0, none⟩)) ∧ (w2.setCell ⟨b13, 0, none⟩ v2).frozen? ⟨b4, 0, none⟩ = false) := by
  have k1 : Kt (fun t => t ≠ 35) n₀ wa w2 := ⟨hb.size, fun k hk _ => hb.block k hk, fun x cs t ht hx => (hg.block x hx.lt (fun e => by
    rcases ho.2 with ⟨rfl, _⟩ | ⟨g0, cap, cur, rfl, _, hh, _⟩
    · cases e
    · obtain rfl : x = g0 := by simpa [Value.ownBlock] using e
      unfold Bk at hx
      rw [hh] at hx
      simp at hx
      exact ht hx.2.symm)).trans hx⟩
  have q13 := k1.bk _ _ _ (by decide) h.k13
  have k2 : Kt (fun t => t ≠ 55) n₀ w2 (w2.setCell ⟨b13, 0, none⟩ v2) := ⟨by simp, fun k hk _ => Below.heap_setCell _ _ _ _ (by show k ≠ b13; omega), fun h cs t ht hx => hx.keepL (KeepL.set _ _ _ _) (by
    rw [List.mem_singleton]
    rintro rfl
    exact ht (by
      unfold Bk at hx q13
      rw [q13] at hx; simp at hx; exact hx.2.symm))⟩
  have q4 := k2.bk _ _ _ (by decide) (k1.bk _ _ _ (by decide) h.k4)
  have k3 : Kt (fun t => t ≠ 123) n₀ (w2.setCell ⟨b13, 0, none⟩ v2) ((w2.setCell ⟨b13, 0, none⟩ v2).setCell ⟨b4, 0, none⟩ (.pointer (some ⟨G', 0, none⟩))) := ⟨by simp, fun k hk _ => Below.heap_setCell _ _ _ _ (by show k ≠ b4; omega), fun h cs t ht hx => hx.keepL (KeepL.set _ _ _ _) (by
    rw [List.mem_singleton]
    rintro rfl
    exact ht (by
      unfold Bk at hx q4
      rw [q4] at hx; simp at hx; exact hx.2.symm))⟩
  have q4' := q4.set 0 (.pointer (some ⟨G', 0, none⟩))
  have q13' := k3.bk _ _ _ (by decide) (q13.set 0 v2)
  have k12 : Kt (fun t => t ≠ 35 ∧ t ≠ 55 ∧ t ≠ 123) n₀ wa ((w2.setCell ⟨b13, 0, none⟩ v2).setCell ⟨b4, 0, none⟩ (.pointer (some ⟨G', 0, none⟩))) := ((k1.sub fun _ h => h.1).trans (k2.sub fun _ h => h.2.1)).trans (k3.sub fun _ h => h.2.2)
  refine ⟨⟨q4', k12.bk _ _ _ (by decide) h.k9, k12.bk _ _ _ (by decide) h.k11, q13', k12.bk _ _ _ (by decide) h.k14, hgx.kt k12 (by decide) (by decide) h.sz, ⟨vals ++ [u], ?_, ?_⟩, fun e => by simp at e, ?_, h.hn⟩, ⟨by rw [q13.cell]; rfl, q13.froz 0⟩, ⟨by rw [q4.cell]; rfl, q4.froz 0⟩⟩
  · refine ⟨by simpa using hown.1, ?_⟩
    rw [List.length_append, List.length_singleton]
    rcases hown.2 with h1 | ⟨g0, cap, cur, rfl, hg1, hh, rest⟩
    · exact .inl h1
    · exact .inr ⟨g0, cap, cur, rfl, hg1, k3.bk _ _ _ (by decide) (k2.bk _ _ _ (by decide) hh), rest⟩
  · intro i q hq
    have hl : vals.length = acc.length := by simpa using ho.1
    rcases Nat.lt_or_ge i acc.length with hi | hi
    · rw [List.getElem?_append_left hi] at hq
      obtain ⟨x, hx1, hx2⟩ := hv i q hq
      exact ⟨x, by rw [List.getElem?_append_left (by omega)]; exact hx1, hx2.kt k12 (by decide)⟩
    · rw [List.getElem?_append_right hi] at hq
      have hi0 : i - acc.length = 0 := by
        have := (List.getElem?_eq_some_iff.1 hq).1
        simpa using this
      rw [hi0] at hq
      obtain rfl : p = q := by simpa using hq
      exact ⟨u, by rw [List.getElem?_append_right (by omega), show i - vals.length = 0 by omega]; rfl, hrow.kt k12 (by decide)⟩
  · exact h.low.trans ((hb.setCell (p := ⟨b13, 0, none⟩) hb13 _).setCell (p := ⟨b4, 0, none⟩) hb4 _)
#print axioms ChS.push
end Go.Proofs.YtghjlbbalngdhaaGreatDoor
/- The contract of flow. Conditions: as the statement says. -/
namespace Go.Proofs.YtghjlbbalngdhaaGreatDoor
open Go.RowKit
set_option linter.unusedVariables false
set_option maxRecDepth 100000 in
set_option maxHeartbeats 1000000 in
theorem flow_any {w : World} {G : Nat} {ns : List Nm} {g : PG} (h : GAt w w.heap.size G ns g) (hsn : ns.Pairwise (· < ·)) (s t k : Nat) (x y : Nm) (hx : ns[s]? = some x) (hy : ns[t]? = some y) (hst : s ≠ t) (hk : k ≤ 1000) :
    Calls Tryz.prog 67 #[.pointer (some ⟨G, 0, none⟩), encS x, encS y, .int .i64 (k : Int)] w (CountP g s t k w) := by
  obtain ⟨nA, nc, hnm, hrd⟩ := h.names
  have hn16 := h.nn.2.2
  have hsg : s < g.n := by rw [h.nn.1]; exact (List.getElem?_eq_some_iff.1 hx).1
  have htg : t < g.n := by rw [h.nn.1]; exact (List.getElem?_eq_some_iff.1 hy).1
  have HC := Lib.hid (count_any h s t k (k : Int) rfl hk hsg htg hst)
  have HX := Lib.hid hx; have HY := Lib.hid hy; have HS := Lib.hid hsn; have HRD := Lib.hid hrd
  clear h hx hy hsn hrd
  go_enter Tryz.func67, Tryz.ntmps67
  go_wp2_with fail
  refine (search_any HRD.out hn16 HS.out s x HX.out).mono ?_
  rintro e w' ⟨rfl, rfl⟩
  go_wp2_with fail
  refine (search_any HRD.out hn16 HS.out t y HY.out).mono ?_
  rintro e w' ⟨rfl, rfl⟩
  go_wp2_with fail
  refine HC.out.mono ?_
  clear HC
  rintro e w' ⟨⟨z, hz, rfl⟩, hb⟩
  have HZ := Lib.hid hz; have HB := Lib.hid hb
  clear hz hb
  go_wp2_with fail
  go_ret
  exact ⟨⟨_, HZ.out, rfl⟩, HB.out⟩
#print axioms flow_any
end Go.Proofs.YtghjlbbalngdhaaGreatDoor
