/- A graph in memory, and the contract of open. Conditions: as each statement says. -/
import Derived.Test.YtghjlbbalngdhaaGreatDoorMapV
import Derived.Test.YtghjlbbalngdhaaGreatDoorBase
import Derived.Maps.Own
namespace Go.Proofs.YtghjlbbalngdhaaGreatDoor
open Go.RowKit
set_option linter.unusedVariables false
abbrev Nm := List UInt8
abbrev encS (s : Nm) : Value := .string ⟨s.toArray⟩
/-- A graph in memory, its names and its links, in the blocks below B. -/
structure GAt (w : World) (B G : Nat) (ns : List Nm) (g : PG) : Prop where
  lt : G < B
  nn : g.n = ns.length ∧ 1 ≤ g.n ∧ g.n ≤ 16
  adjl : g.adj.length = g.n ∧ ∀ r ∈ g.adj, r.length = g.n
  outl : g.out.length = g.n
  names : ∃ A c, w.cell? ⟨G, 0, none⟩ = some (.slice A g.n c) ∧ Rd w B 1 A g.n (ns.map encS)
  adj : ∃ b off c, w.cell? ⟨G, 1, none⟩ = some (.slice (some ⟨b, off, none⟩) g.n c) ∧ b < B ∧ ∀ i, i < g.n → ∃ bi oi ci, w.cell? ⟨b, off + i, none⟩ = some (.slice (some ⟨bi, oi, none⟩) g.n ci) ∧ bi < B ∧ ∀ j, j < g.n → w.cell? ⟨bi, oi + j, none⟩ = some (.bool (g.has i j))
  out : ∃ b off c, w.cell? ⟨G, 2, none⟩ = some (.slice (some ⟨b, off, none⟩) g.n c) ∧ g.n ≤ c ∧ b < B ∧ ∀ j, j < g.n → w.cell? ⟨b, off + j, none⟩ = some (.bool (g.out.getD j false))
  far : w.cell? ⟨G, 3, none⟩ = some (.bool g.far)
theorem GAt.keep {w w' : World} {B G : Nat} {ns : List Nm} {g : PG} (h : GAt w B G ns g) (hk : ∀ b o, b < B → w'.cell? ⟨b, o, none⟩ = w.cell? ⟨b, o, none⟩) : GAt w' B G ns g := by
  refine ⟨h.lt, h.nn, h.adjl, h.outl, ?_, ?_, ?_, (hk _ _ h.lt).trans h.far⟩
  · obtain ⟨A, c, h1, h2⟩ := h.names
    exact ⟨A, c, (hk _ _ h.lt).trans h1, h2.keep hk⟩
  · obtain ⟨b, off, c, h1, h2, h3⟩ := h.adj
    refine ⟨b, off, c, (hk _ _ h.lt).trans h1, h2, fun i hi => ?_⟩
    obtain ⟨bi, oi, ci, h4, h5, h6⟩ := h3 i hi
    exact ⟨bi, oi, ci, (hk _ _ h2).trans h4, h5, fun j hj => (hk _ _ h5).trans (h6 j hj)⟩
  · obtain ⟨b, off, c, h1, h1c, h2, h3⟩ := h.out
    exact ⟨b, off, c, (hk _ _ h.lt).trans h1, h1c, h2, fun j hj => (hk _ _ h2).trans (h3 j hj)⟩
theorem GAt.below {w w' : World} {B G : Nat} {ns : List Nm} {g : PG} (h : GAt w B G ns g) (hb : Below B w w') : GAt w' B G ns g := h.keep fun b o hlt => hb.cell (p := ⟨b, o, none⟩) hlt
theorem GAt.q {w w' : World} {B G : Nat} {ns : List Nm} {g : PG} (h : GAt w B G ns g) (hq : Qw w w') : GAt w' B G ns g := h.keep fun _ _ _ => hq.cell _
theorem GAt.mono {w : World} {B B' G : Nat} {ns : List Nm} {g : PG} (h : GAt w B G ns g) (hB : B ≤ B') : GAt w B' G ns g := by
  refine ⟨by have := h.lt; omega, h.nn, h.adjl, h.outl, ?_, ?_, ?_, h.far⟩
  · obtain ⟨A, c, h1, h2⟩ := h.names
    exact ⟨A, c, h1, h2.mono hB⟩
  · obtain ⟨b, off, c, h1, h2, h3⟩ := h.adj
    refine ⟨b, off, c, h1, by omega, fun i hi => ?_⟩
    obtain ⟨bi, oi, ci, h4, h5, h6⟩ := h3 i hi
    exact ⟨bi, oi, ci, h4, by omega, h6⟩
  · obtain ⟨b, off, c, h1, h1c, h2, h3⟩ := h.out
    exact ⟨b, off, c, h1, h1c, by omega, h3⟩
theorem GAt.next {w w' : World} {G : Nat} {ns : List Nm} {g : PG} (h : GAt w w.heap.size G ns g) (hb : Below w.heap.size w w') : GAt w' w'.heap.size G ns g := (h.below hb).mono hb.size
/-- What open reads. -/
abbrev OpR (w : World) (G b off c bi oi ci bo oo co n : Nat) (a k : Nat) (x y z : Bool) : Prop :=
  w.cell? ⟨G, 1, none⟩ = some (.slice (some ⟨b, off, none⟩) n c) ∧ w.cell? ⟨b, off + a, none⟩ = some (.slice (some ⟨bi, oi, none⟩) n ci) ∧ w.cell? ⟨bi, oi + k, none⟩ = some (.bool x) ∧
  w.cell? ⟨G, 2, none⟩ = some (.slice (some ⟨bo, oo, none⟩) n co) ∧ w.cell? ⟨bo, oo + k, none⟩ = some (.bool y) ∧ w.cell? ⟨G, 3, none⟩ = some (.bool z)
set_option maxHeartbeats 1000000 in
theorem open_1 (G b off c bi oi ci bo oo co n a k s t : Nat) (y z : Bool) (w : World) (ha : a < n) (hk : k < n) (h : OpR w G b off c bi oi ci bo oo co n a k false y z) :
    Calls Tryz.prog 130 #[.pointer (some ⟨G, 0, none⟩), .int .i64 (a : Int), .int .i64 (k : Int), .int .i64 (s : Int), .int .i64 (t : Int)] w fun e w' => e = .returned (.bool false) ∧ w = w' := by
  obtain ⟨h1, h2, h3, h4, h5, h6⟩ := h
  go_enter Tryz.func130, Tryz.ntmps130
  go_wp2_with fail
  go_ret
  exact ⟨rfl, rfl⟩
set_option maxHeartbeats 1000000 in
theorem open_2 (G b off c bi oi ci bo oo co n a k s t : Nat) (z : Bool) (w : World) (ha : a < n) (hk : k < n) (h : OpR w G b off c bi oi ci bo oo co n a k true true z) :
    Calls Tryz.prog 130 #[.pointer (some ⟨G, 0, none⟩), .int .i64 (a : Int), .int .i64 (k : Int), .int .i64 (s : Int), .int .i64 (t : Int)] w fun e w' => e = .returned (.bool false) ∧ w = w' := by
  obtain ⟨h1, h2, h3, h4, h5, h6⟩ := h
  go_enter Tryz.func130, Tryz.ntmps130
  go_wp2_with fail
  go_ret
  exact ⟨rfl, rfl⟩
set_option maxHeartbeats 1000000 in
theorem open_3 (G b off c bi oi ci bo oo co n a k s t : Nat) (z : Bool) (w : World) (ha : a < n) (hk : k < n) (e1 : k = s) (h : OpR w G b off c bi oi ci bo oo co n a k true false z) :
    Calls Tryz.prog 130 #[.pointer (some ⟨G, 0, none⟩), .int .i64 (a : Int), .int .i64 (k : Int), .int .i64 (s : Int), .int .i64 (t : Int)] w fun e w' => e = .returned (.bool false) ∧ w = w' := by
  obtain ⟨h1, h2, h3, h4, h5, h6⟩ := h
  subst e1
  have q1 : ((k : Int) != (k : Int)) = false := by simp
  go_enter Tryz.func130, Tryz.ntmps130
  go_wp2_with fail
  go_ret
  exact ⟨rfl, rfl⟩
set_option maxHeartbeats 1000000 in
theorem open_4 (G b off c bi oi ci bo oo co n a k s t : Nat) (z : Bool) (w : World) (ha : a < n) (hk : k < n) (e1 : k ≠ s) (e2 : a = t) (h : OpR w G b off c bi oi ci bo oo co n a k true false z) :
    Calls Tryz.prog 130 #[.pointer (some ⟨G, 0, none⟩), .int .i64 (a : Int), .int .i64 (k : Int), .int .i64 (s : Int), .int .i64 (t : Int)] w fun e w' => e = .returned (.bool false) ∧ w = w' := by
  obtain ⟨h1, h2, h3, h4, h5, h6⟩ := h
  subst e2
  have q1 : ((k : Int) != (s : Int)) = true := by simp; omega
  have q1' : ¬ (k : Int) = (s : Int) := by omega
  have q12 : ((k : Int) == (s : Int)) = false := by simp; omega
  have q2 : ((a : Int) != (a : Int)) = false := by simp
  go_enter Tryz.func130, Tryz.ntmps130
  go_wp2_with fail
  go_ret
  exact ⟨rfl, rfl⟩
set_option maxHeartbeats 1000000 in
theorem open_5 (G b off c bi oi ci bo oo co n a k s t : Nat) (w : World) (ha : a < n) (hk : k < n) (e1 : k ≠ s) (e2 : a ≠ t) (h : OpR w G b off c bi oi ci bo oo co n a k true false false) :
    Calls Tryz.prog 130 #[.pointer (some ⟨G, 0, none⟩), .int .i64 (a : Int), .int .i64 (k : Int), .int .i64 (s : Int), .int .i64 (t : Int)] w fun e w' => e = .returned (.bool true) ∧ w = w' := by
  obtain ⟨h1, h2, h3, h4, h5, h6⟩ := h
  have q1 : ((k : Int) != (s : Int)) = true := by simp; omega
  have q1' : ¬ (k : Int) = (s : Int) := by omega
  have q12 : ((k : Int) == (s : Int)) = false := by simp; omega
  have q2 : ((a : Int) != (t : Int)) = true := by simp; omega
  have q2' : ¬ (a : Int) = (t : Int) := by omega
  have q22 : ((a : Int) == (t : Int)) = false := by simp; omega
  go_enter Tryz.func130, Tryz.ntmps130
  go_wp2_with fail
  go_ret
  exact ⟨rfl, rfl⟩
set_option maxHeartbeats 1000000 in
theorem open_6 (G b off c bi oi ci bo oo co n a k s t : Nat) (w : World) (ha : a < n) (hk : k < n) (e1 : k ≠ s) (e2 : a ≠ t) (e3 : a ≠ s) (h : OpR w G b off c bi oi ci bo oo co n a k true false true) :
    Calls Tryz.prog 130 #[.pointer (some ⟨G, 0, none⟩), .int .i64 (a : Int), .int .i64 (k : Int), .int .i64 (s : Int), .int .i64 (t : Int)] w fun e w' => e = .returned (.bool true) ∧ w = w' := by
  obtain ⟨h1, h2, h3, h4, h5, h6⟩ := h
  have q1 : ((k : Int) != (s : Int)) = true := by simp; omega
  have q1' : ¬ (k : Int) = (s : Int) := by omega
  have q12 : ((k : Int) == (s : Int)) = false := by simp; omega
  have q2 : ((a : Int) != (t : Int)) = true := by simp; omega
  have q2' : ¬ (a : Int) = (t : Int) := by omega
  have q22 : ((a : Int) == (t : Int)) = false := by simp; omega
  have q3 : ((a : Int) != (s : Int)) = true := by simp; omega
  have q3' : ¬ (a : Int) = (s : Int) := by omega
  have q32 : ((a : Int) == (s : Int)) = false := by simp; omega
  go_enter Tryz.func130, Tryz.ntmps130
  go_wp2_with fail
  go_ret
  exact ⟨rfl, rfl⟩
set_option maxHeartbeats 1000000 in
theorem open_7 (G b off c bi oi ci bo oo co n a k s t : Nat) (w : World) (ha : a < n) (hk : k < n) (e1 : k ≠ s) (e2 : a ≠ t) (e3 : a = s) (e4 : k ≠ t) (h : OpR w G b off c bi oi ci bo oo co n a k true false true) :
    Calls Tryz.prog 130 #[.pointer (some ⟨G, 0, none⟩), .int .i64 (a : Int), .int .i64 (k : Int), .int .i64 (s : Int), .int .i64 (t : Int)] w fun e w' => e = .returned (.bool true) ∧ w = w' := by
  obtain ⟨h1, h2, h3, h4, h5, h6⟩ := h
  subst e3
  have q1 : ((k : Int) != (a : Int)) = true := by simp; omega
  have q1' : ¬ (k : Int) = (a : Int) := by omega
  have q12 : ((k : Int) == (a : Int)) = false := by simp; omega
  have q2 : ((a : Int) != (t : Int)) = true := by simp; omega
  have q2' : ¬ (a : Int) = (t : Int) := by omega
  have q22 : ((a : Int) == (t : Int)) = false := by simp; omega
  have q3 : ((a : Int) == (a : Int)) = true := by simp
  have q4 : ((k : Int) != (t : Int)) = true := by simp; omega
  have q4' : ¬ (k : Int) = (t : Int) := by omega
  have q42 : ((k : Int) == (t : Int)) = false := by simp; omega
  go_enter Tryz.func130, Tryz.ntmps130
  go_wp2_with fail
  go_ret
  exact ⟨rfl, rfl⟩
set_option maxHeartbeats 1000000 in
theorem open_8 (G b off c bi oi ci bo oo co n a k s t : Nat) (w : World) (ha : a < n) (hk : k < n) (e1 : k ≠ s) (e2 : a ≠ t) (e3 : a = s) (e4 : k = t) (h : OpR w G b off c bi oi ci bo oo co n a k true false true) :
    Calls Tryz.prog 130 #[.pointer (some ⟨G, 0, none⟩), .int .i64 (a : Int), .int .i64 (k : Int), .int .i64 (s : Int), .int .i64 (t : Int)] w fun e w' => e = .returned (.bool false) ∧ w = w' := by
  obtain ⟨h1, h2, h3, h4, h5, h6⟩ := h
  subst e3
  subst e4
  have q1 : ((k : Int) != (a : Int)) = true := by simp; omega
  have q1' : ¬ (k : Int) = (a : Int) := by omega
  have q12 : ((k : Int) == (a : Int)) = false := by simp; omega
  have q2 : ((a : Int) != (k : Int)) = true := by simp; omega
  have q2' : ¬ (a : Int) = (k : Int) := by omega
  have q22 : ((a : Int) == (k : Int)) = false := by simp; omega
  have q3 : ((a : Int) == (a : Int)) = true := by simp
  have q4 : ((k : Int) == (k : Int)) = true := by simp
  go_enter Tryz.func130, Tryz.ntmps130
  go_wp2_with fail
  go_ret
  exact ⟨rfl, rfl⟩
theorem open_any {w : World} {B G : Nat} {ns : List Nm} {g : PG} (h : GAt w B G ns g) (a k s t : Nat) (ha : a < g.n) (hk : k < g.n) :
    Calls Tryz.prog 130 #[.pointer (some ⟨G, 0, none⟩), .int .i64 (a : Int), .int .i64 (k : Int), .int .i64 (s : Int), .int .i64 (t : Int)] w fun e w' => e = .returned (.bool (g.open a k s t)) ∧ w = w' := by
  obtain ⟨b, off, c, h1, h2, h3⟩ := h.adj
  obtain ⟨bi, oi, ci, h4, h5, h6⟩ := h3 a ha
  obtain ⟨bo, oo, co, h7, h7c, h8, h9⟩ := h.out
  have hr : OpR w G b off c bi oi ci bo oo co g.n a k (g.has a k) (g.out.getD k false) g.far := ⟨h1, h4, h6 k hk, h7, h9 k hk, h.far⟩
  unfold PG.open
  generalize g.has a k = x at hr
  generalize g.out.getD k false = y at hr
  generalize g.far = z at hr
  generalize g.n = n at hr ha hk
  cases x
  · exact open_1 G b off c bi oi ci bo oo co n a k s t y z w ha hk hr
  cases y
  case true => exact open_2 G b off c bi oi ci bo oo co n a k s t z w ha hk hr
  by_cases e1 : k = s
  · have := open_3 G b off c bi oi ci bo oo co n a k s t z w ha hk e1 hr
    simpa [e1] using this
  have b1 : (k != s) = true := bne_iff_ne.2 e1
  by_cases e2 : a = t
  · have := open_4 G b off c bi oi ci bo oo co n a k s t z w ha hk e1 e2 hr
    simpa [e1, e2] using this
  have b2 : (a != t) = true := bne_iff_ne.2 e2
  cases z
  · have := open_5 G b off c bi oi ci bo oo co n a k s t w ha hk e1 e2 hr
    simpa [b1, b2] using this
  by_cases e3 : a = s
  · by_cases e4 : k = t
    · have := open_8 G b off c bi oi ci bo oo co n a k s t w ha hk e1 e2 e3 e4 hr
      simpa [e1, e2, e3, e4] using this
    · have b4 : (k == t) = false := beq_eq_false_iff_ne.2 e4
      have := open_7 G b off c bi oi ci bo oo co n a k s t w ha hk e1 e2 e3 e4 hr
      simpa [b1, b2, b4] using this
  · have b3 : (a == s) = false := beq_eq_false_iff_ne.2 e3
    have := open_6 G b off c bi oi ci bo oo co n a k s t w ha hk e1 e2 e3 hr
    simpa [b1, b2, b3] using this
theorem open_I {w : World} {B G : Nat} {ns : List Nm} {g : PG} (h : GAt w B G ns g) (a k s t : Nat) (aI kI sI tI : Int) (haI : aI = a) (hkI : kI = k) (hsI : sI = s) (htI : tI = t) (ha : a < g.n) (hk : k < g.n) :
    Calls Tryz.prog 130 #[.pointer (some ⟨G, 0, none⟩), .int .i64 aI, .int .i64 kI, .int .i64 sI, .int .i64 tI] w fun e w' => e = .returned (.bool (g.open a k s t)) ∧ w = w' := by
  subst haI; subst hkI; subst hsI; subst htI; exact open_any h a k s t ha hk
#print axioms open_any
end Go.Proofs.YtghjlbbalngdhaaGreatDoor
