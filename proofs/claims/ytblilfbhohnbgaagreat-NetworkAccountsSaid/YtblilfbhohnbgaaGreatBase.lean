/- Plain lemmas on worlds, slices and numbers that the walks of this seat use. Conditions: none beyond those in each statement. -/
import Derived.WalkKit
import Derived.WalkSpells
import Derived.WalkLawsBesides
import Derived.BigQuiet
import Derived.Handy
import Derived.Lib.Hide
import Derived.Lib.OthersKept
import Derived.Laws.RangeAny
namespace Go.Proofs.YtblilfbhohnbgaaGreat
open Go.RowKit

/-- The slice value 'slice A n c' reads as the cells xs (sz cells an element), all in blocks below B. -/
def Rd (w : World) (B sz : Nat) (A : Option Addr) (n : Nat) (xs : List Value) : Prop :=
  xs.length = n * sz ∧ (0 < n → ∃ b off, A = some ⟨b, off, none⟩ ∧ b < B ∧ ∀ j u, xs[j]? = some u → w.cell? ⟨b, off + j, none⟩ = some u)

section
variable {w w' : World} {B B' sz n : Nat} {A : Option Addr} {xs : List Value}
theorem Rd.nil (w : World) (B sz : Nat) (A : Option Addr) : Rd w B sz A 0 [] := ⟨by simp, fun h => absurd h (by omega)⟩
theorem Rd.keep (h : Rd w B sz A n xs) (hk : ∀ b o, b < B → w'.cell? ⟨b, o, none⟩ = w.cell? ⟨b, o, none⟩) : Rd w' B sz A n xs :=
  ⟨h.1, fun hn => by
    obtain ⟨b, off, rfl, hb, hc⟩ := h.2 hn
    exact ⟨b, off, rfl, hb, fun j u hu => (hk b _ hb).trans (hc j u hu)⟩⟩
theorem Rd.mono (h : Rd w B sz A n xs) (hB : B ≤ B') : Rd w B' sz A n xs :=
  ⟨h.1, fun hn => by
    obtain ⟨b, off, rfl, hb, hc⟩ := h.2 hn
    exact ⟨b, off, rfl, by omega, hc⟩⟩
theorem Rd.below (h : Rd w B sz A n xs) (hb : Below B w w') : Rd w' B sz A n xs := h.keep fun b o hlt => hb.cell (p := ⟨b, o, none⟩) hlt
theorem Rd.drew (h : Rd w B sz A n xs) : Rd w.drew B sz A n xs := h
theorem Rd.drewN (h : Rd w B sz A n xs) (k : Nat) : Rd (w.drewN k) B sz A n xs := h
theorem Rd.alloc (h : Rd w B sz A n xs) (hB : B ≤ w.heap.size) (o : Obj) : Rd (w.alloc o) B sz A n xs :=
  h.keep fun b _ hlt => World.cell?_alloc_lt w o _ (by show b < _; omega)
theorem Rd.setCell (h : Rd w B sz A n xs) {p : Addr} (hp : B ≤ p.block) (u : Value) : Rd (w.setCell p u) B sz A n xs :=
  h.keep fun b o hlt => World.cell?_setCell_other w p _ u (fun e => by subst e; exact absurd hlt (by simp at hp; omega))
end
/-- A block that has just been made reads as its cells. -/
theorem Rd.new (w : World) (cs : Array Value) (t : TypeId) (sz n : Nat) (h : cs.size = n * sz) : Rd (w.alloc (.cells cs t)) (w.heap.size + 1) sz (some ⟨w.heap.size, 0, none⟩) n cs.toList :=
  ⟨by simpa using h, fun _ => ⟨w.heap.size, 0, rfl, by omega, fun j u hu => by
    have : (w.alloc (.cells cs t)).heap[w.heap.size]? = some (.cells cs t (0, 0)) := heap_alloc_new w _
    rw [cell_of_row _ _ _ _ _ _ this]
    simpa using hu⟩⟩
/-- The world has at most drawn. -/
def Qw (w w' : World) : Prop := ∃ d, w' = w.drewN d
theorem Qw.refl (w : World) : Qw w w := ⟨0, rfl⟩
theorem Qw.trans {a b c : World} (h : Qw a b) (k : Qw b c) : Qw a c := by
  obtain ⟨d, rfl⟩ := h; obtain ⟨e, rfl⟩ := k; exact ⟨d + e, by rw [World.drewN_drewN]⟩
theorem Qw.drewN {a b : World} (h : Qw a b) (k : Nat) : Qw a (b.drewN k) := h.trans ⟨k, rfl⟩
theorem Qw.drew {a b : World} (h : Qw a b) : Qw a b.drew := h.trans ⟨1, rfl⟩
theorem Qw.cell {w w' : World} (h : Qw w w') (a : Addr) : w'.cell? a = w.cell? a := by obtain ⟨d, rfl⟩ := h; rfl
theorem Qw.frozen {w w' : World} (h : Qw w w') (a : Addr) : w'.frozen? a = w.frozen? a := by obtain ⟨d, rfl⟩ := h; rfl
theorem Qw.heap {w w' : World} (h : Qw w w') : w'.heap = w.heap := by obtain ⟨d, rfl⟩ := h; rfl
theorem Qw.below {w w' : World} (h : Qw w w') (B : Nat) : Below B w w' := by
  obtain ⟨d, rfl⟩ := h; exact ⟨rfl, rfl, rfl, Nat.le_refl _, fun _ _ => rfl⟩
theorem Rd.q {w w' : World} {B sz n : Nat} {A : Option Addr} {xs : List Value} (h : Rd w B sz A n xs) (hq : Qw w w') : Rd w' B sz A n xs := h.keep fun _ _ _ => hq.cell _
theorem quiet_q {P : Program} {f : FuncId} {args : Array Value} {w : World} {n : Nat} {v : Value}
    (h : Calls P f args (w.drewN n) fun e w' => e = .returned v ∧ Qw (w.drewN n) w') : Calls P f args (w.drewN n) fun e w'' => e = .returned v ∧ ∃ m, w'' = w.drewN m :=
  h.mono fun _ _ ⟨he, hm⟩ => ⟨he, Qw.trans ⟨n, rfl⟩ hm⟩
theorem quiet_e {P : Program} {f : FuncId} {args : Array Value} {w : World} {n : Nat} {v : Value}
    (h : Calls P f args (w.drewN n) fun e w' => e = .returned v ∧ w.drewN n = w') : Calls P f args (w.drewN n) fun e w'' => e = .returned v ∧ ∃ m, w'' = w.drewN m :=
  h.mono fun _ _ ⟨he, hm⟩ => ⟨he, n, hm.symm⟩
theorem madeCells_one (z : Value) (n : Nat) : madeCells #[z] n = Array.replicate n z := by
  apply Array.ext
  · simp [madeCells]
  · intro i h1 h2
    simp [madeCells, Nat.mod_one]
/-- A row that the call owns reads as its cells. -/
theorem Rd.own {w : World} {base : Nat} {t : TypeId} {sz n c : Nat} {A : Option Addr} {xs : List Value} (h : w.ownsRow base t sz (.slice A n c) n xs) : Rd w w.heap.size sz A n xs := by
  refine ⟨h.1, fun hn => ?_⟩
  rcases h.2 with ⟨_, h0⟩ | ⟨g, cap, cur, hv, _, hg, _, _, _, htake⟩
  · omega
  · injection hv with hA _ _
    subst hA
    refine ⟨g, 0, rfl, (Array.getElem?_eq_some_iff.1 hg).1, fun j u hu => ?_⟩
    rw [← htake, List.getElem?_take] at hu
    split at hu
    · rw [Nat.zero_add, cell_of_row _ _ _ _ _ _ hg]; simpa using hu
    · cases hu
theorem own_form {w : World} {base : Nat} {t : TypeId} {sz n : Nat} {v : Value} {xs : List Value} (h : w.ownsRow base t sz v n xs) : ∃ A c, v = .slice A n c ∧ n ≤ c := by
  rcases h.2 with ⟨rfl, rfl⟩ | ⟨g, cap, cur, rfl, _, _, hc, _⟩
  · exact ⟨none, 0, rfl, Nat.le_refl _⟩
  · exact ⟨_, cap, rfl, hc⟩
/-- The call returns a new slice that reads as xs (and more results by 'mk'); what was there stays. -/
def RetOwn (w : World) (t sz n : Nat) (xs : List Value) (mk : Value → Value) (e : Ending) (w' : World) : Prop :=
  ∃ A c, e = .returned (mk (.slice A n c)) ∧ n ≤ c ∧ w'.ownsRow w.heap.size t sz (.slice A n c) n xs ∧ Below w.heap.size w w'
theorem RetOwn.of {w w' : World} {t sz n : Nat} {xs : List Value} {mk : Value → Value} {v : Value} (h : w'.ownsRow w.heap.size t sz v n xs) (hb : Below w.heap.size w w') : RetOwn w t sz n xs mk (.returned (mk v)) w' := by
  obtain ⟨A, c, rfl, hc⟩ := own_form h
  exact ⟨A, c, rfl, hc, h, hb⟩
theorem grown_set {wo wi : World} {h : Nat} (hg : wo.grownBy wi (some h)) (j : Nat) (u : Value) : wo.grownBy (wi.setCell ⟨h, j, none⟩ u) (some h) :=
  ⟨hg.os, hg.tape, hg.output, by simpa [World.setCell] using hg.size, fun k hk hne => (Below.heap_setCell _ _ _ _ (by simpa using hne)).trans (hg.block k hk hne)⟩
theorem grown_drewN {wo wi : World} {r : Option Nat} (hg : wo.grownBy wi r) (k : Nat) : wo.grownBy (wi.drewN k) r := ⟨hg.os, hg.tape, hg.output, hg.size, hg.block⟩
theorem size_setCell (w : World) (a : Addr) (u : Value) : (w.setCell a u).heap.size = w.heap.size := by simp [World.setCell]
/-- A store into a row of which the first part has been filled. -/
theorem row_fill {wi : World} {h j m : Nat} {t : TypeId} {xs : List Value} {z u : Value} (hh : wi.heap[h]? = some (.cells (xs ++ List.replicate (m + 1) z).toArray t (0, 0))) (hx : xs.length = j) :
    (wi.setCell ⟨h, j, none⟩ u).heap[h]? = some (.cells ((xs ++ [u]) ++ List.replicate m z).toArray t (0, 0)) := by
  simp only [World.setCell, Array.getElem?_modify, hh, if_true, Option.map_some, Option.isSome_none, Bool.false_eq_true, if_false]
  congr 2
  apply Array.ext'
  subst hx
  simp [List.replicate_succ]
theorem i64_small (x : Nat) (h : x ≤ 1099511627776) : IntKind.i64.wrap (x : Int) = (x : Int) := IntWalk.i64_in _ ⟨by omega, by omega⟩
theorem i64_mul' (a b : Nat) (h : a * b ≤ 1099511627776) : IntKind.i64.wrap ((a : Int) * (b : Int)) = ((a * b : Nat) : Int) := by rw [← Int.natCast_mul]; exact i64_small _ h
theorem i64_mul1 (a b : Nat) (h : (a + 1) * b ≤ 1099511627776) : IntKind.i64.wrap (((a : Int) + 1) * (b : Int)) = (((a + 1) * b : Nat) : Int) := by
  rw [show ((a : Int) + 1) = ((a + 1 : Nat) : Int) from rfl]; exact i64_mul' _ _ h
theorem addr_add (b off k : Nat) : (⟨b, off, none⟩ : Addr).add k = ⟨b, off + k, none⟩ := by
  unfold Addr.add; split
  · simp_all
  · rfl
theorem Rd.cut {w : World} {B sz n lo hi c : Nat} {A : Option Addr} {xs : List Value} (h : Rd w B sz A n xs) (hlo : lo ≤ hi) (hhi : hi ≤ n) (hc : n ≤ c) :
    Rd w B sz (if c = lo then A else A.map (·.add (lo * sz))) (hi - lo) ((xs.drop (lo * sz)).take ((hi - lo) * sz)) := by
  have h1 : hi * sz ≤ n * sz := Nat.mul_le_mul_right _ hhi
  refine ⟨by rw [List.length_take, List.length_drop, h.1, ← Nat.sub_mul]; exact Nat.min_eq_left (Nat.mul_le_mul_right _ (by omega)), fun hn => ?_⟩
  obtain ⟨b, off, rfl, hb, hcell⟩ := h.2 (by omega)
  rw [if_neg (by omega)]
  refine ⟨b, off + lo * sz, by simp [addr_add], hb, fun j u hu => ?_⟩
  rw [List.getElem?_take] at hu
  split at hu
  · rw [List.getElem?_drop] at hu
    rw [Nat.add_assoc]; exact hcell _ u hu
  · cases hu
/-- A slice expression within the length: what it is, and what it reads as. -/
theorem slice_cut {P : Program} {t e : TypeId} {sz : Nat} (ht' : P.underlying t = some (.slice e)) (hz' : ∀ w, (sizeOf e).run P w = .ok sz w)
    {w : World} {B n : Nat} {A : Option Addr} {xs : List Value} (h : Rd w B sz A n xs) (lo hi c : Nat) (hlo : lo ≤ hi) (hhi : hi ≤ n) (hc : n ≤ c) :
    ∃ A2, (∀ w', (Instr.sliceAt t (.slice A n c) (some (.int .i64 lo)) (some (.int .i64 hi)) none).run P w' = .ok (.slice A2 (hi - lo) (c - lo)) w') ∧ Rd w B sz A2 (hi - lo) ((xs.drop (lo * sz)).take ((hi - lo) * sz)) := by
  have he : P.elem t = e := by simp [Program.elem, ht']
  have ht : P.underlying t = some (.slice (P.elem t)) := by rw [he]; exact ht'
  have hz : ∀ w, (sizeOf (P.elem t)).run P w = .ok sz w := by rw [he]; exact hz'
  refine ⟨_, fun w' => ?_, h.cut hlo hhi hc⟩
  rw [run_sliceAt_slice (h := ht), run_slice_lh (ht := ht) (h0 := by omega) (h1 := by omega) (h2 := by omega), hz]
  simp [Result.andThen, sliced]
theorem toNat_cast_eq {a : Int} (h : 0 ≤ a) : (a.toNat : Int) = a := Int.toNat_of_nonneg h
theorem ret_int {k : IntKind} {a b : Int} (h : a = b) : Ending.returned (.int k a) = .returned (.int k b) := by rw [h]
theorem take_snoc {α : Type} (l : List α) (k : Nat) (h : k < l.length) : l.take (k + 1) = l.take k ++ [l[k]] := by
  rw [List.take_succ_eq_append_getElem h]
end Go.Proofs.YtblilfbhohnbgaaGreat
namespace Go.Proofs.YtblilfbhohnbgaaGreat
set_option linter.unusedVariables false
/-- A graph: how many nodes, which links, which nodes are not used, and whether the path without relays is not used. -/
structure PG where
  n : Nat
  adj : List (List Bool)
  out : List Bool
  far : Bool
  deriving DecidableEq
def PG.has (g : PG) (a b : Nat) : Bool := (g.adj.getD a []).getD b false
def PG.open (g : PG) (a b s t : Nat) : Bool := g.has a b && !g.out.getD b false && b != s && a != t && !(g.far && a == s && b == t)
/-- A place in the search: a node, and whether it was come to backwards. -/
abbrev Pl := Nat × Bool
structure BS where
  queue : List Pl
  came : List (Pl × Pl)
  deriving DecidableEq
def BS.seen (s : Nat) (S : BS) (x : Pl) : Bool := x == (s, true) || S.came.any fun c => c.1 == x
def BS.push (s : Nat) (S : BS) (at' x : Pl) : BS := if S.seen s x then S else ⟨S.queue ++ [x], S.came ++ [(x, at')]⟩
def freeN (s : Nat) (nx pv : List Int) (i : Nat) : Bool := i != s && decide (nx.getD i 0 < 0) && decide (pv.getD i 0 < 0)
def skipK (g : PG) (s t : Nat) (nx : List Int) (i k : Nat) : Bool := (i == s && k == t) || !g.open i k s t || decide (nx.getD i 0 = (k : Int))
/-- The steps forward from a place, to the first nodes. -/
def fwdS (g : PG) (s t : Nat) (nx : List Int) (at' : Pl) (S : BS) : Nat → BS
  | 0 => S
  | k + 1 => if skipK g s t nx at'.1 k then fwdS g s t nx at' S k else (fwdS g s t nx at' S k).push s at' (k, false)
def backB (s : Nat) (pv : List Int) (i : Nat) : Bool := i != s && decide (0 ≤ pv.getD i 0) && decide (pv.getD i 0 ≠ (s : Int))
def stepB (g : PG) (s t : Nat) (nx pv : List Int) (at' : Pl) (S : BS) : BS :=
  let S1 := if at'.2 || freeN s nx pv at'.1 then fwdS g s t nx at' S g.n else S
  if backB s pv at'.1 then S1.push s at' ((pv.getD at'.1 0).toNat, true) else S1
/-- The search: the end, and how each place was come to; none: there is no way. -/
def bfs (g : PG) (s t : Nat) (nx pv : List Int) : Nat → BS → Option (Pl × List (Pl × Pl))
  | 0, _ => none
  | f + 1, S => match S.queue with
    | [] => none
    | at' :: q => if at'.1 = t then some (at', S.came) else bfs g s t nx pv f (stepB g s t nx pv at' ⟨q, S.came⟩)
def wasOf (came : List (Pl × Pl)) (x : Pl) : Pl := ((came.find? fun c => c.1 == x).map (·.2)).getD (0, false)
/-- The way back: what is cut and what is added. -/
def backW (came : List (Pl × Pl)) (s : Nat) : Nat → Pl → List (Nat × Nat) × List (Nat × Nat)
  | 0, _ => ([], [])
  | f + 1, x => if x.1 = s then ([], []) else
    let w := wasOf came x
    let r := backW came s f w
    if x.2 then ((x.1, w.1) :: r.1, r.2) else (r.1, (w.1, x.1) :: r.2)
def cut1 (nx pv : List Int) (c : Nat × Nat) : List Int × List Int :=
  (if nx.getD c.1 0 = (c.2 : Int) then nx.set c.1 (-1) else nx, if pv.getD c.2 0 = (c.1 : Int) then pv.set c.2 (-1) else pv)
def cutAll : List Int → List Int → List (Nat × Nat) → List Int × List Int
  | nx, pv, [] => (nx, pv)
  | nx, pv, c :: l => cutAll (cut1 nx pv c).1 (cut1 nx pv c).2 l
def add1 (s : Nat) (nx pv : List Int) (c : Nat × Nat) : List Int × List Int :=
  (if c.1 ≠ s then nx.set c.1 (c.2 : Int) else nx, pv.set c.2 (c.1 : Int))
def addAll (s : Nat) : List Int → List Int → List (Nat × Nat) → List Int × List Int
  | nx, pv, [] => (nx, pv)
  | nx, pv, c :: l => addAll s (add1 s nx pv c).1 (add1 s nx pv c).2 l
def applyW (came : List (Pl × Pl)) (s : Nat) (nx pv : List Int) (x : Pl) : List Int × List Int :=
  let r := backW came s (came.length + 1) x
  let c := cutAll nx pv r.1
  addAll s c.1 c.2 r.2
/-- How often the search can go on at most. -/
def fuelB (n : Nat) : Nat := 4 * n + 8
def augment (g : PG) (s t : Nat) (nx pv : List Int) : Option (List Int × List Int) :=
  (bfs g s t nx pv (fuelB g.n) ⟨[(s, true)], []⟩).map fun r => applyW r.2 s nx pv r.1
/-- How many paths more are found, at most so many. -/
def more (g : PG) (s t : Nat) : Nat → List Int → List Int → Nat
  | 0, _, _ => 0
  | f + 1, nx, pv => match augment g s t nx pv with
    | none => 0
    | some r => more g s t f r.1 r.2 + 1
def countG (g : PG) (s t most : Nat) : Nat :=
  let z := if g.open s t s t && decide (0 < most) then 1 else 0
  z + more g s t (most - z) (List.replicate g.n (-1)) (List.replicate g.n (-1))
/-- One comparison in the table of distances. -/
def relax1 (g : PG) (s t a b : Nat) (d : List Nat) : List Nat := if g.open a b s t then d.set a (min (d.getD a 0) (d.getD b 0 + 1)) else d
def relaxB (g : PG) (s t a : Nat) (d : List Nat) : Nat → List Nat
  | 0 => d
  | b + 1 => relax1 g s t a b (relaxB g s t a d b)
def relaxA (g : PG) (s t : Nat) (d : List Nat) : Nat → List Nat
  | 0 => d
  | a + 1 => relaxB g s t a (relaxA g s t d a) g.n
def relaxN (g : PG) (s t : Nat) (d : List Nat) : Nat → List Nat
  | 0 => d
  | r + 1 => relaxA g s t (relaxN g s t d r) g.n
def distG (g : PG) (s t : Nat) : List Nat := relaxN g s t ((List.replicate g.n (g.n + 1)).set t 0) g.n
def lastN (p : List Nat) : Nat := p.getD (p.length - 1) 0
/-- All paths with so many further links, in their order. -/
def extG (g : PG) (s t : Nat) (d : List Nat) : Nat → List Nat → List (List Nat)
  | 0, p => if lastN p = t then [p] else []
  | l + 1, p => if lastN p = t ∨ l + 1 < d.getD (lastN p) 0 then [] else
    (List.range g.n).flatMap fun k => if !g.open (lastN p) k s t || p.contains k then [] else extG g s t d l (p ++ [k])
def eachG (g : PG) (s t : Nat) : List (List Nat) := (List.range (g.n - 1)).flatMap fun i => extG g s t (distG g s t) (i + 1) [s]
def outAll : List Bool → List Nat → List Bool
  | o, [] => o
  | o, i :: l => outAll (o.set i true) l
def PG.without (g : PG) (p : List Nat) : PG := { g with out := outAll g.out ((p.drop 1).take (p.length - 2)), far := g.far || p.length == 2 }
def pickG (g : PG) (s t left : Nat) : Option (List Nat) := (eachG g s t).find? fun p => decide (left ≤ countG (g.without p) s t left)
def chooseL (s t : Nat) : Nat → PG → List (List Nat)
  | 0, _ => []
  | left + 1, g => match pickG g s t left with
    | some p => p :: chooseL s t left (g.without p)
    | none => chooseL s t left g
def chooseG (g : PG) (s t k : Nat) : List (List Nat) := if countG g s t k < k then [] else chooseL s t k g
/-- The example of the chapter: a, b, c, d. -/
def exAdj (bits : Nat) : List (List Bool) :=
  [[false, decide (bits ≤ 100), decide (bits ≤ 100), decide (bits ≤ 20)], [decide (bits ≤ 100), false, false, decide (bits ≤ 100)],
   [decide (bits ≤ 100), false, false, decide (bits ≤ 100)], [decide (bits ≤ 20), decide (bits ≤ 100), decide (bits ≤ 100), false]]
def exG (bits : Nat) : PG := ⟨4, exAdj bits, [false, false, false, false], false⟩
theorem ex_route : chooseG (exG 50) 0 3 1 = [[0, 1, 3]] := by decide
theorem ex_most : countG (exG 10) 0 3 16 = 3 := by decide
theorem lastN_snoc (p : List Nat) (k : Nat) : lastN (p ++ [k]) = k := by
  unfold lastN
  rw [List.length_append, List.length_singleton, Nat.add_sub_cancel, List.getD_eq_getElem?_getD, List.getElem?_append_right (Nat.le_refl _)]
  simp
/-- Each step of a list from some place on is possible. -/
def ChainF (g : PG) (s t : Nat) (q : List Nat) (a : Nat) : Prop := ∀ i, a ≤ i → i + 1 < q.length → g.open (q.getD i 0) (q.getD (i + 1) 0) s t = true
theorem getD_app_left (p r : List Nat) {i : Nat} (h : i < p.length) : (p ++ r).getD i 0 = p.getD i 0 := by
  rw [List.getD_eq_getElem?_getD, List.getElem?_append_left h, ← List.getD_eq_getElem?_getD]
theorem extG_mem (g : PG) (s t : Nat) (d : List Nat) : ∀ (l : Nat) (p q : List Nat), p ≠ [] → q ∈ extG g s t d l p →
    ∃ r, q = p ++ r ∧ r.length = l ∧ lastN q = t ∧ (p.Nodup → q.Nodup) ∧ ChainF g s t q (p.length - 1) ∧ ∀ x ∈ r, x < g.n
  | 0, p, q, hp, h => by
    rw [extG] at h
    split at h
    · rename_i h1
      rw [List.mem_singleton] at h
      subst h
      refine ⟨[], by simp, rfl, h1, id, fun i h2 h3 => by omega, fun x hx => by simp at hx⟩
    · simp at h
  | l + 1, p, q, hp, h => by
    rw [extG] at h
    split at h
    · simp at h
    · rename_i h1
      rw [List.mem_flatMap] at h
      obtain ⟨k, hk, h⟩ := h
      rw [List.mem_range] at hk
      split at h
      · simp at h
      · rename_i h2
        rw [Bool.or_eq_true, not_or, Bool.not_eq_true', Bool.not_eq_false] at h2
        obtain ⟨h3, h4⟩ := h2
        have h4' : k ∉ p := by simpa using h4
        obtain ⟨r, rfl, h5, h6, h7, h8, h9⟩ := extG_mem g s t d l (p ++ [k]) q (by simp) h
        have hpl : 0 < p.length := by cases p with | nil => exact absurd rfl hp | cons a p => simp
        refine ⟨k :: r, by simp, by simp [h5], h6, fun hn => h7 ?_, fun i hi1 hi2 => ?_, fun x hx => ?_⟩
        · rw [List.nodup_append]
          refine ⟨hn, by simp, fun a ha b hb e => ?_⟩
          simp only [List.mem_singleton] at hb
          subst hb; subst e; exact h4' ha
        · rcases Nat.lt_or_ge (p.length - 1) i with h10 | h10
          · exact h8 i (by rw [List.length_append, List.length_singleton]; omega) hi2
          · have e : i = p.length - 1 := by omega
            subst e
            have e1 : (p ++ [k] ++ r).getD (p.length - 1) 0 = lastN p := by
              rw [List.append_assoc, getD_app_left _ _ (by omega)]; rfl
            have e2 : (p ++ [k] ++ r).getD (p.length - 1 + 1) 0 = k := by
              rw [show p.length - 1 + 1 = p.length by omega, getD_app_left _ _ (by simp), List.getD_eq_getElem?_getD, List.getElem?_append_right (Nat.le_refl _)]
              simp
            rw [e1, e2]; exact h3
        · rcases List.mem_cons.1 hx with rfl | hx
          · exact hk
          · exact h9 x hx
/-- What a path of a graph is. -/
structure PathG (g : PG) (s t : Nat) (p : List Nat) : Prop where
  len : 2 ≤ p.length
  first : p.getD 0 0 = s
  last : lastN p = t
  nodup : p.Nodup
  chain : ChainF g s t p 0
  lt : ∀ x ∈ p.drop 1, x < g.n
theorem eachG_mem {g : PG} {s t : Nat} {p : List Nat} (h : p ∈ eachG g s t) : PathG g s t p := by
  unfold eachG at h
  rw [List.mem_flatMap] at h
  obtain ⟨i, hi, h⟩ := h
  obtain ⟨r, rfl, h1, h2, h3, h4, h5⟩ := extG_mem g s t _ (i + 1) [s] p (by simp) h
  exact ⟨by simp; omega, rfl, h2, h3 (by simp), h4, fun x hx => h5 x (by simpa using hx)⟩
theorem pickG_mem {g : PG} {s t left : Nat} {p : List Nat} (h : pickG g s t left = some p) : PathG g s t p := eachG_mem (List.mem_of_find?_eq_some h)
theorem open_has {g : PG} {a b s t : Nat} (h : g.open a b s t = true) : g.has a b = true ∧ g.out.getD b false = false ∧ b ≠ s ∧ a ≠ t ∧ ¬(g.far = true ∧ a = s ∧ b = t) := by
  unfold PG.open at h
  simp only [Bool.and_eq_true, Bool.not_eq_true', bne_iff_ne, ne_eq, Bool.and_eq_false_imp, beq_eq_false_iff_ne, beq_iff_eq] at h
  obtain ⟨⟨⟨⟨h1, h2⟩, h3⟩, h4⟩, h5⟩ := h
  refine ⟨h1, h2, h3, h4, fun ⟨a1, a2, a3⟩ => ?_⟩
  exact h5 ⟨a1, a2⟩ a3
open Go.RowKit
theorem nodup_sub_len {α : Type} [DecidableEq α] : ∀ {l m : List α}, l.Nodup → (∀ x ∈ l, x ∈ m) → l.length ≤ m.length
  | [], _, _, _ => Nat.zero_le _
  | a :: l, m, h, hs => by
    rw [List.nodup_cons] at h
    have h1 : l.length ≤ (m.erase a).length := nodup_sub_len h.2 fun x hx => by
      have hne : x ≠ a := fun e => h.1 (by rw [← e]; exact hx)
      exact (List.mem_erase_of_ne hne).2 (hs x (List.mem_cons_of_mem _ hx))
    have h2 : a ∈ m := hs a (List.mem_cons_self ..)
    have h3 := List.length_erase_of_mem h2
    have h4 := List.length_pos_of_mem h2
    rw [List.length_cons]; omega
theorem nodup_lt_len {l : List Nat} {n : Nat} (h : l.Nodup) (hl : ∀ x ∈ l, x < n) : l.length ≤ n := by
  have := nodup_sub_len h (m := List.range n) fun x hx => List.mem_range.2 (hl x hx)
  simpa using this
/-- All places. -/
def allM8 (n : Nat) : List Pl := (List.range n).flatMap fun i => [(i, false), (i, true)]
theorem allM8_len (n : Nat) : (allM8 n).length = 2 * n := by
  unfold allM8
  induction n with
  | zero => rfl
  | succ n ih => rw [List.range_succ, List.flatMap_append, List.length_append, ih]; simp; omega
theorem allM8_mem {n : Nat} {x : Pl} (h : x.1 < n) : x ∈ allM8 n := by
  unfold allM8
  rw [List.mem_flatMap]
  refine ⟨x.1, List.mem_range.2 h, ?_⟩
  obtain ⟨a, b⟩ := x
  cases b <;> simp
/-- One step of the search. -/
def StepR (g : PG) (s t : Nat) (nx pv : List Int) (w x : Pl) : Prop :=
  w.1 ≠ t ∧ ((x.2 = false ∧ x.1 < g.n ∧ (w.2 = true ∨ freeN s nx pv w.1 = true) ∧ skipK g s t nx w.1 x.1 = false) ∨
    (x.2 = true ∧ backB s pv w.1 = true ∧ x.1 = (pv.getD w.1 0).toNat))
theorem skipK_false {g : PG} {s t : Nat} {nx : List Int} {i k : Nat} (h : skipK g s t nx i k = false) : ¬(i = s ∧ k = t) ∧ g.open i k s t = true ∧ nx.getD i 0 ≠ (k : Int) := by
  unfold skipK at h
  simp only [Bool.or_eq_false_iff, Bool.and_eq_false_imp, beq_iff_eq, beq_eq_false_iff_ne, Bool.not_eq_false', decide_eq_false_iff_not] at h
  exact ⟨fun h2 => h.1.1 h2.1 h2.2, h.1.2, h.2⟩
theorem skipK_mk {g : PG} {s t : Nat} {nx : List Int} {i k : Nat} (h1 : ¬(i = s ∧ k = t)) (h2 : g.open i k s t = true) (h3 : nx.getD i 0 ≠ (k : Int)) : skipK g s t nx i k = false := by
  unfold skipK
  simp only [Bool.or_eq_false_iff, Bool.and_eq_false_imp, beq_iff_eq, beq_eq_false_iff_ne, Bool.not_eq_false', decide_eq_false_iff_not]
  exact ⟨⟨fun h4 h5 => h1 ⟨h4, h5⟩, h2⟩, h3⟩
theorem backB_true {s : Nat} {pv : List Int} {i : Nat} (h : backB s pv i = true) : i ≠ s ∧ 0 ≤ pv.getD i 0 ∧ pv.getD i 0 ≠ (s : Int) := by
  unfold backB at h
  simp only [Bool.and_eq_true, bne_iff_ne, ne_eq, decide_eq_true_eq] at h
  exact ⟨h.1.1, h.1.2, h.2⟩
theorem backB_mk {s : Nat} {pv : List Int} {i : Nat} (h1 : i ≠ s) (h2 : 0 ≤ pv.getD i 0) (h3 : pv.getD i 0 ≠ (s : Int)) : backB s pv i = true := by
  unfold backB
  simp only [Bool.and_eq_true, bne_iff_ne, ne_eq, decide_eq_true_eq]
  exact ⟨⟨h1, h2⟩, h3⟩
theorem freeN_true {s : Nat} {nx pv : List Int} {i : Nat} (h : freeN s nx pv i = true) : i ≠ s ∧ nx.getD i 0 < 0 ∧ pv.getD i 0 < 0 := by
  unfold freeN at h
  simp only [Bool.and_eq_true, bne_iff_ne, ne_eq, decide_eq_true_eq] at h
  exact ⟨h.1.1, h.1.2, h.2⟩
theorem freeN_mk {s : Nat} {nx pv : List Int} {i : Nat} (h1 : i ≠ s) (h2 : nx.getD i 0 < 0) (h3 : pv.getD i 0 < 0) : freeN s nx pv i = true := by
  unfold freeN
  simp only [Bool.and_eq_true, bne_iff_ne, ne_eq, decide_eq_true_eq]
  exact ⟨⟨h1, h2⟩, h3⟩
section
variable {g : PG} {s t : Nat} {nx pv : List Int}
theorem StepR.ne {w x : Pl} (h : StepR g s t nx pv w x) : x.1 ≠ s := by
  rcases h.2 with ⟨_, _, _, h1⟩ | ⟨_, h1, h2⟩
  · exact (open_has (skipK_false h1).2.1).2.2.1
  · obtain ⟨h3, h4, h5⟩ := backB_true h1
    intro e
    rw [h2] at e
    apply h5; omega
theorem StepR.lt (hpv : ∀ i, pv.getD i 0 < (g.n : Int)) {w x : Pl} (h : StepR g s t nx pv w x) : x.1 < g.n := by
  rcases h.2 with ⟨_, h1, _⟩ | ⟨_, h1, h2⟩
  · exact h1
  · obtain ⟨h3, h4, h5⟩ := backB_true h1
    have := hpv w.1
    rw [h2]; omega
theorem seen_iff {S : BS} {x : Pl} : S.seen s x = true ↔ x = (s, true) ∨ ∃ (i : Nat) (c : Pl × Pl), S.came[i]? = some c ∧ c.1 = x := by
  unfold BS.seen
  rw [Bool.or_eq_true, beq_iff_eq, List.any_eq_true]
  constructor
  · rintro (h | ⟨c, hc, h⟩)
    · exact .inl h
    · obtain ⟨i, hi⟩ := List.getElem?_of_mem hc
      exact .inr ⟨i, c, hi, by simpa using h⟩
  · rintro (h | ⟨i, c, hc, h⟩)
    · exact .inl h
    · exact .inr ⟨c, List.mem_of_getElem? hc, by simpa using h⟩
/-- What holds throughout the search, but that a may not have been left yet. -/
structure BIx (g : PG) (s t : Nat) (nx pv : List Int) (a : Pl) (S : BS) : Prop where
  nod : (S.came.map (·.1)).Nodup
  par : ∀ (i : Nat) (c : Pl × Pl), S.came[i]? = some c → StepR g s t nx pv c.2 c.1 ∧ (c.2 = (s, true) ∨ ∃ (j : Nat) (c' : Pl × Pl), j < i ∧ S.came[j]? = some c' ∧ c'.1 = c.2)
  que : ∀ x ∈ S.queue, S.seen s x = true
  clo : ∀ x, S.seen s x = true → x ∉ S.queue → x ≠ a → x.1 ≠ t ∧ ∀ y, StepR g s t nx pv x y → S.seen s y = true
theorem push_seen {S : BS} {a x y : Pl} (h : S.seen s y = true) : (S.push s a x).seen s y = true := by
  unfold BS.push
  split
  · exact h
  · rw [seen_iff] at h ⊢
    rcases h with h | ⟨i, c, hc, h⟩
    · exact .inl h
    · refine .inr ⟨i, c, ?_, h⟩
      have hi := (List.getElem?_eq_some_iff.1 hc).1
      show (S.came ++ [(x, a)])[i]? = some c
      rw [List.getElem?_append_left hi]; exact hc
theorem push_self {S : BS} {a x : Pl} : (S.push s a x).seen s x = true := by
  unfold BS.push
  split
  · assumption
  · rw [seen_iff]
    exact .inr ⟨S.came.length, (x, a), by simp, rfl⟩
theorem push_bal (S : BS) (a x : Pl) : (S.push s a x).queue.length + S.came.length = S.queue.length + (S.push s a x).came.length := by
  unfold BS.push
  split
  · rfl
  · simp; omega
theorem BIx.push {S : BS} {a x : Pl} (h : BIx g s t nx pv a S) (ha : S.seen s a = true) (hx : StepR g s t nx pv a x) : BIx g s t nx pv a (S.push s a x) := by
  cases hs : S.seen s x with
  | true =>
    have : S.push s a x = S := by unfold BS.push; rw [if_pos hs]
    rw [this]; exact h
  | false =>
    have e : S.push s a x = ⟨S.queue ++ [x], S.came ++ [(x, a)]⟩ := by unfold BS.push; rw [if_neg (by rw [hs]; simp)]
    have hmono : ∀ y, S.seen s y = true → (S.push s a x).seen s y = true := fun y hy => push_seen hy
    have hself : (S.push s a x).seen s x = true := push_self
    rw [e] at hmono hself ⊢
    have hnx : ∀ (i : Nat) (c : Pl × Pl), S.came[i]? = some c → c.1 ≠ x := fun i c hc hcx => by
      have : S.seen s x = true := seen_iff.2 (.inr ⟨i, c, hc, hcx⟩)
      rw [hs] at this; cases this
    refine ⟨?_, ?_, ?_, ?_⟩
    · simp only [List.map_append, List.map_cons, List.map_nil]
      rw [List.nodup_append]
      refine ⟨h.nod, by simp, fun y hy z hz e2 => ?_⟩
      simp only [List.mem_singleton] at hz
      obtain ⟨c, hc, hcy⟩ := List.mem_map.1 hy
      obtain ⟨i, hi⟩ := List.getElem?_of_mem hc
      exact hnx i c hi (hcy.trans (e2.trans hz))
    · intro i c hc
      simp only at hc
      rcases Nat.lt_or_ge i S.came.length with h1 | h1
      · rw [List.getElem?_append_left h1] at hc
        obtain ⟨h2, h3⟩ := h.par i c hc
        refine ⟨h2, h3.imp id ?_⟩
        rintro ⟨j, c', hj, hc', he⟩
        exact ⟨j, c', hj, by simp only; rw [List.getElem?_append_left (by omega)]; exact hc', he⟩
      · have hi := (List.getElem?_eq_some_iff.1 hc).1
        simp only [List.length_append, List.length_singleton] at hi
        obtain rfl : i = S.came.length := by omega
        rw [List.getElem?_append_right (Nat.le_refl _), Nat.sub_self] at hc
        simp only [List.getElem?_cons_zero, Option.some.injEq] at hc
        subst hc
        refine ⟨hx, ?_⟩
        rcases seen_iff.1 ha with h2 | ⟨j, c', hc', he⟩
        · exact .inl h2
        · have hj := (List.getElem?_eq_some_iff.1 hc').1
          exact .inr ⟨j, c', hj, by simp only; rw [List.getElem?_append_left hj]; exact hc', he⟩
    · intro y hy
      simp only at hy
      rcases List.mem_append.1 hy with hy | hy
      · exact hmono y (h.que y hy)
      · rw [List.mem_singleton] at hy; subst hy; exact hself
    · intro y hy hq hya
      simp only at hq
      rw [List.mem_append, not_or, List.mem_singleton] at hq
      have hold : S.seen s y = true := by
        rcases seen_iff.1 hy with h2 | ⟨j, c', hc', he⟩
        · exact seen_iff.2 (.inl h2)
        · simp only at hc'
          rcases Nat.lt_or_ge j S.came.length with h1 | h1
          · rw [List.getElem?_append_left h1] at hc'
            exact seen_iff.2 (.inr ⟨j, c', hc', he⟩)
          · have hi := (List.getElem?_eq_some_iff.1 hc').1
            simp only [List.length_append, List.length_singleton] at hi
            obtain rfl : j = S.came.length := by omega
            rw [List.getElem?_append_right (Nat.le_refl _), Nat.sub_self] at hc'
            simp only [List.getElem?_cons_zero, Option.some.injEq] at hc'
            subst hc'
            exact absurd he.symm hq.2
      obtain ⟨h3, h4⟩ := h.clo y hold hq.1 hya
      exact ⟨h3, fun z hz => hmono z (h4 z hz)⟩
theorem fwdS_BIx {S : BS} {a : Pl} (h : BIx g s t nx pv a S) (ha : S.seen s a = true) (hat : a.1 ≠ t) (hl : a.2 = true ∨ freeN s nx pv a.1 = true) : ∀ k, k ≤ g.n →
    BIx g s t nx pv a (fwdS g s t nx a S k) ∧ (∀ y, S.seen s y = true → (fwdS g s t nx a S k).seen s y = true) ∧ (∀ i, i < k → skipK g s t nx a.1 i = false → (fwdS g s t nx a S k).seen s (i, false) = true) ∧
    (fwdS g s t nx a S k).queue.length + S.came.length = S.queue.length + (fwdS g s t nx a S k).came.length
  | 0, _ => ⟨h, fun _ h => h, fun i hi => by omega, by rfl⟩
  | k + 1, hk => by
    obtain ⟨h1, h2, h3, h4⟩ := fwdS_BIx h ha hat hl k (by omega)
    rw [fwdS]
    split
    · rename_i hs
      refine ⟨h1, h2, fun i hi hsk => ?_, h4⟩
      rcases Nat.lt_or_ge i k with h5 | h5
      · exact h3 i h5 hsk
      · obtain rfl : i = k := by omega
        rw [hs] at hsk; cases hsk
    · rename_i hs
      have hs' : skipK g s t nx a.1 k = false := by simpa using hs
      refine ⟨h1.push (h2 a ha) ⟨hat, .inl ⟨rfl, by show k < g.n; omega, hl, hs'⟩⟩, fun y hy => push_seen (h2 y hy), fun i hi hsk => ?_, ?_⟩
      · rcases Nat.lt_or_ge i k with h5 | h5
        · exact push_seen (h3 i h5 hsk)
        · obtain rfl : i = k := by omega
          exact push_self
      · have := push_bal (s := s) (fwdS g s t nx a S k) a (k, false)
        omega
theorem stepB_BI {q : List Pl} {came : List (Pl × Pl)} {a b : Pl} (h : BIx g s t nx pv a ⟨q, came⟩) (ha : BS.seen s ⟨q, came⟩ a = true) (hat : a.1 ≠ t) :
    BIx g s t nx pv b (stepB g s t nx pv a ⟨q, came⟩) ∧ (stepB g s t nx pv a ⟨q, came⟩).queue.length + came.length = q.length + (stepB g s t nx pv a ⟨q, came⟩).came.length ∧ (∀ y, BS.seen s ⟨q, came⟩ y = true → (stepB g s t nx pv a ⟨q, came⟩).seen s y = true) := by
  have key : ∃ S1 : BS, S1 = (if a.2 || freeN s nx pv a.1 then fwdS g s t nx a ⟨q, came⟩ g.n else ⟨q, came⟩) ∧ BIx g s t nx pv a S1 ∧ (∀ y, BS.seen s ⟨q, came⟩ y = true → S1.seen s y = true) ∧
      (∀ i, i < g.n → (a.2 = true ∨ freeN s nx pv a.1 = true) → skipK g s t nx a.1 i = false → S1.seen s (i, false) = true) ∧ S1.queue.length + came.length = q.length + S1.came.length := by
    by_cases hl : a.2 = true ∨ freeN s nx pv a.1 = true
    · obtain ⟨h1, h2, h3, h4⟩ := fwdS_BIx h ha hat hl g.n (Nat.le_refl _)
      exact ⟨_, rfl, by rw [if_pos (by simpa using hl)]; exact h1, by rw [if_pos (by simpa using hl)]; exact h2, by rw [if_pos (by simpa using hl)]; exact fun i hi _ hs => h3 i hi hs, by rw [if_pos (by simpa using hl)]; exact h4⟩
    · exact ⟨_, rfl, by rw [if_neg (by simpa using hl)]; exact h, by rw [if_neg (by simpa using hl)]; exact fun _ h => h, fun i hi hl' => absurd hl' hl, by rw [if_neg (by simpa using hl)]⟩
  obtain ⟨S1, hS1, h1, h2, h3, h4⟩ := key
  have e : stepB g s t nx pv a ⟨q, came⟩ = if backB s pv a.1 then S1.push s a ((pv.getD a.1 0).toNat, true) else S1 := by
    unfold stepB; rw [hS1]
  have fin : ∀ S2 : BS, BIx g s t nx pv a S2 → (∀ y, S1.seen s y = true → S2.seen s y = true) → (backB s pv a.1 = true → S2.seen s ((pv.getD a.1 0).toNat, true) = true) → BIx g s t nx pv b S2 := fun S2 g1 g2 g3 => by
    refine ⟨g1.nod, g1.par, g1.que, fun x hx hq _ => ?_⟩
    by_cases hxa : x = a
    · subst hxa
      refine ⟨hat, fun y hy => ?_⟩
      rcases hy.2 with ⟨k1, k2, k3, k4⟩ | ⟨k1, k2, k3⟩
      · have hy' : y = (y.1, false) := Prod.ext rfl k1
        rw [hy']; exact g2 _ (h3 y.1 k2 k3 k4)
      · have hy' : y = ((pv.getD x.1 0).toNat, true) := Prod.ext k3 k1
        rw [hy']; exact g3 k2
    · exact g1.clo x hx hq hxa
  rw [e]
  split
  · rename_i hb
    refine ⟨fin _ (h1.push (h2 a ha) ⟨hat, .inr ⟨rfl, hb, rfl⟩⟩) (fun y hy => push_seen hy) (fun _ => push_self), ?_, fun y hy => push_seen (h2 y hy)⟩
    have := push_bal (s := s) S1 a ((pv.getD a.1 0).toNat, true)
    omega
  · rename_i hb
    exact ⟨fin _ h1 (fun _ h => h) (fun h => absurd h hb), h4, h2⟩
theorem BIx.len {a : Pl} {S : BS} (hpv : ∀ i, pv.getD i 0 < (g.n : Int)) (h : BIx g s t nx pv a S) : S.came.length ≤ 2 * g.n := by
  have := nodup_sub_len h.nod (m := allM8 g.n) (fun x hx => by
    obtain ⟨c, hc, rfl⟩ := List.mem_map.1 hx
    obtain ⟨i, hi⟩ := List.getElem?_of_mem hc
    exact allM8_mem ((h.par i c hi).1.lt hpv))
  rw [allM8_len, List.length_map] at this; exact this
theorem BIx.pop {q : List Pl} {came : List (Pl × Pl)} {a b : Pl} (h : BIx g s t nx pv b ⟨a :: q, came⟩) (hb : b ∈ a :: q ∨ BS.seen s ⟨a :: q, came⟩ b = false) : BIx g s t nx pv a ⟨q, came⟩ :=
  ⟨h.nod, h.par, fun x hx => h.que x (by simp [hx]), fun x hx hq hne => by
    refine h.clo x hx ?_ ?_
    · simp only [List.mem_cons, not_or]; exact ⟨hne, hq⟩
    · rintro rfl
      rcases hb with hb | hb
      · simp only [List.mem_cons] at hb
        exact hb.elim hne hq
      · have hx' : BS.seen s ⟨a :: q, came⟩ x = true := hx
        rw [hb] at hx'; cases hx'⟩
/-- What the search ends with. -/
theorem bfs_ends (hpv : ∀ i, pv.getD i 0 < (g.n : Int)) : ∀ (f : Nat) (S : BS), (∀ b, BIx g s t nx pv b S) → S.queue.length + 2 * g.n < f + S.came.length → S.seen s (s, true) = true →
    match bfs g s t nx pv f S with
    | some r => ∃ (q : List Pl) (b : Pl), BIx g s t nx pv b ⟨q, r.2⟩ ∧ BS.seen s ⟨q, r.2⟩ r.1 = true ∧ r.1.1 = t
    | none => ∃ S' : BS, (∀ b, BIx g s t nx pv b S') ∧ S'.queue = []
  | 0, S, h, hm, _ => by
    have := (h (0, false)).len hpv
    omega
  | f + 1, S, h, hm, hs => by
    obtain ⟨qq, came⟩ := S
    cases qq with
    | nil => rw [bfs]; exact ⟨_, h, rfl⟩
    | cons a q =>
      rw [bfs]
      by_cases hat : a.1 = t
      · dsimp only
        rw [if_pos hat]
        exact ⟨a :: q, a, h a, (h a).que a (by simp), hat⟩
      · dsimp only
        rw [if_neg hat]
        have h1 := (h a).pop (.inl (by simp))
        have ha : BS.seen s ⟨q, came⟩ a = true := (h a).que a (by simp)
        refine bfs_ends hpv f _ (fun b => (stepB_BI h1 ha hat).1) ?_ ((stepB_BI (b := a) h1 ha hat).2.2 _ (seen_iff.2 (.inl rfl)))
        have h2 := (stepB_BI (b := a) h1 ha hat).2.1
        simp only [List.length_cons] at hm
        omega
theorem bfs_start (hpv : ∀ i, pv.getD i 0 < (g.n : Int)) :
    match bfs g s t nx pv (fuelB g.n) ⟨[(s, true)], []⟩ with
    | some r => ∃ (q : List Pl) (b : Pl), BIx g s t nx pv b ⟨q, r.2⟩ ∧ BS.seen s ⟨q, r.2⟩ r.1 = true ∧ r.1.1 = t
    | none => ∃ S' : BS, (∀ b, BIx g s t nx pv b S') ∧ S'.queue = [] := by
  refine bfs_ends hpv _ _ (fun b => ⟨List.nodup_nil, fun i c hc => by simp at hc, fun x hx => ?_, fun x hx hq _ => ?_⟩) (by simp [fuelB]; omega) (seen_iff.2 (.inl rfl))
  · simp only [List.mem_singleton] at hx
    exact seen_iff.2 (.inl hx)
  · rcases seen_iff.1 hx with h | ⟨i, c, hc, _⟩
    · subst h; simp at hq
    · simp at hc
end
end Go.Proofs.YtblilfbhohnbgaaGreat
namespace Go.Proofs.YtblilfbhohnbgaaGreat
set_option linter.unusedVariables false
/-- The way back from a place, as a list: the place first, the beginning last. -/
inductive Chn (g : PG) (s t : Nat) (nx pv : List Int) : List Pl → Prop
  | base : Chn g s t nx pv [(s, true)]
  | step {x w : Pl} {l : List Pl} : Chn g s t nx pv (w :: l) → StepR g s t nx pv w x → x ∉ (w :: l) → Chn g s t nx pv (x :: w :: l)
def cutsL : List Pl → List (Nat × Nat)
  | x :: w :: l => if x.2 then (x.1, w.1) :: cutsL (w :: l) else cutsL (w :: l)
  | _ => []
def addsL : List Pl → List (Nat × Nat)
  | x :: w :: l => if x.2 then addsL (w :: l) else (w.1, x.1) :: addsL (w :: l)
  | _ => []
theorem mem_cutsL {a b : Nat} : ∀ {L : List Pl}, (a, b) ∈ cutsL L ↔ ∃ (i : Nat) (w : Pl), L[i]? = some (a, true) ∧ L[i + 1]? = some w ∧ w.1 = b
  | [] => by simp [cutsL]
  | [x] => by simp [cutsL]
  | x :: w :: l => by
    have ih := mem_cutsL (a := a) (b := b) (L := w :: l)
    rw [cutsL]
    constructor
    · intro h
      split at h
      · rename_i hx
        rcases List.mem_cons.1 h with h | h
        · obtain ⟨rfl, rfl⟩ := Prod.mk.inj h
          refine ⟨0, w, ?_, rfl, rfl⟩
          rw [← hx]; rfl
        · obtain ⟨i, w', h1, h2, h3⟩ := ih.1 h
          exact ⟨i + 1, w', h1, h2, h3⟩
      · obtain ⟨i, w', h1, h2, h3⟩ := ih.1 h
        exact ⟨i + 1, w', h1, h2, h3⟩
    · rintro ⟨i, w', h1, h2, h3⟩
      cases i with
      | zero =>
        simp only [List.getElem?_cons_zero, Option.some.injEq] at h1
        simp only [Nat.zero_add, List.getElem?_cons_succ, List.getElem?_cons_zero, Option.some.injEq] at h2
        subst h1; subst h2; subst h3
        simp
      | succ i =>
        have h4 := ih.2 ⟨i, w', h1, h2, h3⟩
        split
        · exact List.mem_cons_of_mem _ h4
        · exact h4
theorem mem_addsL {a b : Nat} : ∀ {L : List Pl}, (a, b) ∈ addsL L ↔ ∃ (i : Nat) (w : Pl), L[i]? = some (b, false) ∧ L[i + 1]? = some w ∧ w.1 = a
  | [] => by simp [addsL]
  | [x] => by simp [addsL]
  | x :: w :: l => by
    have ih := mem_addsL (a := a) (b := b) (L := w :: l)
    rw [addsL]
    constructor
    · intro h
      split at h
      · obtain ⟨i, w', h1, h2, h3⟩ := ih.1 h
        exact ⟨i + 1, w', h1, h2, h3⟩
      · rename_i hx
        rcases List.mem_cons.1 h with h | h
        · obtain ⟨rfl, rfl⟩ := Prod.mk.inj h
          refine ⟨0, w, ?_, rfl, rfl⟩
          have hx' : x.2 = false := by simpa using hx
          rw [← hx']; rfl
        · obtain ⟨i, w', h1, h2, h3⟩ := ih.1 h
          exact ⟨i + 1, w', h1, h2, h3⟩
    · rintro ⟨i, w', h1, h2, h3⟩
      cases i with
      | zero =>
        simp only [List.getElem?_cons_zero, Option.some.injEq] at h1
        simp only [Nat.zero_add, List.getElem?_cons_succ, List.getElem?_cons_zero, Option.some.injEq] at h2
        subst h1; subst h2; subst h3
        simp
      | succ i =>
        have h4 := ih.2 ⟨i, w', h1, h2, h3⟩
        split
        · exact h4
        · exact List.mem_cons_of_mem _ h4
section
variable {g : PG} {s t : Nat} {nx pv : List Int}
theorem Chn.nodup {L : List Pl} (h : Chn g s t nx pv L) : L.Nodup := by
  induction h with
  | base => simp
  | step h1 h2 h3 ih => exact List.nodup_cons.2 ⟨h3, ih⟩
theorem Chn.pair {L : List Pl} (h : Chn g s t nx pv L) : ∀ (i : Nat) (x w : Pl), L[i]? = some x → L[i + 1]? = some w → StepR g s t nx pv w x := by
  induction h with
  | base => intro i x w h1 h2; simp at h2
  | step h1 h2 h3 ih =>
    intro i x' w' h4 h5
    cases i with
    | zero =>
      simp only [List.getElem?_cons_zero, Option.some.injEq] at h4
      simp only [Nat.zero_add, List.getElem?_cons_succ, List.getElem?_cons_zero, Option.some.injEq] at h5
      subst h4; subst h5; exact h2
    | succ i => exact ih i x' w' h4 h5
theorem Chn.last {L : List Pl} (h : Chn g s t nx pv L) : ∀ (i : Nat) (x : Pl), L[i]? = some x → L[i + 1]? = none → x = (s, true) := by
  induction h with
  | base =>
    intro i x h1 h2
    cases i with
    | zero => simpa using h1.symm
    | succ i => simp at h1
  | step h1 h2 h3 ih =>
    intro i x' h4 h5
    cases i with
    | zero => simp at h5
    | succ i => exact ih i x' h4 h5
theorem Chn.mem_s {L : List Pl} (h : Chn g s t nx pv L) : (s, true) ∈ L := by
  induction h with
  | base => simp
  | step h1 h2 h3 ih => exact List.mem_cons_of_mem _ ih
theorem wasOf_idx {came : List (Pl × Pl)} (hd : (came.map (·.1)).Nodup) {i : Nat} {c : Pl × Pl} (h : came[i]? = some c) : wasOf came c.1 = c.2 := by
  obtain ⟨hi, rfl⟩ := List.getElem?_eq_some_iff.1 h
  unfold wasOf
  have : came.find? (fun c => c.1 == (came[i]).1) = some came[i] := by
    rw [List.find?_eq_some_iff_getElem]
    refine ⟨by simp, i, hi, rfl, fun j hj => ?_⟩
    simp only [Bool.not_eq_true', beq_eq_false_iff_ne]
    intro e
    have h2 := (List.pairwise_iff_getElem.1 hd) j i (by simp; omega) (by simpa using hi) hj
    apply h2
    rw [List.getElem_map, List.getElem_map]; exact e
  rw [this]; rfl
theorem key_inj {came : List (Pl × Pl)} (hd : (came.map (·.1)).Nodup) {i j : Nat} {c d : Pl × Pl} (hi : came[i]? = some c) (hj : came[j]? = some d) (e : c.1 = d.1) : i = j := by
  obtain ⟨h1, rfl⟩ := List.getElem?_eq_some_iff.1 hi
  obtain ⟨h2, rfl⟩ := List.getElem?_eq_some_iff.1 hj
  rcases Nat.lt_trichotomy i j with h | h | h
  · exact absurd (by rw [List.getElem_map, List.getElem_map]; exact e) ((List.pairwise_iff_getElem.1 hd) i j (by simp; omega) (by simpa using h2) h)
  · exact h
  · exact absurd (by rw [List.getElem_map, List.getElem_map]; exact e.symm) ((List.pairwise_iff_getElem.1 hd) j i (by simp; omega) (by simpa using h1) h)
theorem chain_of {q : List Pl} {came : List (Pl × Pl)} {b : Pl} (h : BIx g s t nx pv b ⟨q, came⟩) : ∀ (i : Nat) (c : Pl × Pl), came[i]? = some c →
    ∃ l, Chn g s t nx pv (c.1 :: l) ∧ (∀ y ∈ c.1 :: l, y = (s, true) ∨ ∃ (j : Nat) (c' : Pl × Pl), j ≤ i ∧ came[j]? = some c' ∧ c'.1 = y) ∧ ∀ f, i + 1 < f → backW came s f c.1 = (cutsL (c.1 :: l), addsL (c.1 :: l)) := by
  intro i
  induction i using Nat.strongRecOn with
  | ind i ih =>
    intro c hc
    obtain ⟨h1, h2⟩ := h.par i c hc
    have hne := h1.ne
    have hw := wasOf_idx h.nod hc
    rcases h2 with h2 | ⟨j, c', hj, hc', he⟩
    · refine ⟨[(s, true)], .step .base (h2 ▸ h1) ?_, ?_, ?_⟩
      · rw [List.mem_singleton]; intro e; apply hne; rw [e]
      · intro y hy
        rcases List.mem_cons.1 hy with rfl | hy
        · exact .inr ⟨i, c, Nat.le_refl _, hc, rfl⟩
        · rw [List.mem_singleton] at hy; exact .inl hy
      · intro f hf
        obtain ⟨f, rfl⟩ : ∃ k, f = k + 1 := ⟨f - 1, by omega⟩
        obtain ⟨f, rfl⟩ : ∃ k, f = k + 1 := ⟨f - 1, by omega⟩
        have hb : backW came s (f + 1) (s, true) = ([], []) := by rw [backW, if_pos rfl]
        rw [backW, if_neg hne, hw, h2]
        dsimp only
        rw [hb]
        dsimp only [cutsL, addsL]
        split <;> rfl
    · obtain ⟨l, k1, k2, k3⟩ := ih j hj c' hc'
      refine ⟨c'.1 :: l, .step k1 (he ▸ h1) ?_, ?_, ?_⟩
      · intro hm
        rcases k2 _ hm with e | ⟨j', d, hj', hd, e⟩
        · apply hne; rw [e]
        · have := key_inj h.nod hd hc e
          omega
      · intro y hy
        rcases List.mem_cons.1 hy with rfl | hy
        · exact .inr ⟨i, c, Nat.le_refl _, hc, rfl⟩
        · rcases k2 y hy with e | ⟨j', d, hj', hd, e⟩
          · exact .inl e
          · exact .inr ⟨j', d, by omega, hd, e⟩
      · intro f hf
        obtain ⟨f, rfl⟩ : ∃ k, f = k + 1 := ⟨f - 1, by omega⟩
        rw [backW, if_neg hne, hw, ← he]
        dsimp only
        rw [k3 f (by omega)]
        dsimp only
        rw [cutsL, addsL]
        split <;> rfl
theorem chain_seen {q : List Pl} {came : List (Pl × Pl)} {b x : Pl} (h : BIx g s t nx pv b ⟨q, came⟩) (hx : BS.seen s ⟨q, came⟩ x = true) (hxs : x.1 ≠ s) :
    ∃ l, Chn g s t nx pv (x :: l) ∧ backW came s (came.length + 1) x = (cutsL (x :: l), addsL (x :: l)) := by
  rcases seen_iff.1 hx with rfl | ⟨i, c, hc, rfl⟩
  · exact absurd rfl hxs
  · obtain ⟨l, h1, _, h3⟩ := chain_of h i c hc
    exact ⟨l, h1, h3 _ (by have := (List.getElem?_eq_some_iff.1 hc).1; simp only at this; omega)⟩
end
/-! What the rows are behind cuts and additions. -/
theorem getD_set_ne' {l : List Int} {i k : Nat} {x : Int} (h : k ≠ i) : (l.set i x).getD k 0 = l.getD k 0 := by
  simp only [List.getD_eq_getElem?_getD]; rw [List.getElem?_set_ne (fun e => h e.symm)]
theorem getD_set_eq' {l : List Int} {k : Nat} {x : Int} (h : k < l.length) : (l.set k x).getD k 0 = x := by
  simp only [List.getD_eq_getElem?_getD]; rw [List.getElem?_set_self h]; rfl
theorem cutAll_len : ∀ (l : List (Nat × Nat)) (nx pv : List Int), (cutAll nx pv l).1.length = nx.length ∧ (cutAll nx pv l).2.length = pv.length
  | [], _, _ => ⟨rfl, rfl⟩
  | c :: l, nx, pv => by
    rw [cutAll]
    obtain ⟨h1, h2⟩ := cutAll_len l (cut1 nx pv c).1 (cut1 nx pv c).2
    rw [h1, h2]
    unfold cut1
    constructor <;> (dsimp only; split <;> simp)
theorem addAll_len : ∀ (s : Nat) (l : List (Nat × Nat)) (nx pv : List Int), (addAll s nx pv l).1.length = nx.length ∧ (addAll s nx pv l).2.length = pv.length
  | _, [], _, _ => ⟨rfl, rfl⟩
  | s, c :: l, nx, pv => by
    rw [addAll]
    obtain ⟨h1, h2⟩ := addAll_len s l (add1 s nx pv c).1 (add1 s nx pv c).2
    rw [h1, h2]
    unfold add1
    constructor
    · dsimp only; split <;> simp
    · simp
theorem cut1_nx {nx pv : List Int} {c : Nat × Nat} {k : Nat} : (k < nx.length ∧ c.1 = k ∧ nx.getD k 0 = (c.2 : Int) ∧ (cut1 nx pv c).1.getD k 0 = -1) ∨ ((k < nx.length → ¬(c.1 = k ∧ nx.getD k 0 = (c.2 : Int))) ∧ (cut1 nx pv c).1.getD k 0 = nx.getD k 0) := by
  unfold cut1
  dsimp only
  split
  · rename_i h
    by_cases e : c.1 = k
    · subst e
      by_cases hk : c.1 < nx.length
      · exact .inl ⟨hk, rfl, h, getD_set_eq' hk⟩
      · exact .inr ⟨fun h => absurd h hk, by rw [List.set_eq_of_length_le (by omega)]⟩
    · exact .inr ⟨fun _ h => e h.1, getD_set_ne' (fun h => e h.symm)⟩
  · rename_i h
    refine .inr ⟨fun _ h2 => h ?_, rfl⟩
    rw [h2.1]; exact h2.2
theorem cut1_pv {nx pv : List Int} {c : Nat × Nat} {k : Nat} : (k < pv.length ∧ c.2 = k ∧ pv.getD k 0 = (c.1 : Int) ∧ (cut1 nx pv c).2.getD k 0 = -1) ∨ ((k < pv.length → ¬(c.2 = k ∧ pv.getD k 0 = (c.1 : Int))) ∧ (cut1 nx pv c).2.getD k 0 = pv.getD k 0) := by
  unfold cut1
  dsimp only
  split
  · rename_i h
    by_cases e : c.2 = k
    · subst e
      by_cases hk : c.2 < pv.length
      · exact .inl ⟨hk, rfl, h, getD_set_eq' hk⟩
      · exact .inr ⟨fun h => absurd h hk, by rw [List.set_eq_of_length_le (by omega)]⟩
    · exact .inr ⟨fun _ h => e h.1, getD_set_ne' (fun h => e h.symm)⟩
  · rename_i h
    refine .inr ⟨fun _ h2 => h ?_, rfl⟩
    rw [h2.1]; exact h2.2
theorem cut1_len' (nx pv : List Int) (c : Nat × Nat) : (cut1 nx pv c).1.length = nx.length ∧ (cut1 nx pv c).2.length = pv.length := by
  unfold cut1
  constructor <;> (dsimp only; split <;> simp)
theorem cutAll_nx {k : Nat} : ∀ (l : List (Nat × Nat)) (nx pv : List Int), k < nx.length → ((∃ b, (k, b) ∈ l ∧ nx.getD k 0 = (b : Int)) ∧ (cutAll nx pv l).1.getD k 0 = -1) ∨ ((∀ b, (k, b) ∈ l → nx.getD k 0 ≠ (b : Int)) ∧ (cutAll nx pv l).1.getD k 0 = nx.getD k 0)
  | [], _, _, _ => .inr ⟨fun b hb => by simp at hb, rfl⟩
  | c :: l, nx, pv, hk => by
    rw [cutAll]
    have hl := (cut1_len' nx pv c).1
    rcases cutAll_nx l (cut1 nx pv c).1 (cut1 nx pv c).2 (by rw [hl]; exact hk) with ⟨⟨b, h1, h2⟩, h3⟩ | ⟨h1, h3⟩ <;> rcases @cut1_nx nx pv c k with ⟨_, k2, k3, k4⟩ | ⟨k1, k4⟩
    · rw [k4] at h2; omega
    · rw [k4] at h2
      exact .inl ⟨⟨b, by simp [h1], h2⟩, h3⟩
    · exact .inl ⟨⟨c.2, by rw [← k2]; simp, k3⟩, by rw [h3, k4]⟩
    · refine .inr ⟨fun b hb => ?_, by rw [h3, k4]⟩
      rcases List.mem_cons.1 hb with hb | hb
      · subst hb
        exact fun h => k1 hk ⟨rfl, h⟩
      · have := h1 b hb
        rw [k4] at this; exact this
theorem cutAll_pv {k : Nat} : ∀ (l : List (Nat × Nat)) (nx pv : List Int), k < pv.length → ((∃ a, (a, k) ∈ l ∧ pv.getD k 0 = (a : Int)) ∧ (cutAll nx pv l).2.getD k 0 = -1) ∨ ((∀ a, (a, k) ∈ l → pv.getD k 0 ≠ (a : Int)) ∧ (cutAll nx pv l).2.getD k 0 = pv.getD k 0)
  | [], _, _, _ => .inr ⟨fun b hb => by simp at hb, rfl⟩
  | c :: l, nx, pv, hk => by
    rw [cutAll]
    have hl := (cut1_len' nx pv c).2
    rcases cutAll_pv l (cut1 nx pv c).1 (cut1 nx pv c).2 (by rw [hl]; exact hk) with ⟨⟨b, h1, h2⟩, h3⟩ | ⟨h1, h3⟩ <;> rcases @cut1_pv nx pv c k with ⟨_, k2, k3, k4⟩ | ⟨k1, k4⟩
    · rw [k4] at h2; omega
    · rw [k4] at h2
      exact .inl ⟨⟨b, by simp [h1], h2⟩, h3⟩
    · exact .inl ⟨⟨c.1, by rw [← k2]; simp, k3⟩, by rw [h3, k4]⟩
    · refine .inr ⟨fun b hb => ?_, by rw [h3, k4]⟩
      rcases List.mem_cons.1 hb with hb | hb
      · subst hb
        exact fun h => k1 hk ⟨rfl, h⟩
      · have := h1 b hb
        rw [k4] at this; exact this
theorem addAll_nx_same {s k : Nat} : ∀ (l : List (Nat × Nat)) (nx pv : List Int), (∀ b, (k, b) ∈ l → k = s) → (addAll s nx pv l).1.getD k 0 = nx.getD k 0
  | [], _, _, _ => rfl
  | c :: l, nx, pv, h => by
    rw [addAll, addAll_nx_same l _ _ (fun b hb => h b (by simp [hb]))]
    unfold add1
    dsimp only
    split
    · rename_i hc
      refine getD_set_ne' (fun e => hc ?_)
      have := h c.2 (by rw [e]; simp)
      rw [← e]; exact this
    · rfl
theorem addAll_nx_set {s k b : Nat} (hks : k ≠ s) : ∀ (l : List (Nat × Nat)) (nx pv : List Int), k < nx.length → (k, b) ∈ l → (∀ b', (k, b') ∈ l → b' = b) → (addAll s nx pv l).1.getD k 0 = b
  | [], _, _, _, h, _ => by simp at h
  | c :: l, nx, pv, hk, hm, hu => by
    rw [addAll]
    have hl : (add1 s nx pv c).1.length = nx.length := by unfold add1; dsimp only; split <;> simp
    by_cases hin : ∃ b', (k, b') ∈ l
    · obtain ⟨b', hb'⟩ := hin
      have e := hu b' (by simp [hb'])
      subst e
      exact addAll_nx_set hks l _ _ (by rw [hl]; exact hk) hb' (fun b'' h => hu b'' (by simp [h]))
    · rw [addAll_nx_same l _ _ (fun b' hb' => absurd ⟨b', hb'⟩ hin)]
      rcases List.mem_cons.1 hm with hm | hm
      · subst hm
        unfold add1
        dsimp only
        rw [if_pos hks]
        exact getD_set_eq' hk
      · exact absurd ⟨b, hm⟩ hin
theorem addAll_pv_same {s k : Nat} : ∀ (l : List (Nat × Nat)) (nx pv : List Int), (∀ a, (a, k) ∉ l) → (addAll s nx pv l).2.getD k 0 = pv.getD k 0
  | [], _, _, _ => rfl
  | c :: l, nx, pv, h => by
    rw [addAll, addAll_pv_same l _ _ (fun b hb => h b (by simp [hb]))]
    unfold add1
    dsimp only
    exact getD_set_ne' (fun e => h c.1 (by rw [e]; simp))
theorem addAll_pv_set {s k a : Nat} : ∀ (l : List (Nat × Nat)) (nx pv : List Int), k < pv.length → (a, k) ∈ l → (∀ a', (a', k) ∈ l → a' = a) → (addAll s nx pv l).2.getD k 0 = a
  | [], _, _, _, h, _ => by simp at h
  | c :: l, nx, pv, hk, hm, hu => by
    rw [addAll]
    have hl : (add1 s nx pv c).2.length = pv.length := by unfold add1; simp
    by_cases hin : ∃ b', (b', k) ∈ l
    · obtain ⟨b', hb'⟩ := hin
      have e := hu b' (by simp [hb'])
      subst e
      exact addAll_pv_set l _ _ (by rw [hl]; exact hk) hb' (fun b'' h => hu b'' (by simp [h]))
    · rw [addAll_pv_same l _ _ (fun b' hb' => hin ⟨b', hb'⟩)]
      rcases List.mem_cons.1 hm with hm | hm
      · subst hm
        unfold add1
        dsimp only
        exact getD_set_eq' hk
      · exact absurd ⟨a, hm⟩ hin
end Go.Proofs.YtblilfbhohnbgaaGreat
namespace Go.Proofs.YtblilfbhohnbgaaGreat
set_option linter.unusedVariables false
/-- The rows next and prev say f paths with relays. -/
structure FI (g : PG) (s t : Nat) (nx pv : List Int) (f : Nat) : Prop where
  ln : nx.length = g.n
  lp : pv.length = g.n
  rn : ∀ i, i < g.n → nx.getD i 0 = -1 ∨ ∃ j, j < g.n ∧ nx.getD i 0 = ((j : Nat) : Int)
  rp : ∀ i, i < g.n → pv.getD i 0 = -1 ∨ ∃ j, j < g.n ∧ pv.getD i 0 = ((j : Nat) : Int)
  ns : nx.getD s 0 = -1
  nt : nx.getD t 0 = -1
  ps : pv.getD s 0 = -1
  f1 : ∀ i j : Nat, i < g.n → nx.getD i 0 = (j : Int) → g.open i j s t = true ∧ (j ≠ t → pv.getD j 0 = (i : Int))
  f2 : ∀ i j : Nat, j < g.n → j ≠ t → pv.getD j 0 = (i : Int) → g.open i j s t = true ∧ (i ≠ s → nx.getD i 0 = (j : Int))
  f3 : ∀ k, k < g.n → k ≠ s → k ≠ t → (0 ≤ nx.getD k 0 ↔ 0 ≤ pv.getD k 0)
  f4 : ((List.range g.n).filter fun j => decide (j ≠ t) && decide (pv.getD j 0 = (s : Int))).length = f
theorem FI.val {g : PG} {s t : Nat} {nx pv : List Int} {f : Nat} (h : FI g s t nx pv f) (hn : 0 < g.n) : ∀ i, pv.getD i 0 < (g.n : Int) := fun i => by
  rcases Nat.lt_or_ge i g.n with hi | hi
  · rcases h.rp i hi with h1 | ⟨j, h1, h2⟩
    · omega
    · omega
  · rw [List.getD_eq_getElem?_getD, List.getElem?_eq_none (by rw [h.lp]; exact hi)]
    show (0 : Int) < g.n
    omega
theorem getD_rep (n i : Nat) (h : i < n) : (List.replicate n (-1 : Int)).getD i 0 = -1 := by
  rw [List.getD_eq_getElem?_getD, List.getElem?_replicate, if_pos h]; rfl
theorem FI.start (g : PG) (s t : Nat) (hs : s < g.n) (ht : t < g.n) : FI g s t (List.replicate g.n (-1)) (List.replicate g.n (-1)) 0 := by
  refine ⟨by simp, by simp, fun i hi => .inl (getD_rep _ _ hi), fun i hi => .inl (getD_rep _ _ hi), getD_rep _ _ hs, getD_rep _ _ ht, getD_rep _ _ hs, fun i j hi h => ?_, fun i j hj _ h => ?_, fun k hk _ _ => by rw [getD_rep _ _ hk], ?_⟩
  · rw [getD_rep _ _ hi] at h; omega
  · rw [getD_rep _ _ hj] at h; omega
  · rw [List.filter_eq_nil_iff.2]
    · rfl
    · intro j hj
      rw [List.mem_range] at hj
      rw [getD_rep _ _ hj]
      simp only [Bool.and_eq_true, decide_eq_true_eq, not_and]
      intro _ h; omega
theorem filter_one {P Q : Nat → Bool} {v : Nat} : ∀ {l : List Nat}, l.Nodup → v ∈ l → P v = false → Q v = true → (∀ j, j ≠ v → Q j = P j) → (l.filter Q).length = (l.filter P).length + 1
  | [], _, h, _, _, _ => by simp at h
  | a :: l, hn, hv, hp, hq, he => by
    rw [List.nodup_cons] at hn
    by_cases e : a = v
    · subst e
      rw [List.filter_cons_of_pos hq, List.filter_cons_of_neg (by rw [hp]; simp), List.length_cons]
      congr 1
      congr 1
      refine List.filter_congr fun j hj => he j (fun e => hn.1 (e ▸ hj))
    · have ih := filter_one hn.2 ((List.mem_cons.1 hv).resolve_left (fun h => e h.symm)) hp hq he
      rw [List.filter_cons, List.filter_cons, he a e]
      split
      · rw [List.length_cons, List.length_cons, ih]
      · exact ih
theorem idx_inj {L : List Pl} (hn : L.Nodup) {i j : Nat} {x : Pl} (hi : L[i]? = some x) (hj : L[j]? = some x) : i = j := by
  obtain ⟨h1, e1⟩ := List.getElem?_eq_some_iff.1 hi
  obtain ⟨h2, e2⟩ := List.getElem?_eq_some_iff.1 hj
  rcases Nat.lt_trichotomy i j with h | h | h
  · exact absurd (e1.trans e2.symm) ((List.pairwise_iff_getElem.1 hn) i j h1 h2 h)
  · exact h
  · exact absurd (e2.trans e1.symm) ((List.pairwise_iff_getElem.1 hn) j i h2 h1 h)
section
variable {g : PG} {s t : Nat} {nx pv : List Int} {f : Nat} {L : List Pl}
/-- All that is known of a way that was found. -/
structure WayOK (g : PG) (s t : Nat) (nx pv : List Int) (f : Nat) (L : List Pl) : Prop where
  fi : FI g s t nx pv f
  ch : Chn g s t nx pv L
  hd : ∃ x0, L[0]? = some x0 ∧ x0.1 = t
  hs : s < g.n
  ht : t < g.n
  hst : s ≠ t
theorem WayOK.nod (h : WayOK g s t nx pv f L) : L.Nodup := h.ch.nodup
theorem WayOK.val (h : WayOK g s t nx pv f L) : ∀ i, pv.getD i 0 < (g.n : Int) := h.fi.val (by have := h.hs; omega)
/-- A place of the way that is not its end has one behind it. -/
theorem WayOK.child (h : WayOK g s t nx pv f L) {i : Nat} {w : Pl} (hi : L[i]? = some w) (hw : w.1 ≠ t) : ∃ (j : Nat) (x : Pl), i = j + 1 ∧ L[j]? = some x ∧ StepR g s t nx pv w x := by
  cases i with
  | zero =>
    obtain ⟨x0, h1, h2⟩ := h.hd
    rw [h1] at hi
    injection hi with hi
    subst hi; exact absurd h2 hw
  | succ j =>
    have hl := (List.getElem?_eq_some_iff.1 hi).1
    exact ⟨j, L[j], rfl, List.getElem?_eq_getElem (by omega), h.ch.pair j _ w (List.getElem?_eq_getElem (by omega)) hi⟩
theorem WayOK.parent (h : WayOK g s t nx pv f L) {i : Nat} {x : Pl} (hi : L[i]? = some x) (hx : x.1 ≠ s) : ∃ w, L[i + 1]? = some w ∧ StepR g s t nx pv w x := by
  cases e : L[i + 1]? with
  | none => exact absurd (by rw [h.ch.last i x hi e]) hx
  | some w => exact ⟨w, rfl, h.ch.pair i x w hi e⟩
theorem WayOK.s_true (h : WayOK g s t nx pv f L) {i : Nat} {x : Pl} (hi : L[i]? = some x) (hx : x.1 = s) : x = (s, true) ∧ L[i + 1]? = none := by
  cases e : L[i + 1]? with
  | none => exact ⟨h.ch.last i x hi e, rfl⟩
  | some w => exact absurd hx (h.ch.pair i x w hi e).ne
abbrev Ad (L : List Pl) (a b : Nat) : Prop := (a, b) ∈ addsL L
abbrev Cu (L : List Pl) (a b : Nat) : Prop := (a, b) ∈ cutsL L
theorem WayOK.cut (h : WayOK g s t nx pv f L) {a b : Nat} (hc : Cu L a b) : pv.getD b 0 = (a : Int) ∧ a ≠ s ∧ b ≠ s ∧ b ≠ t ∧ b < g.n ∧ nx.getD a 0 = (b : Int) ∧ ∃ i w, L[i]? = some (a, true) ∧ L[i + 1]? = some w ∧ w.1 = b := by
  obtain ⟨i, w, h1, h2, rfl⟩ := mem_cutsL.1 hc
  have h3 := h.ch.pair i _ w h1 h2
  rcases h3.2 with ⟨k, _⟩ | ⟨_, k2, k3⟩
  · cases k
  · obtain ⟨q1, q2, q3⟩ := backB_true k2
    have hb : w.1 < g.n := by
      by_cases e : w.1 = s
      · exact absurd e q1
      · obtain ⟨w2, k4, k5⟩ := h.parent h2 e
        exact k5.lt h.val
    have e1 : pv.getD w.1 0 = (a : Int) := by
      simp only at k3
      rw [k3]; omega
    have ha : a ≠ s := h3.ne
    exact ⟨e1, ha, q1, h3.1, hb, (h.fi.f2 a w.1 hb h3.1 e1).2 ha, i, w, h1, h2, rfl⟩
theorem WayOK.add (h : WayOK g s t nx pv f L) {a b : Nat} (hc : Ad L a b) : g.open a b s t = true ∧ nx.getD a 0 ≠ (b : Int) ∧ ¬(a = s ∧ b = t) ∧ b < g.n ∧ a ≠ t ∧ b ≠ s ∧ a < g.n ∧
    ∃ i w, L[i]? = some (b, false) ∧ L[i + 1]? = some w ∧ w.1 = a ∧ (w.2 = true ∨ freeN s nx pv a = true) := by
  obtain ⟨i, w, h1, h2, rfl⟩ := mem_addsL.1 hc
  have h3 := h.ch.pair i _ w h1 h2
  rcases h3.2 with ⟨_, k1, k2, k3⟩ | ⟨k, _⟩
  · obtain ⟨q1, q2, q3⟩ := skipK_false k3
    have hw : w.1 < g.n := by
      by_cases e : w.1 = s
      · rw [e]; exact h.hs
      · obtain ⟨w2, k4, k5⟩ := h.parent h2 e
        exact k5.lt h.val
    exact ⟨q2, q3, q1, k1, h3.1, h3.ne, hw, i, w, h1, h2, rfl, k2⟩
  · cases k
theorem WayOK.add_in (h : WayOK g s t nx pv f L) {a a' b : Nat} (h1 : Ad L a b) (h2 : Ad L a' b) : a = a' := by
  obtain ⟨_, _, _, _, _, _, _, i, w, k1, k2, k3, _⟩ := h.add h1
  obtain ⟨_, _, _, _, _, _, _, j, w', q1, q2, q3, _⟩ := h.add h2
  have := idx_inj h.nod k1 q1
  subst this
  rw [k2] at q2
  injection q2 with q2
  rw [← k3, ← q3, q2]
/-- A place from which one goes back is on a path. -/
theorem WayOK.back_on (h : WayOK g s t nx pv f L) {i a : Nat} (hi : L[i]? = some (a, true)) (ha : a ≠ s) : ∃ b, Cu L a b := by
  obtain ⟨w, h1, h2⟩ := h.parent hi ha
  exact ⟨w.1, mem_cutsL.2 ⟨i, w, hi, h1, rfl⟩⟩
theorem WayOK.cut_free (h : WayOK g s t nx pv f L) {a b : Nat} (hc : Cu L a b) : freeN s nx pv a = false := by
  cases e : freeN s nx pv a with
  | false => rfl
  | true =>
    have h1 := (freeN_true e).2.1
    have h2 := (h.cut hc).2.2.2.2.2.1
    omega
theorem WayOK.add_out (h : WayOK g s t nx pv f L) {a b b' : Nat} (h1 : Ad L a b) (h2 : Ad L a b') : b = b' := by
  obtain ⟨_, _, _, _, _, _, _, i, ⟨wa, wb⟩, k1, k2, k3, k4⟩ := h.add h1
  obtain ⟨_, _, _, _, _, _, _, j, ⟨wa', wb'⟩, q1, q2, q3, q4⟩ := h.add h2
  simp only at k3 q3
  subst k3; subst q3
  have key : wb = wb' := by
    by_cases e : wa' = s
    · have e1 := (h.s_true k2 e).1
      have e2 := (h.s_true q2 e).1
      rw [← e2] at e1
      injection e1
    · cases wb <;> cases wb'
      · rfl
      · obtain ⟨b2, h3⟩ := h.back_on q2 e
        have h4 := h.cut_free h3
        rcases k4 with k4 | k4
        · cases k4
        · rw [h4] at k4; cases k4
      · obtain ⟨b2, h3⟩ := h.back_on k2 e
        have h4 := h.cut_free h3
        rcases q4 with k4 | k4
        · cases k4
        · rw [h4] at k4; cases k4
      · rfl
  subst key
  have := idx_inj h.nod k2 q2
  have hij : i = j := by omega
  subst hij
  rw [k1] at q1
  injection q1 with q1
  injection q1
/-- Where a relay on a path was come to from its front, the old way to it is cut. -/
theorem WayOK.in_cut (h : WayOK g s t nx pv f L) {a j : Nat} (h1 : Ad L a j) (hj : j ≠ t) (hp : 0 ≤ pv.getD j 0) : pv.getD j 0 ≠ (s : Int) ∧ Cu L (pv.getD j 0).toNat j := by
  obtain ⟨_, _, _, _, _, hjs, _, i, w, k1, k2, k3, _⟩ := h.add h1
  obtain ⟨i', y, rfl, h2, h3⟩ := h.child k1 hj
  rcases h3.2 with ⟨_, _, q, _⟩ | ⟨q1, q2, q3⟩
  · rcases q with q | q
    · cases q
    · have := (freeN_true q).2.2
      simp only at this; omega
  · obtain ⟨ya, yb⟩ := y
    simp only at q1 q2 q3
    subst q1
    refine ⟨(backB_true q2).2.2, mem_cutsL.2 ⟨i', (j, false), ?_, k1, rfl⟩⟩
    rw [h2, q3]
theorem WayOK.out_cut (h : WayOK g s t nx pv f L) {i b : Nat} (h1 : Ad L i b) (his : i ≠ s) (hn : 0 ≤ nx.getD i 0) : ∃ j, Cu L i j := by
  obtain ⟨_, _, _, _, _, _, _, k, ⟨wa, wb⟩, k1, k2, k3, k4⟩ := h.add h1
  simp only at k3 k4
  subst k3
  cases wb with
  | true => exact h.back_on k2 his
  | false =>
    rcases k4 with k4 | k4
    · cases k4
    · have := (freeN_true k4).2.1
      omega
/-- The first step of the way. -/
theorem WayOK.first (h : WayOK g s t nx pv f L) : ∃ v, Ad L s v ∧ v < g.n ∧ v ≠ t ∧ pv.getD v 0 ≠ (s : Int) := by
  obtain ⟨i, hi⟩ := List.getElem?_of_mem h.ch.mem_s
  obtain ⟨j, x, rfl, h1, h2⟩ := h.child hi h.hst
  obtain ⟨v, b⟩ := x
  rcases h2.2 with ⟨q1, _, _, q4⟩ | ⟨_, q2, _⟩
  · simp only at q1
    subst q1
    have ha : Ad L s v := mem_addsL.2 ⟨j, _, h1, hi, rfl⟩
    obtain ⟨_, _, k1, k2, _⟩ := h.add ha
    have hvt : v ≠ t := fun e => k1 ⟨rfl, e⟩
    refine ⟨v, ha, k2, hvt, fun e => ?_⟩
    exact (h.in_cut ha hvt (by omega)).1 e
  · exact absurd rfl (backB_true q2).1
/-- What the new rows hold. -/
structure NewR (L : List Pl) (s n : Nat) (nx pv nx' pv' : List Int) : Prop where
  ln : nx'.length = nx.length
  lp : pv'.length = pv.length
  n1 : ∀ k b, k < n → k ≠ s → Ad L k b → nx'.getD k 0 = (b : Int)
  n2 : ∀ k b, k < n → k ≠ s → (∀ b, ¬Ad L k b) → Cu L k b → nx'.getD k 0 = -1
  n3 : ∀ k, k < n → (k = s ∨ ∀ b, ¬Ad L k b) → (∀ b, ¬Cu L k b) → nx'.getD k 0 = nx.getD k 0
  p1 : ∀ k a, k < n → Ad L a k → pv'.getD k 0 = (a : Int)
  p2 : ∀ k a, k < n → (∀ a, ¬Ad L a k) → Cu L a k → pv'.getD k 0 = -1
  p3 : ∀ k, k < n → (∀ a, ¬Ad L a k) → (∀ a, ¬Cu L a k) → pv'.getD k 0 = pv.getD k 0
theorem WayOK.new (h : WayOK g s t nx pv f L) : NewR L s g.n nx pv (addAll s (cutAll nx pv (cutsL L)).1 (cutAll nx pv (cutsL L)).2 (addsL L)).1 (addAll s (cutAll nx pv (cutsL L)).1 (cutAll nx pv (cutsL L)).2 (addsL L)).2 := by
  obtain ⟨hl1, hl2⟩ := cutAll_len (cutsL L) nx pv
  obtain ⟨hl3, hl4⟩ := addAll_len s (addsL L) (cutAll nx pv (cutsL L)).1 (cutAll nx pv (cutsL L)).2
  refine ⟨hl3.trans hl1, hl4.trans hl2, ?_, ?_, ?_, ?_, ?_, ?_⟩
  · intro k b hk hks ha
    exact addAll_nx_set hks _ _ _ (by rw [hl1, h.fi.ln]; exact hk) ha (fun b' hb' => h.add_out hb' ha)
  · intro k b hk hks hna hc
    rw [addAll_nx_same _ _ _ (fun b hb => absurd hb (hna b))]
    rcases cutAll_nx (k := k) (cutsL L) nx pv (by rw [h.fi.ln]; exact hk) with ⟨_, h2⟩ | ⟨h1, _⟩
    · exact h2
    · exact absurd (h.cut hc).2.2.2.2.2.1 (h1 b hc)
  · intro k hk hna hnc
    rw [addAll_nx_same _ _ _ (fun b hb => hna.resolve_right (fun h => h b hb))]
    rcases cutAll_nx (k := k) (cutsL L) nx pv (by rw [h.fi.ln]; exact hk) with ⟨⟨b, h1, _⟩, _⟩ | ⟨_, h2⟩
    · exact absurd h1 (hnc b)
    · exact h2
  · intro k a hk ha
    exact addAll_pv_set _ _ _ (by rw [hl2, h.fi.lp]; exact hk) ha (fun a' ha' => h.add_in ha' ha)
  · intro k a hk hna hc
    rw [addAll_pv_same _ _ _ hna]
    rcases cutAll_pv (k := k) (cutsL L) nx pv (by rw [h.fi.lp]; exact hk) with ⟨_, h2⟩ | ⟨h1, _⟩
    · exact h2
    · exact absurd (h.cut hc).1 (h1 a hc)
  · intro k hk hna hnc
    rw [addAll_pv_same _ _ _ hna]
    rcases cutAll_pv (k := k) (cutsL L) nx pv (by rw [h.fi.lp]; exact hk) with ⟨⟨b, h1, _⟩, _⟩ | ⟨_, h2⟩
    · exact absurd h1 (hnc b)
    · exact h2
theorem Cu.dec (L : List Pl) (a : Nat) : (∃ b, Cu L a b) ∨ ∀ b, ¬Cu L a b := by
  by_cases h : ∃ b, Cu L a b
  · exact .inl h
  · exact .inr fun b hb => h ⟨b, hb⟩
theorem Cu.dec' (L : List Pl) (b : Nat) : (∃ a, Cu L a b) ∨ ∀ a, ¬Cu L a b := by
  by_cases h : ∃ a, Cu L a b
  · exact .inl h
  · exact .inr fun b hb => h ⟨b, hb⟩
theorem Ad.dec (L : List Pl) (a : Nat) : (∃ b, Ad L a b) ∨ ∀ b, ¬Ad L a b := by
  by_cases h : ∃ b, Ad L a b
  · exact .inl h
  · exact .inr fun b hb => h ⟨b, hb⟩
theorem Ad.dec' (L : List Pl) (b : Nat) : (∃ a, Ad L a b) ∨ ∀ a, ¬Ad L a b := by
  by_cases h : ∃ a, Ad L a b
  · exact .inl h
  · exact .inr fun b hb => h ⟨b, hb⟩
/-- One more path. -/
theorem WayOK.next (h : WayOK g s t nx pv f L) {nx' pv' : List Int} (N : NewR L s g.n nx pv nx' pv') : FI g s t nx' pv' (f + 1) := by
  have F := h.fi
  -- the new value of next, in cases
  have cn : ∀ k, k < g.n → k ≠ s → (∃ b, Ad L k b ∧ nx'.getD k 0 = (b : Int)) ∨ ((∀ b, ¬Ad L k b) ∧ ((∃ b, Cu L k b ∧ nx'.getD k 0 = -1) ∨ ((∀ b, ¬Cu L k b) ∧ nx'.getD k 0 = nx.getD k 0))) := fun k hk hks => by
    rcases Ad.dec L k with ⟨b, hb⟩ | hb
    · exact .inl ⟨b, hb, N.n1 k b hk hks hb⟩
    · rcases Cu.dec L k with ⟨c, hc⟩ | hc
      · exact .inr ⟨hb, .inl ⟨c, hc, N.n2 k c hk hks hb hc⟩⟩
      · exact .inr ⟨hb, .inr ⟨hc, N.n3 k hk (.inr hb) hc⟩⟩
  have cp : ∀ k, k < g.n → (∃ a, Ad L a k ∧ pv'.getD k 0 = (a : Int)) ∨ ((∀ a, ¬Ad L a k) ∧ ((∃ a, Cu L a k ∧ pv'.getD k 0 = -1) ∨ ((∀ a, ¬Cu L a k) ∧ pv'.getD k 0 = pv.getD k 0))) := fun k hk => by
    rcases Ad.dec' L k with ⟨b, hb⟩ | hb
    · exact .inl ⟨b, hb, N.p1 k b hk hb⟩
    · rcases Cu.dec' L k with ⟨c, hc⟩ | hc
      · exact .inr ⟨hb, .inl ⟨c, hc, N.p2 k c hk hb hc⟩⟩
      · exact .inr ⟨hb, .inr ⟨hc, N.p3 k hk hb hc⟩⟩
  have hns : nx'.getD s 0 = -1 := by rw [N.n3 s h.hs (.inl rfl) (fun b hb => (h.cut hb).2.1 rfl)]; exact F.ns
  refine ⟨N.ln.trans F.ln, N.lp.trans F.lp, ?_, ?_, hns, ?_, ?_, ?_, ?_, ?_, ?_⟩
  · intro i hi
    by_cases his : i = s
    · subst his; exact .inl hns
    · rcases cn i hi his with ⟨b, hb, e⟩ | ⟨_, ⟨b, hb, e⟩ | ⟨_, e⟩⟩
      · exact .inr ⟨b, (h.add hb).2.2.2.1, e⟩
      · exact .inl e
      · rw [e]; exact F.rn i hi
  · intro i hi
    rcases cp i hi with ⟨b, hb, e⟩ | ⟨_, ⟨b, hb, e⟩ | ⟨_, e⟩⟩
    · exact .inr ⟨b, (h.add hb).2.2.2.2.2.2.1, e⟩
    · exact .inl e
    · rw [e]; exact F.rp i hi
  · rcases cn t h.ht (fun e => h.hst e.symm) with ⟨b, hb, e⟩ | ⟨_, ⟨b, hb, e⟩ | ⟨_, e⟩⟩
    · exact absurd rfl (h.add hb).2.2.2.2.1
    · exact e
    · rw [e]; exact F.nt
  · rcases cp s h.hs with ⟨b, hb, e⟩ | ⟨_, ⟨b, hb, e⟩ | ⟨_, e⟩⟩
    · exact absurd rfl (h.add hb).2.2.2.2.2.1
    · exact e
    · rw [e]; exact F.ps
  · -- F1
    intro i j hi hij
    have his : i ≠ s := fun e => by subst e; rw [hns] at hij; omega
    rcases cn i hi his with ⟨b, hb, e⟩ | ⟨hna, ⟨b, hb, e⟩ | ⟨hnc, e⟩⟩
    · obtain rfl : b = j := by omega
      obtain ⟨q1, _, _, q2, _⟩ := h.add hb
      exact ⟨q1, fun _ => N.p1 _ _ q2 hb⟩
    · omega
    · rw [e] at hij
      obtain ⟨q1, q2⟩ := F.f1 i j hi hij
      refine ⟨q1, fun hjt => ?_⟩
      have hjn : j < g.n := by
        rcases F.rn i hi with h1 | ⟨j', h1, h2⟩
        · omega
        · omega
      have hpj := q2 hjt
      rcases cp j hjn with ⟨a, ha, e2⟩ | ⟨_, ⟨a, ha, e2⟩ | ⟨_, e2⟩⟩
      · have h3 := (h.in_cut ha hjt (by omega)).2
        rw [hpj, Int.toNat_natCast] at h3
        exact absurd h3 (hnc j)
      · have h3 := (h.cut ha).1
        obtain rfl : a = i := by omega
        exact absurd ha (hnc j)
      · rw [e2]; exact hpj
  · -- F2
    intro i j hj hjt hij
    rcases cp j hj with ⟨a, ha, e⟩ | ⟨hna, ⟨a, ha, e⟩ | ⟨hnc, e⟩⟩
    · obtain rfl : a = i := by omega
      obtain ⟨q1, _, _, _, _, _, q2, _⟩ := h.add ha
      exact ⟨q1, fun his => N.n1 _ _ q2 his ha⟩
    · omega
    · rw [e] at hij
      obtain ⟨q1, q2⟩ := F.f2 i j hj hjt hij
      refine ⟨q1, fun his => ?_⟩
      have hn := q2 his
      have hin : i < g.n := by
        rcases F.rp j hj with h1 | ⟨j', h1, h2⟩
        · omega
        · omega
      rcases cn i hin his with ⟨b, hb, e2⟩ | ⟨_, ⟨b, hb, e2⟩ | ⟨_, e2⟩⟩
      · obtain ⟨j', hj'⟩ := h.out_cut hb his (by omega)
        have h3 := (h.cut hj').2.2.2.2.2.1
        obtain rfl : j' = j := by omega
        exact absurd hj' (hnc i)
      · have h3 := (h.cut hb).2.2.2.2.2.1
        obtain rfl : b = j := by omega
        exact absurd hb (hnc i)
      · rw [e2]; exact hn
  · -- F3
    intro k hk hks hkt
    constructor
    · intro h0
      -- a step goes out of k: one goes in
      have hin : (∃ i : Nat, L[i]? = some (k, false)) → 0 ≤ pv'.getD k 0 := fun ⟨i, hi⟩ => by
        obtain ⟨w, h1, h2⟩ := h.parent hi hks
        have := N.p1 k w.1 hk (mem_addsL.2 ⟨i, w, hi, h1, rfl⟩)
        omega
      have hcut : ∀ a, Cu L a k → (∃ (i b : Nat), L[i]? = some (k, true) ∧ ∃ j : Nat, L[j]? = some (b, false) ∧ L[j + 1]? = some (k, true)) → 0 ≤ pv'.getD k 0 := fun a ha ⟨i, b, hi, j, hj, hj2⟩ => by
        obtain ⟨_, _, _, _, _, _, i2, ⟨wa, wb⟩, k1, k2, k3⟩ := h.cut ha
        simp only at k3
        subst k3
        cases wb with
        | false => exact hin ⟨_, k2⟩
        | true =>
          have e1 := idx_inj h.nod k2 hj2
          obtain rfl : i2 = j := by omega
          rw [k1] at hj
          injection hj with hj
          injection hj with _ hj
          cases hj
      rcases cn k hk hks with ⟨b, hb, e⟩ | ⟨hna, ⟨b, hb, e⟩ | ⟨hnc, e⟩⟩
      · obtain ⟨_, _, _, _, _, _, _, i, ⟨wa, wb⟩, k1, k2, k3, k4⟩ := h.add hb
        simp only at k3
        subst k3
        cases wb with
        | false => exact hin ⟨_, k2⟩
        | true =>
          obtain ⟨y, hy⟩ := h.back_on k2 hks
          have h1 := (h.cut hy).2.2.2.2.2.1
          have h2 := (F.f3 wa hk hks hkt).1 (by omega)
          rcases cp wa hk with ⟨a, ha, e2⟩ | ⟨_, ⟨a, ha, e2⟩ | ⟨_, e2⟩⟩
          · omega
          · exact hcut a ha ⟨_, b, k2, i, k1, k2⟩
          · omega
      · omega
      · have h2 := (F.f3 k hk hks hkt).1 (by omega)
        rcases cp k hk with ⟨a, ha, e2⟩ | ⟨hna2, ⟨a, ha, e2⟩ | ⟨_, e2⟩⟩
        · omega
        · obtain ⟨_, _, _, _, _, _, i2, ⟨wa, wb⟩, k1, k2, k3⟩ := h.cut ha
          simp only at k3
          subst k3
          cases wb with
          | false => exact hin ⟨_, k2⟩
          | true =>
            obtain ⟨y, hy⟩ := h.back_on k2 hks
            exact absurd hy (hnc y)
        · omega
    · intro h0
      have hout : ∀ i : Nat, L[i]? = some (k, true) → (∃ (j b : Nat), L[j]? = some (b, false) ∧ L[j + 1]? = some (k, true)) ∨ (∃ (j a : Nat), L[j]? = some (a, true) ∧ i = j + 1 ∧ pv.getD k 0 = ((a : Nat) : Int)) := fun i hi => by
        obtain ⟨j, ⟨ya, yb⟩, rfl, h1, h2⟩ := h.child hi hkt
        rcases h2.2 with ⟨q1, _⟩ | ⟨q1, q2, q3⟩
        · simp only at q1; subst q1
          exact .inl ⟨j, ya, h1, hi⟩
        · simp only at q1 q2 q3; subst q1
          have := (backB_true q2).2.1
          exact .inr ⟨j, ya, h1, rfl, by omega⟩
      rcases cp k hk with ⟨a, ha, e⟩ | ⟨hna, ⟨a, ha, e⟩ | ⟨hnc, e⟩⟩
      · obtain ⟨_, _, _, _, _, _, _, i, w, k1, k2, k3, k4⟩ := h.add ha
        obtain ⟨j, ⟨ya, yb⟩, rfl, h1, h2⟩ := h.child k1 hkt
        rcases h2.2 with ⟨q1, _⟩ | ⟨q1, q2, q3⟩
        · simp only at q1; subst q1
          have hadd : Ad L k ya := mem_addsL.2 ⟨j, _, h1, k1, rfl⟩
          have := N.n1 k ya hk hks hadd
          omega
        · simp only at q1 q2 q3; subst q1
          have hp0 := (backB_true q2).2.1
          have hn0 := (F.f3 k hk hks hkt).2 hp0
          rcases cn k hk hks with ⟨b, hb, e2⟩ | ⟨hna2, ⟨b, hb, e2⟩ | ⟨_, e2⟩⟩
          · omega
          · obtain ⟨_, _, _, _, _, _, i2, w2, m1, m2, m3⟩ := h.cut hb
            rcases hout i2 m1 with ⟨j3, b3, m4, m5⟩ | ⟨j3, a3, m4, m5, m6⟩
            · exact absurd (mem_addsL.2 ⟨j3, _, m4, m5, rfl⟩) (hna2 b3)
            · have ea : a3 = ya := by omega
              subst ea
              have e3 := idx_inj h.nod m4 h1
              subst e3
              subst m5
              rw [m1] at k1
              injection k1 with k1
              injection k1 with _ k1
              cases k1
          · omega
      · omega
      · have hn0 := (F.f3 k hk hks hkt).2 (by omega)
        rcases cn k hk hks with ⟨b, hb, e2⟩ | ⟨hna2, ⟨b, hb, e2⟩ | ⟨_, e2⟩⟩
        · omega
        · obtain ⟨_, _, _, _, _, _, i2, w2, m1, m2, m3⟩ := h.cut hb
          rcases hout i2 m1 with ⟨j3, b3, m4, m5⟩ | ⟨j3, a3, m4, m5, m6⟩
          · exact absurd (mem_addsL.2 ⟨j3, _, m4, m5, rfl⟩) (hna2 b3)
          · subst m5
            exact absurd (mem_cutsL.2 ⟨j3, _, m4, m1, rfl⟩) (hnc a3)
        · omega
  · -- F4
    obtain ⟨v, hv, hvn, hvt, hvs⟩ := h.first
    have hst : ∀ j, j < g.n → j ≠ t → (pv'.getD j 0 = (s : Int) ↔ j = v ∨ pv.getD j 0 = (s : Int)) := fun j hj hjt => by
      rcases cp j hj with ⟨a, ha, e⟩ | ⟨hna, ⟨a, ha, e⟩ | ⟨hnc, e⟩⟩
      · constructor
        · intro h1
          obtain rfl : a = s := by omega
          exact .inl (h.add_out ha hv)
        · rintro (rfl | h1)
          · rw [e, h.add_in ha hv]
          · exact absurd h1 (h.in_cut ha hjt (by omega)).1
      · constructor
        · intro h1; omega
        · rintro (rfl | h1)
          · exact absurd hv (hna s)
          · have h2 := (h.cut ha).1
            have h3 := (h.cut ha).2.1
            omega
      · constructor
        · intro h1; exact .inr (by omega)
        · rintro (rfl | h1)
          · exact absurd hv (hna s)
          · omega
    rw [← F.f4]
    have e2 : ((List.range g.n).filter fun j => decide (j ≠ t) && decide (pv'.getD j 0 = (s : Int))) = ((List.range g.n).filter fun j => (decide (j ≠ t) && decide (pv.getD j 0 = (s : Int))) || j == v) := by
      refine List.filter_congr fun j hj => ?_
      rw [List.mem_range] at hj
      rw [Bool.eq_iff_iff]
      simp only [Bool.and_eq_true, Bool.or_eq_true, decide_eq_true_eq, beq_iff_eq]
      constructor
      · rintro ⟨h1, h2⟩
        rcases (hst j hj h1).1 h2 with h3 | h3
        · exact .inr h3
        · exact .inl ⟨h1, h3⟩
      · rintro (⟨h1, h2⟩ | h1)
        · exact ⟨h1, (hst j hj h1).2 (.inr h2)⟩
        · subst h1
          exact ⟨hvt, (hst j hj hvt).2 (.inl rfl)⟩
    rw [e2]
    refine filter_one List.nodup_range (List.mem_range.2 hvn) ?_ ?_ ?_
    · rw [Bool.and_eq_false_imp, decide_eq_false_iff_not]
      exact fun _ => hvs
    · simp
    · intro j hj
      have : (j == v) = false := by simpa using hj
      rw [this, Bool.or_false]
end
theorem augment_FI {g : PG} {s t : Nat} {nx pv : List Int} {f : Nat} (h : FI g s t nx pv f) (hs : s < g.n) (ht : t < g.n) (hst : s ≠ t) {r : List Int × List Int} (hr : augment g s t nx pv = some r) : FI g s t r.1 r.2 (f + 1) := by
  have hb := @bfs_start g s t nx pv (h.val (by omega))
  unfold augment at hr
  cases e : bfs g s t nx pv (fuelB g.n) ⟨[(s, true)], []⟩ with
  | none => rw [e] at hr; cases hr
  | some x =>
    rw [e] at hr hb
    simp only [Option.map_some, Option.some.injEq] at hr
    obtain ⟨q, b, h1, h2, h3⟩ := hb
    obtain ⟨l, h4, h5⟩ := chain_seen h1 h2 (by rw [h3]; exact fun e => hst e.symm)
    have hw : WayOK g s t nx pv f (x.1 :: l) := ⟨h, h4, ⟨x.1, rfl, h3⟩, hs, ht, hst⟩
    have := hw.next hw.new
    rw [← hr]
    unfold applyW
    rw [h5]
    exact this
end Go.Proofs.YtblilfbhohnbgaaGreat
namespace Go.Proofs.YtblilfbhohnbgaaGreat
set_option linter.unusedVariables false
/-- The relays of a path. -/
def relays (p : List Nat) : List Nat := (p.drop 1).take (p.length - 2)
theorem filter_split {α : Type} (P Q : α → Bool) : ∀ l : List α, (l.filter P).length = (l.filter fun x => P x && Q x).length + (l.filter fun x => P x && !Q x).length
  | [] => rfl
  | a :: l => by
    have ih := filter_split P Q l
    rw [List.filter_cons, List.filter_cons, List.filter_cons]
    cases P a <;> cases Q a <;> simp <;> omega
section
variable {g : PG} {s t : Nat} {nx pv : List Int} {f : Nat}
/-- Where no more path is found, so many relays cut all ways with relays. -/
theorem cut_of_none (h : FI g s t nx pv f) (hs : s < g.n) (ht : t < g.n) (hst : s ≠ t) (hr : augment g s t nx pv = none) :
    ∃ C : List Nat, C.Nodup ∧ C.length ≤ f ∧ (∀ c ∈ C, c < g.n ∧ c ≠ s ∧ c ≠ t) ∧ ∀ p : List Nat, 3 ≤ p.length → p.getD 0 0 = s → lastN p = t → (∀ x ∈ p, x < g.n) → ChainF g s t p 0 → ∃ c ∈ C, ∃ i, 1 ≤ i ∧ i + 1 < p.length ∧ p.getD i 0 = c := by
  have hb := @bfs_start g s t nx pv (h.val (by omega))
  unfold augment at hr
  cases e : bfs g s t nx pv (fuelB g.n) ⟨[(s, true)], []⟩ with
  | some x => rw [e] at hr; cases hr
  | none =>
    rw [e] at hb
    obtain ⟨S, hB, hq⟩ := hb
    have clo : ∀ x, S.seen s x = true → x.1 ≠ t ∧ ∀ y, StepR g s t nx pv x y → S.seen s y = true := fun x hx =>
      (hB (x.1 + 1, true)).clo x hx (by rw [hq]; simp) (fun e => by have := congrArg Prod.fst e; simp at this)
    have par : ∀ x, S.seen s x = true → x ≠ (s, true) → ∃ z, S.seen s z = true ∧ StepR g s t nx pv z x := fun x hx hne => by
      rcases seen_iff.1 hx with rfl | ⟨i, c, hc, rfl⟩
      · exact absurd rfl hne
      · obtain ⟨h1, h2⟩ := (hB (0, true)).par i c hc
        refine ⟨c.2, ?_, h1⟩
        rcases h2 with h2 | ⟨j, c', _, hc', he⟩
        · exact seen_iff.2 (.inl h2)
        · exact seen_iff.2 (.inr ⟨j, c', hc', he⟩)
    have hss : S.seen s (s, true) = true := seen_iff.2 (.inl rfl)
    -- relays that were come to, on a path
    obtain ⟨R, hR⟩ : ∃ R : Nat → Bool, R = fun k => decide (k ≠ s) && decide (k ≠ t) && decide (0 ≤ pv.getD k 0) && (S.seen s (k, false) || S.seen s (k, true)) := ⟨_, rfl⟩
    have Rd : ∀ k, R k = true ↔ k ≠ s ∧ k ≠ t ∧ 0 ≤ pv.getD k 0 ∧ (S.seen s (k, false) = true ∨ S.seen s (k, true) = true) := fun k => by
      rw [hR]; simp only [Bool.and_eq_true, decide_eq_true_eq, Bool.or_eq_true, and_assoc]
    have hback : ∀ k, k < g.n → R k = true → pv.getD k 0 ≠ (s : Int) → S.seen s ((pv.getD k 0).toNat, true) = true := fun k hk hRk hne => by
      obtain ⟨h1, h2, h3, h4⟩ := (Rd k).1 hRk
      have hbk := backB_mk h1 h3 hne
      rcases h4 with h4 | h4
      · exact (clo _ h4).2 _ ⟨h2, .inr ⟨rfl, hbk, rfl⟩⟩
      · exact (clo _ h4).2 _ ⟨h2, .inr ⟨rfl, hbk, rfl⟩⟩
    refine ⟨(List.range g.n).filter fun k => R k && !S.seen s (k, true), List.nodup_range.sublist List.filter_sublist, ?_, ?_, ?_⟩
    · have e1 := filter_split R (fun k => S.seen s (k, true)) (List.range g.n)
      have e2 := filter_split R (fun k => decide (pv.getD k 0 = (s : Int))) (List.range g.n)
      have e3 : ((List.range g.n).filter fun k => R k && decide (pv.getD k 0 = (s : Int))).length ≤ f := by
        rw [← h.f4]
        refine nodup_sub_len (List.nodup_range.sublist List.filter_sublist) fun k hk => ?_
        rw [List.mem_filter] at hk ⊢
        obtain ⟨hk1, hk2⟩ := hk
        rw [Bool.and_eq_true] at hk2
        refine ⟨hk1, ?_⟩
        rw [Bool.and_eq_true]
        exact ⟨by simpa using ((Rd k).1 hk2.1).2.1, hk2.2⟩
      have e4 : ((List.range g.n).filter fun k => R k && !decide (pv.getD k 0 = (s : Int))).length ≤ ((List.range g.n).filter fun k => R k && S.seen s (k, true)).length := by
        have hmem : ∀ k, k ∈ ((List.range g.n).filter fun k => R k && !decide (pv.getD k 0 = (s : Int))) → k < g.n ∧ R k = true ∧ pv.getD k 0 ≠ (s : Int) := fun k hk => by
          rw [List.mem_filter, List.mem_range, Bool.and_eq_true, Bool.not_eq_true', decide_eq_false_iff_not] at hk
          exact ⟨hk.1, hk.2.1, hk.2.2⟩
        rw [← List.length_map (f := fun k => (pv.getD k 0).toNat)]
        refine nodup_sub_len ?_ ?_
        · rw [List.Nodup, List.pairwise_map]
          refine List.Pairwise.imp_of_mem ?_ (List.nodup_range.sublist List.filter_sublist)
          intro a b ha hb hne
          obtain ⟨a1, a2, a3⟩ := hmem a ha
          obtain ⟨b1, b2, b3⟩ := hmem b hb
          obtain ⟨_, a4, a5, _⟩ := (Rd a).1 a2
          obtain ⟨_, b4, b5, _⟩ := (Rd b).1 b2
          intro e
          have h1 := (h.f2 (pv.getD a 0).toNat a a1 a4 (by omega)).2 (by omega)
          have h2 := (h.f2 (pv.getD b 0).toNat b b1 b4 (by omega)).2 (by omega)
          rw [e] at h1
          exact hne (by omega)
        · intro x hx
          obtain ⟨k, hk, rfl⟩ := List.mem_map.1 hx
          obtain ⟨k1, k2, k3⟩ := hmem k hk
          obtain ⟨k0, k4, k5, _⟩ := (Rd k).1 k2
          have h1 := hback k k1 k2 k3
          obtain ⟨h2, h3⟩ := h.f2 (pv.getD k 0).toNat k k1 k4 (by omega)
          have h4 := h3 (by omega)
          have hlt : (pv.getD k 0).toNat < g.n := by have := h.val (by omega) k; omega
          have hxt := (clo _ h1).1
          simp only at hxt
          rw [List.mem_filter, List.mem_range, Bool.and_eq_true]
          refine ⟨hlt, (Rd _).2 ⟨by omega, hxt, (h.f3 _ hlt (by omega) hxt).1 (by omega), .inr h1⟩, h1⟩
      omega
    · intro c hc
      rw [List.mem_filter, List.mem_range, Bool.and_eq_true] at hc
      obtain ⟨h1, h2, _⟩ := (Rd c).1 hc.2.1
      exact ⟨hc.1, h1, h2⟩
    · intro p hp3 hp0 hpl hplt hch
      by_cases hex : ∃ c ∈ ((List.range g.n).filter fun k => R k && !S.seen s (k, true)), ∃ i, 1 ≤ i ∧ i + 1 < p.length ∧ p.getD i 0 = c
      · exact hex
      · exfalso
        have hget : ∀ i, i < p.length → p.getD i 0 < g.n := fun i hi => by
          rw [List.getD_eq_getElem?_getD, List.getElem?_eq_getElem hi]
          exact hplt _ (List.getElem_mem hi)
        -- a place that may be left
        have Lv : ∀ i, i + 1 < p.length → S.seen s (p.getD i 0, true) = true ∨ (S.seen s (p.getD i 0, false) = true ∧ freeN s nx pv (p.getD i 0) = true) := by
          have stp : ∀ i, i + 1 < p.length → (S.seen s (p.getD i 0, true) = true ∨ (S.seen s (p.getD i 0, false) = true ∧ freeN s nx pv (p.getD i 0) = true)) → p.getD (i + 1) 0 ≠ t ∧ (S.seen s (p.getD (i + 1) 0, false) = true ∨ S.seen s (p.getD (i + 1) 0, true) = true) := by
            intro i hi hv
            have hop := hch i (Nat.zero_le _) hi
            have hy := hget (i + 1) hi
            have hx := hget i (by omega)
            obtain ⟨_, _, hys, hxt, _⟩ := open_has hop
            have hnot : ¬(p.getD i 0 = s ∧ p.getD (i + 1) 0 = t) := fun ⟨e1, e2⟩ => by
              rcases Nat.lt_or_ge (i + 2) p.length with h1 | h1
              · exact (open_has (hch (i + 1) (Nat.zero_le _) h1)).2.2.2.1 e2
              · obtain ⟨j, rfl⟩ : ∃ j, i = j + 1 := ⟨i - 1, by omega⟩
                exact (open_has (hch j (Nat.zero_le _) (by omega))).2.2.1 e1
            by_cases hn : nx.getD (p.getD i 0) 0 = (p.getD (i + 1) 0 : Int)
            · have hxs : p.getD i 0 ≠ s := fun e => by rw [e, h.ns] at hn; omega
              have hv' : S.seen s (p.getD i 0, true) = true := by
                rcases hv with hv | ⟨_, hv⟩
                · exact hv
                · have := (freeN_true hv).2.1; omega
              obtain ⟨z, hz1, hz2⟩ := par _ hv' (fun e => hxs (congrArg Prod.fst e))
              rcases hz2.2 with ⟨q, _⟩ | ⟨_, q2, q3⟩
              · cases q
              · obtain ⟨z1, z2⟩ := z
                simp only at q2 q3
                obtain ⟨b1, b2, b3⟩ := backB_true q2
                have hzt : z1 ≠ t := hz2.1
                have hzn : z1 < g.n := by
                  obtain ⟨z', hz', hz''⟩ := par _ hz1 (fun e => b1 (congrArg Prod.fst e))
                  exact hz''.lt (h.val (by omega))
                have h5 := (h.f2 (p.getD i 0) z1 hzn hzt (by omega)).2 hxs
                obtain rfl : z1 = p.getD (i + 1) 0 := by omega
                refine ⟨hzt, ?_⟩
                cases z2
                · exact .inl hz1
                · exact .inr hz1
            · have hsk := skipK_mk hnot hop hn
              have hv2 : S.seen s (p.getD (i + 1) 0, false) = true := by
                rcases hv with hv | ⟨hv, hf⟩
                · exact (clo _ hv).2 _ ⟨hxt, .inl ⟨rfl, hy, .inl rfl, hsk⟩⟩
                · exact (clo _ hv).2 _ ⟨hxt, .inl ⟨rfl, hy, .inr hf, hsk⟩⟩
              exact ⟨(clo _ hv2).1, .inl hv2⟩
          intro i
          induction i with
          | zero => intro _; rw [hp0]; exact .inl hss
          | succ i ih =>
            intro hi
            obtain ⟨h1, h2⟩ := stp i (by omega) (ih (by omega))
            have hys := (open_has (hch i (Nat.zero_le _) (by omega))).2.2.1
            have hyn := hget (i + 1) (by omega)
            by_cases ht1 : S.seen s (p.getD (i + 1) 0, true) = true
            · exact .inl ht1
            · have hf1 : S.seen s (p.getD (i + 1) 0, false) = true := h2.resolve_right ht1
              refine .inr ⟨hf1, ?_⟩
              by_cases hp : 0 ≤ pv.getD (p.getD (i + 1) 0) 0
              · exact absurd ⟨_, by
                  rw [List.mem_filter, List.mem_range, Bool.and_eq_true]
                  exact ⟨hyn, (Rd _).2 ⟨hys, h1, hp, .inl hf1⟩, by simpa using ht1⟩, i + 1, by omega, by omega, rfl⟩ hex
              · have h3 := h.f3 _ hyn hys h1
                exact freeN_mk hys (by
                  rcases Int.lt_or_le (nx.getD (p.getD (i + 1) 0) 0) 0 with h4 | h4
                  · exact h4
                  · exact absurd (h3.1 h4) hp) (by omega)
        -- the last step
        have hl := Lv (p.length - 2) (by omega)
        have hlast : p.getD (p.length - 2 + 1) 0 = t := by rw [show p.length - 2 + 1 = p.length - 1 by omega]; exact hpl
        have hop := hch (p.length - 2) (Nat.zero_le _) (by omega)
        rw [hlast] at hop
        obtain ⟨_, _, hys, hxt, _⟩ := open_has hop
        have hxs : p.getD (p.length - 2) 0 ≠ s := by
          have := (open_has (hch (p.length - 3) (Nat.zero_le _) (by omega))).2.2.1
          rwa [show p.length - 3 + 1 = p.length - 2 by omega] at this
        by_cases hn : nx.getD (p.getD (p.length - 2) 0) 0 = (t : Int)
        · have hv' : S.seen s (p.getD (p.length - 2) 0, true) = true := by
            rcases hl with hv | ⟨_, hv⟩
            · exact hv
            · have := (freeN_true hv).2.1; omega
          obtain ⟨z, hz1, hz2⟩ := par _ hv' (fun e => hxs (congrArg Prod.fst e))
          rcases hz2.2 with ⟨q, _⟩ | ⟨_, q2, q3⟩
          · cases q
          · simp only at q2 q3
            obtain ⟨b1, b2, b3⟩ := backB_true q2
            have hzn : z.1 < g.n := by
              obtain ⟨z', hz', hz''⟩ := par _ hz1 (fun e => b1 (congrArg Prod.fst e))
              exact hz''.lt (h.val (by omega))
            have h5 := (h.f2 (p.getD (p.length - 2) 0) z.1 hzn hz2.1 (by omega)).2 hxs
            have := hz2.1
            omega
        · have hsk := skipK_mk (s := s) (fun e => hxs e.1) hop hn
          have hv2 : S.seen s (t, false) = true := by
            rcases hl with hv | ⟨hv, hf⟩
            · exact (clo _ hv).2 _ ⟨hxt, .inl ⟨rfl, ht, .inl rfl, hsk⟩⟩
            · exact (clo _ hv).2 _ ⟨hxt, .inl ⟨rfl, ht, .inr hf, hsk⟩⟩
          exact (clo _ hv2).1 rfl
/-! The paths that the rows say. -/
def itN (nx : List Int) (v : Nat) : Nat → Nat
  | 0 => v
  | k + 1 => (nx.getD (itN nx v k) 0).toNat
theorem FI.walk (h : FI g s t nx pv f) (hs : s < g.n) (hst : s ≠ t) {v : Nat} (hv : v < g.n) (hvt : v ≠ t) (hvs : pv.getD v 0 = (s : Int)) : ∀ k, (∀ j, j < k → itN nx v j ≠ t) →
    itN nx v k < g.n ∧ itN nx v k ≠ s ∧ (itN nx v k ≠ t → 0 ≤ nx.getD (itN nx v k) 0 ∧ (k = 0 → pv.getD (itN nx v k) 0 = (s : Int)) ∧ ∀ k', k = k' + 1 → pv.getD (itN nx v k) 0 = (itN nx v k' : Int)) ∧ ∀ k', k = k' + 1 → g.open (itN nx v k') (itN nx v k) s t = true
  | 0, _ => by
    have hv0 : v ≠ s := fun e => by rw [e, h.ps] at hvs; omega
    exact ⟨hv, hv0, fun _ => ⟨(h.f3 v hv hv0 hvt).2 (by omega), fun _ => hvs, fun k' e => by omega⟩, fun k' e => by omega⟩
  | k + 1, hk => by
    obtain ⟨h1, h2, h3, _⟩ := FI.walk h hs hst hv hvt hvs k (fun j hj => hk j (by omega))
    obtain ⟨h4, _, _⟩ := h3 (hk k (by omega))
    have e : nx.getD (itN nx v k) 0 = (itN nx v (k + 1) : Int) := by
      show _ = (((nx.getD (itN nx v k) 0).toNat : Nat) : Int)
      omega
    have hlt : itN nx v (k + 1) < g.n := by
      rcases h.rn _ h1 with h5 | ⟨j, h5, h6⟩
      · omega
      · omega
    obtain ⟨h5, h6⟩ := h.f1 _ _ h1 e
    have hys := (open_has h5).2.2.1
    refine ⟨hlt, hys, fun hnt => ⟨(h.f3 _ hlt hys hnt).2 (by rw [h6 hnt]; omega), fun e => by omega, fun k' e => ?_⟩, fun k' e => ?_⟩
    · obtain rfl : k' = k := by omega
      exact h6 hnt
    · obtain rfl : k' = k := by omega
      exact h5
theorem FI.apart (h : FI g s t nx pv f) (hs : s < g.n) (hst : s ≠ t) {v v' : Nat} (hv : v < g.n ∧ v ≠ t ∧ pv.getD v 0 = (s : Int)) (hv' : v' < g.n ∧ v' ≠ t ∧ pv.getD v' 0 = (s : Int)) :
    ∀ k k', (∀ j, j < k → itN nx v j ≠ t) → (∀ j, j < k' → itN nx v' j ≠ t) → itN nx v k ≠ t → itN nx v k = itN nx v' k' → k = k' ∧ v = v'
  | 0, 0, _, _, _, e => ⟨rfl, e⟩
  | 0, k' + 1, h1, h2, h3, e => by
    have w2 := (h.walk hs hst hv'.1 hv'.2.1 hv'.2.2 (k' + 1) h2).2.2.1 (by rw [← e]; exact h3)
    have w3 := h.walk hs hst hv'.1 hv'.2.1 hv'.2.2 k' (fun j hj => h2 j (by omega))
    have := w2.2.2 k' rfl
    rw [← e] at this
    have e2 : pv.getD (itN nx v 0) 0 = (s : Int) := hv.2.2
    have := w3.2.1
    omega
  | k + 1, 0, h1, h2, h3, e => by
    have w2 := (h.walk hs hst hv.1 hv.2.1 hv.2.2 (k + 1) h1).2.2.1 h3
    have w3 := h.walk hs hst hv.1 hv.2.1 hv.2.2 k (fun j hj => h1 j (by omega))
    have := w2.2.2 k rfl
    rw [e] at this
    have e2 : pv.getD (itN nx v' 0) 0 = (s : Int) := hv'.2.2
    have := w3.2.1
    omega
  | k + 1, k' + 1, h1, h2, h3, e => by
    have w2 := ((h.walk hs hst hv.1 hv.2.1 hv.2.2 (k + 1) h1).2.2.1 h3).2.2 k rfl
    have w3 := ((h.walk hs hst hv'.1 hv'.2.1 hv'.2.2 (k' + 1) h2).2.2.1 (by rw [← e]; exact h3)).2.2 k' rfl
    rw [e] at w2
    obtain ⟨e1, e2⟩ := FI.apart h hs hst hv hv' k k' (fun j hj => h1 j (by omega)) (fun j hj => h2 j (by omega)) (h1 k (by omega)) (by omega)
    exact ⟨by omega, e2⟩
theorem least_ex {P : Nat → Prop} [DecidablePred P] {n : Nat} (h : P n) : ∃ k, k ≤ n ∧ P k ∧ ∀ j, j < k → ¬P j := by
  induction n using Nat.strongRecOn with
  | ind n ih =>
    by_cases hex : ∃ j, j < n ∧ P j
    · obtain ⟨j, hj, hp⟩ := hex
      obtain ⟨k, h1, h2, h3⟩ := ih j hj hp
      exact ⟨k, by omega, h2, h3⟩
    · exact ⟨n, Nat.le_refl _, h, fun j hj hp => hex ⟨j, hj, hp⟩⟩
theorem FI.end_ (h : FI g s t nx pv f) (hs : s < g.n) (hst : s ≠ t) {v : Nat} (hv : v < g.n ∧ v ≠ t ∧ pv.getD v 0 = (s : Int)) : ∃ K, 1 ≤ K ∧ itN nx v K = t ∧ ∀ j, j < K → itN nx v j ≠ t := by
  have hex : ∃ n, itN nx v n = t := by
    by_cases hex : ∃ n, itN nx v n = t
    · exact hex
    · exfalso
      have hall : ∀ n, itN nx v n ≠ t := fun n e => hex ⟨n, e⟩
      have hnd : ((List.range (g.n + 1)).map (itN nx v)).Nodup := by
        rw [List.Nodup, List.pairwise_map]
        refine List.Pairwise.imp ?_ (List.nodup_range (n := g.n + 1))
        intro a b hne e
        exact hne (h.apart hs hst hv hv a b (fun j _ => hall j) (fun j _ => hall j) (hall a) e).1
      have := nodup_lt_len hnd (n := g.n) (fun x hx => by
        obtain ⟨k, _, rfl⟩ := List.mem_map.1 hx
        exact (h.walk hs hst hv.1 hv.2.1 hv.2.2 k (fun j _ => hall j)).1)
      rw [List.length_map, List.length_range] at this
      omega
  obtain ⟨n, hn⟩ := hex
  obtain ⟨K, _, h2, h3⟩ := least_ex (P := fun k => itN nx v k = t) hn
  refine ⟨K, ?_, h2, h3⟩
  cases K with
  | zero => exact absurd h2 hv.2.1
  | succ K => omega
theorem FI.path (h : FI g s t nx pv f) (hs : s < g.n) (ht : t < g.n) (hst : s ≠ t) {v K : Nat} (hv : v < g.n ∧ v ≠ t ∧ pv.getD v 0 = (s : Int)) (hK : 1 ≤ K) (hK1 : itN nx v K = t) (hK2 : ∀ j, j < K → itN nx v j ≠ t) :
    PathG g s t (s :: (List.range (K + 1)).map (itN nx v)) ∧ relays (s :: (List.range (K + 1)).map (itN nx v)) = (List.range K).map (itN nx v) := by
  have hw : ∀ k, k ≤ K → _ := fun k hk => h.walk hs hst hv.1 hv.2.1 hv.2.2 k (fun j hj => hK2 j (by omega))
  have hget : ∀ i, i ≤ K → (s :: (List.range (K + 1)).map (itN nx v)).getD (i + 1) 0 = itN nx v i := fun i hi => by
    rw [List.getD_eq_getElem?_getD, List.getElem?_cons_succ, List.getElem?_map, List.getElem?_range (by omega)]; rfl
  refine ⟨⟨by simp, rfl, ?_, ?_, ?_, ?_⟩, ?_⟩
  · unfold lastN
    rw [List.length_cons, List.length_map, List.length_range, Nat.add_sub_cancel, hget K (Nat.le_refl _)]; exact hK1
  · rw [List.nodup_cons]
    refine ⟨fun hm => ?_, ?_⟩
    · obtain ⟨k, hk, e⟩ := List.mem_map.1 hm
      rw [List.mem_range] at hk
      exact (hw k (by omega)).2.1 e
    · rw [List.Nodup, List.pairwise_map]
      refine List.Pairwise.imp_of_mem ?_ (List.nodup_range (n := K + 1))
      intro a b ha hb hne e
      rw [List.mem_range] at ha hb
      by_cases hat : itN nx v a = t
      · have hbt : itN nx v b = t := by rw [← e]; exact hat
        have h1 : a = K := by rcases Nat.lt_or_ge a K with h1 | h1; exact absurd hat (hK2 a h1); omega
        have h2 : b = K := by rcases Nat.lt_or_ge b K with h1 | h1; exact absurd hbt (hK2 b h1); omega
        exact hne (by omega)
      · exact hne (h.apart hs hst hv hv a b (fun j hj => hK2 j (by omega)) (fun j hj => hK2 j (by omega)) hat e).1
  · intro i _ hi
    simp only [List.length_cons, List.length_map, List.length_range] at hi
    cases i with
    | zero =>
      rw [hget 0 (by omega)]
      exact (h.f2 s v hv.1 hv.2.1 hv.2.2).1
    | succ i =>
      rw [hget i (by omega), hget (i + 1) (by omega)]
      exact (hw (i + 1) (by omega)).2.2.2 i rfl
  · intro x hx
    rw [List.drop_one, List.tail_cons] at hx
    obtain ⟨k, hk, rfl⟩ := List.mem_map.1 hx
    rw [List.mem_range] at hk
    exact (hw k (by omega)).1
  · unfold relays
    rw [List.drop_one, List.tail_cons, List.length_cons, List.length_map, List.length_range, show K + 1 + 1 - 2 = K by omega, ← List.map_take, List.take_range, Nat.min_eq_left (by omega)]
/-- Paths that are apart. -/
structure Disj (g : PG) (s t : Nat) (ps : List (List Nat)) : Prop where
  each : ∀ p ∈ ps, PathG g s t p
  apart : ps.Pairwise fun p q => (∀ x ∈ relays p, x ∉ relays q) ∧ ¬(p.length = 2 ∧ q.length = 2)
theorem FI.paths (h : FI g s t nx pv f) (hs : s < g.n) (ht : t < g.n) (hst : s ≠ t) : ∃ ps, ps.length = f ∧ Disj g s t ps ∧ ∀ p ∈ ps, 3 ≤ p.length := by
  have key : ∀ l : List Nat, l.Nodup → (∀ v ∈ l, v < g.n ∧ v ≠ t ∧ pv.getD v 0 = (s : Int)) → ∃ ps, ps.length = l.length ∧ Disj g s t ps ∧ (∀ p ∈ ps, 3 ≤ p.length) ∧ ∀ p ∈ ps, ∃ v ∈ l, ∀ x ∈ relays p, ∃ k, itN nx v k = x ∧ ∀ j, j ≤ k → itN nx v j ≠ t := by
    intro l
    induction l with
    | nil => intro _ _; exact ⟨[], rfl, ⟨by simp, by simp⟩, by simp, by simp⟩
    | cons v l ih =>
      intro hn hl
      rw [List.nodup_cons] at hn
      obtain ⟨ps, h1, h2, h3, h4⟩ := ih hn.2 (fun x hx => hl x (by simp [hx]))
      have hv := hl v (by simp)
      obtain ⟨K, k1, k2, k3⟩ := h.end_ hs hst hv
      obtain ⟨q1, q2⟩ := h.path hs ht hst hv k1 k2 k3
      have hlen : 3 ≤ (s :: (List.range (K + 1)).map (itN nx v)).length := by simp; omega
      have hrel : ∀ x ∈ relays (s :: (List.range (K + 1)).map (itN nx v)), ∃ k, itN nx v k = x ∧ ∀ j, j ≤ k → itN nx v j ≠ t := fun x hx => by
        rw [q2] at hx
        obtain ⟨k, hk, rfl⟩ := List.mem_map.1 hx
        rw [List.mem_range] at hk
        exact ⟨k, rfl, fun j hj => k3 j (by omega)⟩
      refine ⟨(s :: (List.range (K + 1)).map (itN nx v)) :: ps, by simp [h1], ⟨fun p hp => ?_, List.pairwise_cons.2 ⟨fun p hp => ⟨fun x hx hx2 => ?_, fun e => by omega⟩, h2.apart⟩⟩, fun p hp => ?_, fun p hp => ?_⟩
      · rcases List.mem_cons.1 hp with rfl | hp
        · exact q1
        · exact h2.each p hp
      · obtain ⟨v', hv', h5⟩ := h4 p hp
        obtain ⟨k, e1, e2⟩ := hrel x hx
        obtain ⟨k', e3, e4⟩ := h5 x hx2
        have := (h.apart hs hst hv (hl v' (by simp [hv'])) k k' (fun j hj => e2 j (by omega)) (fun j hj => e4 j (by omega)) (e2 k (Nat.le_refl _)) (by rw [e1, e3])).2
        subst this
        exact hn.1 hv'
      · rcases List.mem_cons.1 hp with rfl | hp
        · exact hlen
        · exact h3 p hp
      · rcases List.mem_cons.1 hp with rfl | hp
        · exact ⟨v, by simp, hrel⟩
        · obtain ⟨v', hv', h5⟩ := h4 p hp
          exact ⟨v', by simp [hv'], h5⟩
  obtain ⟨ps, h1, h2, h3, _⟩ := key ((List.range g.n).filter fun j => decide (j ≠ t) && decide (pv.getD j 0 = (s : Int))) (List.nodup_range.sublist List.filter_sublist) (fun v hv => by
    rw [List.mem_filter, List.mem_range, Bool.and_eq_true, decide_eq_true_eq, decide_eq_true_eq] at hv
    exact ⟨hv.1, hv.2.1, hv.2.2⟩)
  exact ⟨ps, by rw [h1, h.f4], h2, h3⟩
theorem more_spec (hs : s < g.n) (ht : t < g.n) (hst : s ≠ t) : ∀ (m : Nat) (nx pv : List Int) (f : Nat), FI g s t nx pv f → ∃ nx' pv', FI g s t nx' pv' (f + more g s t m nx pv) ∧ more g s t m nx pv ≤ m ∧ (more g s t m nx pv = m ∨ augment g s t nx' pv' = none)
  | 0, nx, pv, f, h => ⟨nx, pv, h, Nat.le_refl _, .inl rfl⟩
  | m + 1, nx, pv, f, h => by
    rw [more]
    cases e : augment g s t nx pv with
    | none => exact ⟨nx, pv, h, Nat.zero_le _, .inr e⟩
    | some r =>
      obtain ⟨nx', pv', h1, h2, h3⟩ := more_spec hs ht hst m r.1 r.2 (f + 1) (augment_FI h hs ht hst e)
      exact ⟨nx', pv', by rw [show f + (more g s t m r.1 r.2 + 1) = f + 1 + more g s t m r.1 r.2 by omega]; exact h1, by simp only; omega, h3.imp (fun h => by simp only; omega) id⟩
theorem relays_mem {p : List Nat} {x : Nat} : x ∈ relays p ↔ ∃ i, 1 ≤ i ∧ i + 1 < p.length ∧ p[i]? = some x := by
  unfold relays
  rw [List.mem_iff_getElem?]
  constructor
  · rintro ⟨i, h⟩
    rw [List.getElem?_take] at h
    split at h
    · rw [List.getElem?_drop] at h
      exact ⟨1 + i, by omega, by omega, h⟩
    · cases h
  · rintro ⟨i, h1, h2, h3⟩
    refine ⟨i - 1, ?_⟩
    rw [List.getElem?_take, if_pos (by omega), List.getElem?_drop, show 1 + (i - 1) = i by omega]; exact h3
/-- Paths that are apart need as many cuts. -/
theorem hit_all : ∀ (ps : List (List Nat)) (C : List Nat), ps.Pairwise (fun p q => ∀ x ∈ relays p, x ∉ relays q) → (∀ p ∈ ps, ∃ c ∈ C, c ∈ relays p) → ps.length ≤ C.length
  | [], _, _, _ => Nat.zero_le _
  | p :: ps, C, h, hC => by
    rw [List.pairwise_cons] at h
    obtain ⟨c, hc, hcp⟩ := hC p (by simp)
    have ih := hit_all ps (C.erase c) h.2 (fun q hq => by
      obtain ⟨c', hc', hcq⟩ := hC q (by simp [hq])
      have hne : c' ≠ c := fun e => h.1 q hq c hcp (e ▸ hcq)
      exact ⟨c', (List.mem_erase_of_ne hne).2 hc', hcq⟩)
    rw [List.length_erase_of_mem hc] at ih
    have := List.length_pos_of_mem hc
    rw [List.length_cons]; omega
/-- A list of relays that cuts all ways with relays. -/
def CutsAll (g : PG) (s t : Nat) (C : List Nat) : Prop := ∀ p : List Nat, 3 ≤ p.length → p.getD 0 0 = s → lastN p = t → (∀ x ∈ p, x < g.n) → ChainF g s t p 0 → ∃ c ∈ C, c ∈ relays p
theorem PathG.all_lt {p : List Nat} (h : PathG g s t p) (hs : s < g.n) : ∀ x ∈ p, x < g.n := fun x hx => by
  cases p with
  | nil => simp at hx
  | cons a p =>
    rcases List.mem_cons.1 hx with rfl | hx
    · have := h.first
      simp only [List.getD_cons_zero] at this
      omega
    · exact h.lt x (by simpa using hx)
theorem filter_apart (R : List Nat → List Nat → Prop) (P : List Nat → Bool) {ps : List (List Nat)} (h : ps.Pairwise R) : (ps.filter P).Pairwise R := h.sublist List.filter_sublist
theorem straight_one : ∀ (ps : List (List Nat)), ps.Pairwise (fun p q => ¬(p.length = 2 ∧ q.length = 2)) → (ps.filter fun p => decide (p.length = 2)).length ≤ 1
  | [], _ => by simp
  | p :: ps, h => by
    rw [List.pairwise_cons] at h
    rw [List.filter_cons]
    split
    · rename_i hp
      have hp' : p.length = 2 := by simpa using hp
      rw [List.filter_eq_nil_iff.2]
      · simp
      · intro q hq
        have := h.1 q hq
        simpa using fun e => this ⟨hp', e⟩
    · exact straight_one ps h.2
theorem Disj.bound {ps : List (List Nat)} (h : Disj g s t ps) (hs : s < g.n) {C : List Nat} (hC : CutsAll g s t C) : ps.length ≤ C.length + (if g.open s t s t then 1 else 0) := by
  have e := filter_split (fun _ => true) (fun p : List Nat => decide (p.length = 2)) ps
  have e0 : ps.filter (fun _ => true) = ps := List.filter_eq_self.2 (fun _ _ => rfl)
  rw [e0] at e
  simp only [Bool.true_and] at e
  have h1 : (ps.filter fun p => !decide (p.length = 2)).length ≤ C.length := by
    refine hit_all _ _ (filter_apart _ _ (h.apart.imp fun h => h.1)) fun p hp => ?_
    rw [List.mem_filter] at hp
    have hg := h.each p hp.1
    have h2 : p.length ≠ 2 := by simpa using hp.2
    exact hC p (by have := hg.len; omega) hg.first hg.last (hg.all_lt hs) hg.chain
  have h2 := straight_one ps (h.apart.imp fun h => h.2)
  by_cases hz : g.open s t s t = true
  · rw [if_pos hz]; omega
  · have h3 : (ps.filter fun p => decide (p.length = 2)).length = 0 := by
      rw [List.filter_eq_nil_iff.2]
      · rfl
      · intro p hp hp2
        have hp2' : p.length = 2 := by simpa using hp2
        have hg := h.each p hp
        apply hz
        have := hg.chain 0 (Nat.le_refl _) (by omega)
        have hl := hg.last
        unfold lastN at hl
        rw [hp2'] at hl
        rw [hg.first, hl] at this
        exact this
    omega
/-- What count says. -/
theorem countG_says (hs : s < g.n) (ht : t < g.n) (hst : s ≠ t) (most : Nat) : ∃ ps, Disj g s t ps ∧ ps.length = countG g s t most ∧ countG g s t most ≤ most ∧ (countG g s t most = most ∨ ∃ C, CutsAll g s t C ∧ C.Nodup ∧ (∀ c ∈ C, c < g.n ∧ c ≠ s ∧ c ≠ t) ∧ C.length + (if g.open s t s t then 1 else 0) ≤ countG g s t most) := by
  unfold countG
  obtain ⟨z, hz⟩ : ∃ z, z = if g.open s t s t && decide (0 < most) then 1 else 0 := ⟨_, rfl⟩
  have hzm : z ≤ most := by
    rw [hz]; split
    · rename_i h; simp only [Bool.and_eq_true, decide_eq_true_eq] at h; omega
    · omega
  dsimp only
  rw [← hz]
  obtain ⟨nx', pv', h1, h2, h3⟩ := more_spec hs ht hst (most - z) _ _ 0 (FI.start g s t hs ht)
  rw [Nat.zero_add] at h1
  obtain ⟨ps, p1, p2, p3⟩ := h1.paths hs ht hst
  have hps : ∃ ps', Disj g s t ps' ∧ ps'.length = z + more g s t (most - z) (List.replicate g.n (-1)) (List.replicate g.n (-1)) := by
    by_cases hz1 : (g.open s t s t && decide (0 < most)) = true
    · rw [if_pos hz1] at hz
      rw [Bool.and_eq_true] at hz1
      refine ⟨[s, t] :: ps, ⟨fun p hp => ?_, List.pairwise_cons.2 ⟨fun p hp => ⟨fun x hx => by simp [relays] at hx, fun e => by have := p3 p hp; omega⟩, p2.apart⟩⟩, by simp [p1, hz]; omega⟩
      rcases List.mem_cons.1 hp with rfl | hp
      · refine ⟨by simp, rfl, rfl, by simpa using hst, fun i _ hi => ?_, fun x hx => ?_⟩
        · simp only [List.length_cons, List.length_nil] at hi
          obtain rfl : i = 0 := by omega
          exact hz1.1
        · simp at hx; omega
      · exact p2.each p hp
    · rw [if_neg hz1] at hz
      exact ⟨ps, p2, by rw [p1, hz]; omega⟩
  obtain ⟨ps', q1, q2⟩ := hps
  refine ⟨ps', q1, q2, by omega, ?_⟩
  rcases h3 with h3 | h3
  · exact .inl (by omega)
  · by_cases hm0 : most = 0
    · exact .inl (by omega)
    · obtain ⟨C, c1, c2, c3, c4⟩ := cut_of_none h1 hs ht hst h3
      refine .inr ⟨C, fun p a1 a2 a3 a4 a5 => ?_, c1, c3, ?_⟩
      · obtain ⟨c, hc, i, b1, b2, b3⟩ := c4 p a1 a2 a3 a4 a5
        refine ⟨c, hc, relays_mem.2 ⟨i, b1, b2, ?_⟩⟩
        rw [List.getD_eq_getElem?_getD, List.getElem?_eq_getElem (by omega)] at b3
        rw [List.getElem?_eq_getElem (by omega), ← b3]; rfl
      · have : (if g.open s t s t = true then 1 else 0) = z := by
          rw [hz]
          have : decide (0 < most) = true := by simp; omega
          rw [this, Bool.and_true]
        omega
theorem countG_iff (hs : s < g.n) (ht : t < g.n) (hst : s ≠ t) (k : Nat) : k ≤ countG g s t k ↔ ∃ ps, Disj g s t ps ∧ ps.length = k := by
  obtain ⟨ps, h1, h2, h3, h4⟩ := countG_says hs ht hst k
  constructor
  · intro h; exact ⟨ps, h1, by omega⟩
  · rintro ⟨qs, q1, q2⟩
    rcases h4 with h4 | ⟨C, c1, _, _, c4⟩
    · omega
    · have := q1.bound hs c1
      omega
end
end Go.Proofs.YtblilfbhohnbgaaGreat
namespace Go.Proofs.YtblilfbhohnbgaaGreat
set_option linter.unusedVariables false
theorem getDN_set_ne {l : List Nat} {i k : Nat} {x : Nat} (h : k ≠ i) : (l.set i x).getD k 0 = l.getD k 0 := by
  simp only [List.getD_eq_getElem?_getD]; rw [List.getElem?_set_ne (fun e => h e.symm)]
theorem getDN_set_eq {l : List Nat} {k : Nat} {x : Nat} (h : k < l.length) : (l.set k x).getD k 0 = x := by
  simp only [List.getD_eq_getElem?_getD]; rw [List.getElem?_set_self h]; rfl
section
variable {g : PG} {s t : Nat}
theorem mrelax1_len (a b : Nat) (d : List Nat) : (relax1 g s t a b d).length = d.length := by unfold relax1; split <;> simp
theorem mrelaxB_len (a : Nat) (d : List Nat) : ∀ k, (relaxB g s t a d k).length = d.length
  | 0 => rfl
  | k + 1 => by rw [relaxB, mrelax1_len, mrelaxB_len a d k]
theorem mrelaxA_len (d : List Nat) : ∀ k, (relaxA g s t d k).length = d.length
  | 0 => rfl
  | k + 1 => by rw [relaxA, mrelaxB_len, mrelaxA_len d k]
theorem mrelaxN_len (d : List Nat) : ∀ k, (relaxN g s t d k).length = d.length
  | 0 => rfl
  | k + 1 => by rw [relaxN, mrelaxA_len, mrelaxN_len d k]
theorem relax1_le (a b x : Nat) (d : List Nat) : (relax1 g s t a b d).getD x 0 ≤ d.getD x 0 := by
  unfold relax1
  split
  · by_cases e : x = a
    · subst e
      by_cases hx : x < d.length
      · rw [getDN_set_eq hx]; exact Nat.min_le_left _ _
      · rw [List.set_eq_of_length_le (by omega)]; exact Nat.le_refl _
    · rw [getDN_set_ne e]; exact Nat.le_refl _
  · exact Nat.le_refl _
theorem relax1_do (a b : Nat) (d : List Nat) (ho : g.open a b s t = true) (ha : a < d.length) : (relax1 g s t a b d).getD a 0 ≤ d.getD b 0 + 1 := by
  unfold relax1
  rw [if_pos ho, getDN_set_eq ha]; exact Nat.min_le_right _ _
theorem relaxB_le (a x : Nat) (d : List Nat) : ∀ k, (relaxB g s t a d k).getD x 0 ≤ d.getD x 0
  | 0 => Nat.le_refl _
  | k + 1 => Nat.le_trans (relax1_le _ _ _ _) (relaxB_le a x d k)
theorem relaxA_le (x : Nat) (d : List Nat) : ∀ k, (relaxA g s t d k).getD x 0 ≤ d.getD x 0
  | 0 => Nat.le_refl _
  | k + 1 => Nat.le_trans (relaxB_le _ _ _ _) (relaxA_le x d k)
theorem relaxB_do (a b : Nat) (d : List Nat) (ho : g.open a b s t = true) (ha : a < d.length) : ∀ k, b < k → (relaxB g s t a d k).getD a 0 ≤ d.getD b 0 + 1
  | 0, h => absurd h (by omega)
  | k + 1, h => by
    rw [relaxB]
    rcases Nat.lt_or_ge b k with h1 | h1
    · exact Nat.le_trans (relax1_le _ _ _ _) (relaxB_do a b d ho ha k h1)
    · obtain rfl : b = k := by omega
      have h2 := relax1_do (g := g) (s := s) (t := t) a b (relaxB g s t a d b) ho (by rw [mrelaxB_len]; exact ha)
      have h3 := relaxB_le (g := g) (s := s) (t := t) a b d b
      omega
theorem relaxA_do (a b : Nat) (d : List Nat) (ho : g.open a b s t = true) (ha : a < d.length) (hb : b < g.n) : ∀ k, a < k → (relaxA g s t d k).getD a 0 ≤ d.getD b 0 + 1
  | 0, h => absurd h (by omega)
  | k + 1, h => by
    rw [relaxA]
    rcases Nat.lt_or_ge a k with h1 | h1
    · exact Nat.le_trans (relaxB_le _ _ _ _) (relaxA_do a b d ho ha hb k h1)
    · obtain rfl : a = k := by omega
      have h2 := relaxB_do a b (relaxA g s t d a) ho (by rw [mrelaxA_len]; exact ha) g.n hb
      have h3 := relaxA_le (g := g) (s := s) (t := t) b d a
      omega
/-- From a place one comes to the end by so many steps. -/
def Wk (g : PG) (s t : Nat) : Nat → Nat → Prop
  | 0, a => a = t
  | m + 1, a => ∃ b, b < g.n ∧ g.open a b s t = true ∧ Wk g s t m b
theorem relaxN_wk (d : List Nat) (hd : d.length = g.n) (h0 : d.getD t 0 = 0) : ∀ (r m a : Nat), m ≤ r → a < g.n → Wk g s t m a → (relaxN g s t d r).getD a 0 ≤ m
  | 0, m, a, hm, ha, h => by
    obtain rfl : m = 0 := by omega
    have h' : a = t := h
    subst h'
    show d.getD a 0 ≤ 0
    omega
  | r + 1, m, a, hm, ha, h => by
    rw [relaxN]
    cases m with
    | zero => exact Nat.le_trans (relaxA_le _ _ _) (relaxN_wk d hd h0 r 0 a (Nat.zero_le _) ha h)
    | succ m =>
      obtain ⟨b, hb, ho, hw⟩ := h
      have h1 := relaxN_wk d hd h0 r m b (by omega) hb hw
      have h2 := relaxA_do a b (relaxN g s t d r) ho (by rw [mrelaxN_len, hd]; exact ha) hb g.n ha
      omega
theorem distG_wk (ht : t < g.n) {m a : Nat} (hm : m ≤ g.n) (ha : a < g.n) (h : Wk g s t m a) : (distG g s t).getD a 0 ≤ m := by
  refine relaxN_wk _ (by simp) ?_ g.n m a hm ha h
  exact getDN_set_eq (by simpa using ht)
theorem chain_wk : ∀ (r p : List Nat), p ≠ [] → (∀ x ∈ r, x < g.n) → ChainF g s t (p ++ r) (p.length - 1) → lastN (p ++ r) = t → Wk g s t r.length (lastN p)
  | [], p, hp, _, _, hl => by
    rw [List.append_nil] at hl; exact hl
  | k :: r, p, hp, hr, hc, hl => by
    have hpl : 0 < p.length := List.length_pos_iff.2 hp
    have e : p ++ k :: r = (p ++ [k]) ++ r := by simp
    have ho := hc (p.length - 1) (Nat.le_refl _) (by simp; omega)
    have e1 : (p ++ k :: r).getD (p.length - 1) 0 = lastN p := by rw [getD_app_left _ _ (by omega)]; rfl
    have e2 : (p ++ k :: r).getD (p.length - 1 + 1) 0 = k := by
      rw [show p.length - 1 + 1 = p.length by omega, List.getD_eq_getElem?_getD, List.getElem?_append_right (Nat.le_refl _)]; simp
    rw [e1, e2] at ho
    refine ⟨k, hr k (by simp), ho, ?_⟩
    have := chain_wk r (p ++ [k]) (by simp) (fun x hx => hr x (by simp [hx])) (fun i h1 h2 => by
      rw [← e] at h2 ⊢
      exact hc i (by rw [List.length_append, List.length_singleton] at h1; omega) h2) (by rw [← e]; exact hl)
    rw [lastN_snoc] at this; exact this
theorem ext_complete (ht : t < g.n) : ∀ (l : Nat) (p r : List Nat), p ≠ [] → (∀ x ∈ p, x < g.n) → r.length = l → l ≤ g.n → (p ++ r).Nodup → ChainF g s t (p ++ r) (p.length - 1) → lastN (p ++ r) = t → (∀ x ∈ r, x < g.n) → p ++ r ∈ extG g s t (distG g s t) l p
  | 0, p, r, hp, _, hr, _, hn, hc, hl, _ => by
    obtain rfl : r = [] := List.length_eq_zero_iff.1 hr
    rw [List.append_nil] at hl ⊢
    rw [extG, if_pos hl]; simp
  | l + 1, p, r, hp, hpn, hr, hln, hn, hc, hl, hrn => by
    obtain ⟨k, r, rfl⟩ : ∃ k r', r = k :: r' := by cases r with | nil => simp at hr | cons k r' => exact ⟨k, r', rfl⟩
    have hpl : 0 < p.length := List.length_pos_iff.2 hp
    have e : p ++ k :: r = (p ++ [k]) ++ r := by simp
    have ho := hc (p.length - 1) (Nat.le_refl _) (by simp; omega)
    have e1 : (p ++ k :: r).getD (p.length - 1) 0 = lastN p := by rw [getD_app_left _ _ (by omega)]; rfl
    have e2 : (p ++ k :: r).getD (p.length - 1 + 1) 0 = k := by
      rw [show p.length - 1 + 1 = p.length by omega, List.getD_eq_getElem?_getD, List.getElem?_append_right (Nat.le_refl _)]; simp
    rw [e1, e2] at ho
    have hw := chain_wk _ p hp hrn hc hl
    rw [hr] at hw
    have hlast : lastN p < g.n := by
      unfold lastN
      rw [List.getD_eq_getElem?_getD, List.getElem?_eq_getElem (by omega)]
      exact hpn _ (List.getElem_mem _)
    have hd := distG_wk ht hln hlast hw
    rw [extG, if_neg (by rw [not_or]; exact ⟨(open_has ho).2.2.2.1, by omega⟩), List.mem_flatMap]
    refine ⟨k, List.mem_range.2 (hrn k (by simp)), ?_⟩
    have hkp : p.contains k = false := by
      rw [List.nodup_append] at hn
      have : k ∉ p := fun hk => hn.2.2 k hk k (by simp) rfl
      simpa using this
    rw [ho, hkp]
    simp only [Bool.not_true, Bool.or_self, Bool.false_eq_true, if_false]
    rw [e]
    refine ext_complete ht l (p ++ [k]) r (by simp) (fun x hx => ?_) (by simpa using hr) (by omega) (by rw [← e]; exact hn) (fun i h1 h2 => ?_) (by rw [← e]; exact hl) (fun x hx => hrn x (by simp [hx]))
    · rcases List.mem_append.1 hx with hx | hx
      · exact hpn x hx
      · rw [List.mem_singleton] at hx; subst hx; exact hrn x (by simp)
    · rw [← e] at h2 ⊢
      exact hc i (by rw [List.length_append, List.length_singleton] at h1; omega) h2
theorem eachG_complete (hs : s < g.n) (ht : t < g.n) {p : List Nat} (h : PathG g s t p) : p ∈ eachG g s t := by
  have hlt := h.all_lt hs
  have hle := nodup_lt_len h.nodup hlt
  have hl2 := h.len
  obtain ⟨r, rfl⟩ : ∃ r, p = s :: r := by
    cases p with
    | nil => simp at hl2
    | cons a r => have := h.first; simp only [List.getD_cons_zero] at this; subst this; exact ⟨r, rfl⟩
  simp only [List.length_cons] at hle hl2
  unfold eachG
  rw [List.mem_flatMap]
  refine ⟨r.length - 1, List.mem_range.2 (by omega), ?_⟩
  have := ext_complete ht (r.length - 1 + 1) [s] r (by simp) (by simpa using hs) (by omega) (by omega) h.nodup h.chain h.last (fun x hx => hlt x (by simp [hx]))
  exact this
theorem outAll_len' : ∀ (l : List Nat) (o : List Bool), (outAll o l).length = o.length
  | [], _ => rfl
  | i :: l, o => by rw [outAll, outAll_len' l]; simp
theorem outAll_same {b : Nat} : ∀ (l : List Nat) (o : List Bool), b ∉ l → (outAll o l).getD b false = o.getD b false
  | [], _, _ => rfl
  | i :: l, o, h => by
    rw [outAll, outAll_same l _ (fun h2 => h (by simp [h2]))]
    simp only [List.getD_eq_getElem?_getD]
    rw [List.getElem?_set_ne (fun e => h (by simp [e]))]
theorem outAll_true {b : Nat} : ∀ (l : List Nat) (o : List Bool), b < o.length → (b ∈ l ∨ o.getD b false = true) → (outAll o l).getD b false = true
  | [], _, _, h => h.resolve_left (by simp)
  | i :: l, o, hb, h => by
    rw [outAll]
    refine outAll_true l _ (by simpa using hb) ?_
    by_cases e : b = i
    · subst e
      refine .inr ?_
      simp only [List.getD_eq_getElem?_getD]
      rw [List.getElem?_set_self hb]; rfl
    · rcases h with h | h
      · exact .inl ((List.mem_cons.1 h).resolve_left e)
      · refine .inr ?_
        simp only [List.getD_eq_getElem?_getD] at h ⊢
        rw [List.getElem?_set_ne (fun e2 => e e2.symm)]; exact h
theorem open_mk {a b : Nat} (h1 : g.has a b = true) (h2 : g.out.getD b false = false) (h3 : b ≠ s) (h4 : a ≠ t) (h5 : ¬(g.far = true ∧ a = s ∧ b = t)) : g.open a b s t = true := by
  unfold PG.open
  simp only [Bool.and_eq_true, Bool.not_eq_true', bne_iff_ne, ne_eq, Bool.and_eq_false_imp, beq_eq_false_iff_ne, beq_iff_eq]
  exact ⟨⟨⟨⟨h1, h2⟩, h3⟩, h4⟩, fun h6 h7 => h5 ⟨h6.1, h6.2, h7⟩⟩
theorem without_out (p : List Nat) : (g.without p).out = outAll g.out (relays p) := rfl
theorem without_far (p : List Nat) : (g.without p).far = (g.far || p.length == 2) := rfl
theorem PathG.getE {p : List Nat} (h : PathG g s t p) {i : Nat} (hi : i < p.length) : p[i]? = some (p.getD i 0) := by
  rw [List.getD_eq_getElem?_getD, List.getElem?_eq_getElem hi]; rfl
theorem nodup_at {p : List Nat} (h : p.Nodup) {i j x : Nat} (hi : p[i]? = some x) (hj : p[j]? = some x) : i = j := by
  obtain ⟨h1, e1⟩ := List.getElem?_eq_some_iff.1 hi
  obtain ⟨h2, e2⟩ := List.getElem?_eq_some_iff.1 hj
  rcases Nat.lt_trichotomy i j with h3 | h3 | h3
  · exact absurd (e1.trans e2.symm) ((List.pairwise_iff_getElem.1 h) i j h1 h2 h3)
  · exact h3
  · exact absurd (e2.trans e1.symm) ((List.pairwise_iff_getElem.1 h) j i h2 h1 h3)
theorem PathG.t_not {p : List Nat} (h : PathG g s t p) : t ∉ relays p := fun hm => by
  obtain ⟨i, h1, h2, h3⟩ := relays_mem.1 hm
  have h4 := h.getE (i := p.length - 1) (by omega)
  have h5 : p.getD (p.length - 1) 0 = t := h.last
  rw [h5] at h4
  have := nodup_at h.nodup h3 h4
  omega
theorem PathG.s_not {p : List Nat} (h : PathG g s t p) : s ∉ relays p := fun hm => by
  obtain ⟨i, h1, h2, h3⟩ := relays_mem.1 hm
  have h4 := h.getE (i := 0) (by omega)
  rw [h.first] at h4
  have := nodup_at h.nodup h3 h4
  omega
theorem PathG.straight {p : List Nat} (h : PathG g s t p) {i : Nat} (hi : i + 1 < p.length) (h1 : p.getD i 0 = s) (h2 : p.getD (i + 1) 0 = t) : p.length = 2 := by
  have a1 := h.getE (i := i) (by omega)
  have a2 := h.getE (i := 0) (by omega)
  rw [h1] at a1; rw [h.first] at a2
  have e1 := nodup_at h.nodup a1 a2
  have a3 := h.getE hi
  have a4 := h.getE (i := p.length - 1) (by omega)
  have h5 : p.getD (p.length - 1) 0 = t := h.last
  rw [h2] at a3; rw [h5] at a4
  have e2 := nodup_at h.nodup a3 a4
  omega
/-- A path that is apart from another one is there without it. -/
theorem PathG.keep {p q : List Nat} (hp : PathG g s t p) (hq : PathG g s t q) (h : ∀ x ∈ relays p, x ∉ relays q) (h2 : ¬(p.length = 2 ∧ q.length = 2)) : PathG (g.without p) s t q := by
  refine ⟨hq.len, hq.first, hq.last, hq.nodup, fun i hi0 hi => ?_, hq.lt⟩
  obtain ⟨q1, q2, q3, q4, q5⟩ := open_has (hq.chain i hi0 hi)
  refine open_mk q1 ?_ q3 q4 ?_
  · rw [without_out, outAll_same _ _ (fun hm => ?_)]
    · exact q2
    · rcases Nat.lt_or_ge (i + 2) q.length with h3 | h3
      · exact h _ hm (relays_mem.2 ⟨i + 1, by omega, by omega, hq.getE hi⟩)
      · have : q.getD (i + 1) 0 = t := by rw [show i + 1 = q.length - 1 by omega]; exact hq.last
        rw [this] at hm
        exact hp.t_not hm
  · rintro ⟨h3, h4, h5⟩
    have hl := hq.straight hi h4 h5
    rw [without_far, Bool.or_eq_true, beq_iff_eq] at h3
    rcases h3 with h3 | h3
    · exact q5 ⟨h3, h4, h5⟩
    · exact h2 ⟨h3, hl⟩
/-- A path that is there without another one is apart from it. -/
theorem PathG.lift {p q : List Nat} (ho : g.out.length = g.n) (hp : PathG g s t p) (hq : PathG (g.without p) s t q) : PathG g s t q ∧ (∀ x ∈ relays p, x ∉ relays q) ∧ ¬(p.length = 2 ∧ q.length = 2) := by
  have hlt : ∀ x ∈ q.drop 1, x < g.n := hq.lt
  refine ⟨⟨hq.len, hq.first, hq.last, hq.nodup, fun i hi0 hi => ?_, hlt⟩, fun x hx hx2 => ?_, fun ⟨h1, h2⟩ => ?_⟩
  · obtain ⟨q1, q2, q3, q4, q5⟩ := open_has (hq.chain i hi0 hi)
    refine open_mk q1 ?_ q3 q4 (fun h => q5 ⟨by rw [without_far, h.1]; rfl, h.2⟩)
    cases e : g.out.getD (q.getD (i + 1) 0) false with
    | false => rfl
    | true =>
      have hb : q.getD (i + 1) 0 < g.out.length := by
        rcases Nat.lt_or_ge (q.getD (i + 1) 0) g.out.length with h | h
        · exact h
        · rw [List.getD_eq_getElem?_getD, List.getElem?_eq_none h] at e; cases e
      rw [without_out, outAll_true _ _ hb (.inr e)] at q2
      cases q2
  · obtain ⟨i, h1, h2, h3⟩ := relays_mem.1 hx2
    obtain ⟨j, rfl⟩ : ∃ j, i = j + 1 := ⟨i - 1, by omega⟩
    obtain ⟨q1, q2, _⟩ := open_has (hq.chain j (Nat.zero_le _) (by omega))
    have e : q.getD (j + 1) 0 = x := by rw [List.getD_eq_getElem?_getD, h3]; rfl
    rw [e, without_out] at q2
    have hxn : x < g.n := hlt x (by
      rw [List.mem_iff_getElem?]
      exact ⟨j, by rw [List.getElem?_drop, Nat.add_comm 1 j]; exact h3⟩)
    rw [outAll_true _ _ (by rw [ho]; exact hxn) (.inl hx)] at q2
    cases q2
  · have h3 := hq.chain 0 (Nat.le_refl _) (by omega)
    have hl := hq.last
    unfold lastN at hl
    rw [h2] at hl
    rw [hq.first, hl] at h3
    obtain ⟨_, _, _, _, q5⟩ := open_has h3
    exact q5 ⟨by rw [without_far, h1]; simp, rfl, rfl⟩
theorem pick_ex (hs : s < g.n) (ht : t < g.n) (hst : s ≠ t) {k : Nat} (h : k + 1 ≤ countG g s t (k + 1)) : ∃ p, pickG g s t k = some p ∧ k ≤ countG (g.without p) s t k := by
  obtain ⟨ps, h1, h2⟩ := (countG_iff hs ht hst (k + 1)).1 h
  obtain ⟨p, ps, rfl⟩ : ∃ p ps', ps = p :: ps' := by cases ps with | nil => simp at h2 | cons p ps' => exact ⟨p, ps', rfl⟩
  have hap := List.pairwise_cons.1 h1.apart
  have hp := h1.each p (by simp)
  have hd : Disj (g.without p) s t ps := ⟨fun q hq => hp.keep (h1.each q (by simp [hq])) (hap.1 q hq).1 (hap.1 q hq).2, hap.2⟩
  have hc : k ≤ countG (g.without p) s t k := (countG_iff (g := g.without p) hs ht hst k).2 ⟨ps, hd, by simpa using h2⟩
  have hsome : (pickG g s t k).isSome := by
    unfold pickG
    rw [List.find?_isSome]
    exact ⟨p, eachG_complete hs ht hp, by simpa using hc⟩
  obtain ⟨r, hr⟩ := Option.isSome_iff_exists.1 hsome
  refine ⟨r, hr, ?_⟩
  have := List.find?_some hr
  simpa using this
/-- So many paths are chosen, and they are apart. -/
theorem chooseL_full (hs : s < g.n) (ht : t < g.n) (hst : s ≠ t) : ∀ (k : Nat) (g' : PG), g'.n = g.n → g'.out.length = g'.n → k ≤ countG g' s t k → (chooseL s t k g').length = k ∧ Disj g' s t (chooseL s t k g')
  | 0, g', _, _, _ => ⟨rfl, by rw [chooseL]; simp, by rw [chooseL]; simp⟩
  | k + 1, g', hn, ho, h => by
    obtain ⟨p, h1, h2⟩ := pick_ex (g := g') (by rw [hn]; exact hs) (by rw [hn]; exact ht) hst h
    have hp := pickG_mem h1
    have e : chooseL s t (k + 1) g' = p :: chooseL s t k (g'.without p) := by rw [chooseL, h1]
    obtain ⟨h3, h4⟩ := chooseL_full hs ht hst k (g'.without p) hn (by rw [without_out, outAll_len']; exact ho) h2
    rw [e]
    refine ⟨by simp [h3], ⟨fun q hq => ?_, List.pairwise_cons.2 ⟨fun q hq => (PathG.lift ho hp (h4.each q hq)).2, h4.apart⟩⟩⟩
    rcases List.mem_cons.1 hq with rfl | hq
    · exact hp
    · exact (PathG.lift ho hp (h4.each q hq)).1
end
end Go.Proofs.YtblilfbhohnbgaaGreat
