/- Plain lemmas on worlds, slices and numbers that the walks of this seat use. Conditions: none beyond those in each statement. -/
import Derived.WalkKit
import Derived.WalkSpells
import Derived.WalkLawsBesides
import Derived.BigQuiet
import Derived.Handy
import Derived.Lib.Hide
import Derived.Lib.OthersKept
import Derived.Laws.RangeAny
namespace Go.Proofs.YtghjlbbalngdhaaGreatDoor
open Go.RowKit

/-- The slice value 'slice A n c' reads as the cells xs (sz cells an element), all in blocks below B. -/
def Rd (w : World) (B sz : Nat) (A : Option Addr) (n : Nat) (xs : List Value) : Prop :=
  xs.length = n * sz ∧ (0 < n → ∃ b off, A = some ⟨b, off, none⟩ ∧ b < B ∧ ∀ j u, xs[j]? = some u → w.cell? ⟨b, off + j, none⟩ = some u)

section
variable {w w' : World} {B B' sz n : Nat} {A : Option Addr} {xs : List Value}
theorem Rd.nil (w : World) (B sz : Nat) (A : Option Addr) : Rd w B sz A 0 [] := ⟨by simp, fun h => absurd h (by omega)⟩
theorem Rd.keep (h : Rd w B sz A n xs) (hk : ∀ b o, b < B → w'.cell? ⟨b, o, none⟩ = w.cell? ⟨b, o, none⟩) : Rd w' B sz A n xs :=
  ⟨h.1, fun hn => by
    obtain ⟨b, off, rfl, hb, hc⟩ := h.2 hn
    exact ⟨b, off, rfl, hb, fun j u hu => (hk b _ hb).trans (hc j u hu)⟩⟩
theorem Rd.mono (h : Rd w B sz A n xs) (hB : B ≤ B') : Rd w B' sz A n xs :=
  ⟨h.1, fun hn => by
    obtain ⟨b, off, rfl, hb, hc⟩ := h.2 hn
    exact ⟨b, off, rfl, by omega, hc⟩⟩
theorem Rd.below (h : Rd w B sz A n xs) (hb : Below B w w') : Rd w' B sz A n xs := h.keep fun b o hlt => hb.cell (p := ⟨b, o, none⟩) hlt
theorem Rd.drew (h : Rd w B sz A n xs) : Rd w.drew B sz A n xs := h
theorem Rd.drewN (h : Rd w B sz A n xs) (k : Nat) : Rd (w.drewN k) B sz A n xs := h
theorem Rd.alloc (h : Rd w B sz A n xs) (hB : B ≤ w.heap.size) (o : Obj) : Rd (w.alloc o) B sz A n xs :=
  h.keep fun b _ hlt => World.cell?_alloc_lt w o _ (by show b < _; omega)
theorem Rd.setCell (h : Rd w B sz A n xs) {p : Addr} (hp : B ≤ p.block) (u : Value) : Rd (w.setCell p u) B sz A n xs :=
  h.keep fun b o hlt => World.cell?_setCell_other w p _ u (fun e => by subst e; exact absurd hlt (by simp at hp; omega))
end
/-- A block that has just been made reads as its cells. -/
theorem Rd.new (w : World) (cs : Array Value) (t : TypeId) (sz n : Nat) (h : cs.size = n * sz) : Rd (w.alloc (.cells cs t)) (w.heap.size + 1) sz (some ⟨w.heap.size, 0, none⟩) n cs.toList :=
  ⟨by simpa using h, fun _ => ⟨w.heap.size, 0, rfl, by omega, fun j u hu => by
    have : (w.alloc (.cells cs t)).heap[w.heap.size]? = some (.cells cs t (0, 0)) := heap_alloc_new w _
    rw [cell_of_row _ _ _ _ _ _ this]
    simpa using hu⟩⟩
/-- The world has at most drawn. -/
def Qw (w w' : World) : Prop := ∃ d, w' = w.drewN d
theorem Qw.refl (w : World) : Qw w w := ⟨0, rfl⟩
theorem Qw.trans {a b c : World} (h : Qw a b) (k : Qw b c) : Qw a c := by
  obtain ⟨d, rfl⟩ := h; obtain ⟨e, rfl⟩ := k; exact ⟨d + e, by rw [World.drewN_drewN]⟩
theorem Qw.drewN {a b : World} (h : Qw a b) (k : Nat) : Qw a (b.drewN k) := h.trans ⟨k, rfl⟩
theorem Qw.drew {a b : World} (h : Qw a b) : Qw a b.drew := h.trans ⟨1, rfl⟩
theorem Qw.cell {w w' : World} (h : Qw w w') (a : Addr) : w'.cell? a = w.cell? a := by obtain ⟨d, rfl⟩ := h; rfl
theorem Qw.frozen {w w' : World} (h : Qw w w') (a : Addr) : w'.frozen? a = w.frozen? a := by obtain ⟨d, rfl⟩ := h; rfl
theorem Qw.heap {w w' : World} (h : Qw w w') : w'.heap = w.heap := by obtain ⟨d, rfl⟩ := h; rfl
theorem Qw.below {w w' : World} (h : Qw w w') (B : Nat) : Below B w w' := by
  obtain ⟨d, rfl⟩ := h; exact ⟨rfl, rfl, rfl, Nat.le_refl _, fun _ _ => rfl⟩
theorem Rd.q {w w' : World} {B sz n : Nat} {A : Option Addr} {xs : List Value} (h : Rd w B sz A n xs) (hq : Qw w w') : Rd w' B sz A n xs := h.keep fun _ _ _ => hq.cell _
theorem quiet_q {P : Program} {f : FuncId} {args : Array Value} {w : World} {n : Nat} {v : Value}
    (h : Calls P f args (w.drewN n) fun e w' => e = .returned v ∧ Qw (w.drewN n) w') : Calls P f args (w.drewN n) fun e w'' => e = .returned v ∧ ∃ m, w'' = w.drewN m :=
  h.mono fun _ _ ⟨he, hm⟩ => ⟨he, Qw.trans ⟨n, rfl⟩ hm⟩
theorem quiet_e {P : Program} {f : FuncId} {args : Array Value} {w : World} {n : Nat} {v : Value}
    (h : Calls P f args (w.drewN n) fun e w' => e = .returned v ∧ w.drewN n = w') : Calls P f args (w.drewN n) fun e w'' => e = .returned v ∧ ∃ m, w'' = w.drewN m :=
  h.mono fun _ _ ⟨he, hm⟩ => ⟨he, n, hm.symm⟩
theorem madeCells_one (z : Value) (n : Nat) : madeCells #[z] n = Array.replicate n z := by
  apply Array.ext
  · simp [madeCells]
  · intro i h1 h2
    simp [madeCells, Nat.mod_one]
/-- A row that the call owns reads as its cells. -/
theorem Rd.own {w : World} {base : Nat} {t : TypeId} {sz n c : Nat} {A : Option Addr} {xs : List Value} (h : w.ownsRow base t sz (.slice A n c) n xs) : Rd w w.heap.size sz A n xs := by
  refine ⟨h.1, fun hn => ?_⟩
  rcases h.2 with ⟨_, h0⟩ | ⟨g, cap, cur, hv, _, hg, _, _, _, htake⟩
  · omega
  · injection hv with hA _ _
    subst hA
    refine ⟨g, 0, rfl, (Array.getElem?_eq_some_iff.1 hg).1, fun j u hu => ?_⟩
    rw [← htake, List.getElem?_take] at hu
    split at hu
    · rw [Nat.zero_add, cell_of_row _ _ _ _ _ _ hg]; simpa using hu
    · cases hu
theorem own_form {w : World} {base : Nat} {t : TypeId} {sz n : Nat} {v : Value} {xs : List Value} (h : w.ownsRow base t sz v n xs) : ∃ A c, v = .slice A n c ∧ n ≤ c := by
  rcases h.2 with ⟨rfl, rfl⟩ | ⟨g, cap, cur, rfl, _, _, hc, _⟩
  · exact ⟨none, 0, rfl, Nat.le_refl _⟩
  · exact ⟨_, cap, rfl, hc⟩
/-- The call returns a new slice that reads as xs (and more results by 'mk'); what was there stays. -/
def RetOwn (w : World) (t sz n : Nat) (xs : List Value) (mk : Value → Value) (e : Ending) (w' : World) : Prop :=
  ∃ A c, e = .returned (mk (.slice A n c)) ∧ n ≤ c ∧ w'.ownsRow w.heap.size t sz (.slice A n c) n xs ∧ Below w.heap.size w w'
theorem RetOwn.of {w w' : World} {t sz n : Nat} {xs : List Value} {mk : Value → Value} {v : Value} (h : w'.ownsRow w.heap.size t sz v n xs) (hb : Below w.heap.size w w') : RetOwn w t sz n xs mk (.returned (mk v)) w' := by
  obtain ⟨A, c, rfl, hc⟩ := own_form h
  exact ⟨A, c, rfl, hc, h, hb⟩
theorem grown_iterAt (w : World) (k : Nat) (s : ByteArray) (p : Nat) : w.grownBy (w.iterAt k s p) (some k) :=
  ⟨rfl, rfl, rfl, by rw [Lib.iterAt_size]; exact Nat.le_refl _, fun j _ hj => Lib.iterAt_other w k j s p (fun e => hj (by rw [e]))⟩
theorem grown_set {wo wi : World} {h : Nat} (hg : wo.grownBy wi (some h)) (j : Nat) (u : Value) : wo.grownBy (wi.setCell ⟨h, j, none⟩ u) (some h) :=
  ⟨hg.os, hg.tape, hg.output, by simpa [World.setCell] using hg.size, fun k hk hne => (Below.heap_setCell _ _ _ _ (by simpa using hne)).trans (hg.block k hk hne)⟩
theorem grown_drewN {wo wi : World} {r : Option Nat} (hg : wo.grownBy wi r) (k : Nat) : wo.grownBy (wi.drewN k) r := ⟨hg.os, hg.tape, hg.output, hg.size, hg.block⟩
theorem size_setCell (w : World) (a : Addr) (u : Value) : (w.setCell a u).heap.size = w.heap.size := by simp [World.setCell]
theorem cell_set {w : World} {b o : Nat} {u v : Value} (h : w.cell? ⟨b, o, none⟩ = some v) : (w.setCell ⟨b, o, none⟩ u).cell? ⟨b, o, none⟩ = some u := by
  unfold World.cell? at h
  split at h
  · rename_i c t fz hb
    simp only [Option.isSome_none, Bool.false_eq_true, if_false] at h
    have hlt : o < c.size := (Array.getElem?_eq_some_iff.1 h).1
    simp only [World.cell?, World.setCell, Array.getElem?_modify, if_true, hb, Option.map_some, Option.isSome_none, Bool.false_eq_true, if_false]
    rw [Array.getElem?_setIfInBounds_self_of_lt hlt]
  · cases h
/-- A store into a row of which the first part has been filled. -/
theorem row_fill {wi : World} {h j m : Nat} {t : TypeId} {xs : List Value} {z u : Value} (hh : wi.heap[h]? = some (.cells (xs ++ List.replicate (m + 1) z).toArray t (0, 0))) (hx : xs.length = j) :
    (wi.setCell ⟨h, j, none⟩ u).heap[h]? = some (.cells ((xs ++ [u]) ++ List.replicate m z).toArray t (0, 0)) := by
  simp only [World.setCell, Array.getElem?_modify, hh, if_true, Option.map_some, Option.isSome_none, Bool.false_eq_true, if_false]
  congr 2
  apply Array.ext'
  subst hx
  simp [List.replicate_succ]
theorem i64_small (x : Nat) (h : x ≤ 1099511627776) : IntKind.i64.wrap (x : Int) = (x : Int) := IntWalk.i64_in _ ⟨by omega, by omega⟩
theorem i64_mul' (a b : Nat) (h : a * b ≤ 1099511627776) : IntKind.i64.wrap ((a : Int) * (b : Int)) = ((a * b : Nat) : Int) := by rw [← Int.natCast_mul]; exact i64_small _ h
theorem i64_mul1 (a b : Nat) (h : (a + 1) * b ≤ 1099511627776) : IntKind.i64.wrap (((a : Int) + 1) * (b : Int)) = (((a + 1) * b : Nat) : Int) := by
  rw [show ((a : Int) + 1) = ((a + 1 : Nat) : Int) from rfl]; exact i64_mul' _ _ h
theorem addr_add (b off k : Nat) : (⟨b, off, none⟩ : Addr).add k = ⟨b, off + k, none⟩ := by
  unfold Addr.add; split
  · simp_all
  · rfl
theorem Rd.cut {w : World} {B sz n lo hi c : Nat} {A : Option Addr} {xs : List Value} (h : Rd w B sz A n xs) (hlo : lo ≤ hi) (hhi : hi ≤ n) (hc : n ≤ c) :
    Rd w B sz (if c = lo then A else A.map (·.add (lo * sz))) (hi - lo) ((xs.drop (lo * sz)).take ((hi - lo) * sz)) := by
  have h1 : hi * sz ≤ n * sz := Nat.mul_le_mul_right _ hhi
  refine ⟨by rw [List.length_take, List.length_drop, h.1, ← Nat.sub_mul]; exact Nat.min_eq_left (Nat.mul_le_mul_right _ (by omega)), fun hn => ?_⟩
  obtain ⟨b, off, rfl, hb, hcell⟩ := h.2 (by omega)
  rw [if_neg (by omega)]
  refine ⟨b, off + lo * sz, by simp [addr_add], hb, fun j u hu => ?_⟩
  rw [List.getElem?_take] at hu
  split at hu
  · rw [List.getElem?_drop] at hu
    rw [Nat.add_assoc]; exact hcell _ u hu
  · cases hu
/-- A slice expression within the length: what it is, and what it reads as. -/
theorem slice_cut {P : Program} {t e : TypeId} {sz : Nat} (ht' : P.underlying t = some (.slice e)) (hz' : ∀ w, (sizeOf e).run P w = .ok sz w)
    {w : World} {B n : Nat} {A : Option Addr} {xs : List Value} (h : Rd w B sz A n xs) (lo hi c : Nat) (hlo : lo ≤ hi) (hhi : hi ≤ n) (hc : n ≤ c) :
    ∃ A2, (∀ w', (Instr.sliceAt t (.slice A n c) (some (.int .i64 lo)) (some (.int .i64 hi)) none).run P w' = .ok (.slice A2 (hi - lo) (c - lo)) w') ∧ Rd w B sz A2 (hi - lo) ((xs.drop (lo * sz)).take ((hi - lo) * sz)) := by
  have he : P.elem t = e := by simp [Program.elem, ht']
  have ht : P.underlying t = some (.slice (P.elem t)) := by rw [he]; exact ht'
  have hz : ∀ w, (sizeOf (P.elem t)).run P w = .ok sz w := by rw [he]; exact hz'
  refine ⟨_, fun w' => ?_, h.cut hlo hhi hc⟩
  rw [run_sliceAt_slice (h := ht), run_slice_lh (ht := ht) (h0 := by omega) (h1 := by omega) (h2 := by omega), hz]
  simp [Result.andThen, sliced]
theorem toNat_cast_eq {a : Int} (h : 0 ≤ a) : (a.toNat : Int) = a := Int.toNat_of_nonneg h
theorem ret_int {k : IntKind} {a b : Int} (h : a = b) : Ending.returned (.int k a) = .returned (.int k b) := by rw [h]
theorem ret_bool {a b : Bool} (h : a = b) : Ending.returned (.bool a) = .returned (.bool b) := by rw [h]
theorem take_snoc {α : Type} (l : List α) (k : Nat) (h : k < l.length) : l.take (k + 1) = l.take k ++ [l[k]] := by
  rw [List.take_succ_eq_append_getElem h]
end Go.Proofs.YtghjlbbalngdhaaGreatDoor
/- The graph of a network, plainly: what the program's search and enumeration of paths compute. No program is in sight. -/
namespace Go.Proofs.YtghjlbbalngdhaaGreatDoor
set_option linter.unusedVariables false
/-- A graph: how many nodes, which links, which nodes are not used, and whether the path without relays is not used. -/
structure PG where
  n : Nat
  adj : List (List Bool)
  out : List Bool
  far : Bool
  deriving DecidableEq
def PG.has (g : PG) (a b : Nat) : Bool := (g.adj.getD a []).getD b false
def PG.open (g : PG) (a b s t : Nat) : Bool := g.has a b && !g.out.getD b false && b != s && a != t && !(g.far && a == s && b == t)
/-- A place in the search: a node, and whether it was come to backwards. -/
abbrev Pl := Nat × Bool
structure BS where
  queue : List Pl
  came : List (Pl × Pl)
  deriving DecidableEq
def BS.seen (s : Nat) (S : BS) (x : Pl) : Bool := x == (s, true) || S.came.any fun c => c.1 == x
def BS.push (s : Nat) (S : BS) (at' x : Pl) : BS := if S.seen s x then S else ⟨S.queue ++ [x], S.came ++ [(x, at')]⟩
def freeN (s : Nat) (nx pv : List Int) (i : Nat) : Bool := i != s && decide (nx.getD i 0 < 0) && decide (pv.getD i 0 < 0)
def skipK (g : PG) (s t : Nat) (nx : List Int) (i k : Nat) : Bool := (i == s && k == t) || !g.open i k s t || decide (nx.getD i 0 = (k : Int))
/-- The steps forward from a place, to the first nodes. -/
def fwdS (g : PG) (s t : Nat) (nx : List Int) (at' : Pl) (S : BS) : Nat → BS
  | 0 => S
  | k + 1 => if skipK g s t nx at'.1 k then fwdS g s t nx at' S k else (fwdS g s t nx at' S k).push s at' (k, false)
def backB (s : Nat) (pv : List Int) (i : Nat) : Bool := i != s && decide (0 ≤ pv.getD i 0) && decide (pv.getD i 0 ≠ (s : Int))
def stepB (g : PG) (s t : Nat) (nx pv : List Int) (at' : Pl) (S : BS) : BS :=
  let S1 := if at'.2 || freeN s nx pv at'.1 then fwdS g s t nx at' S g.n else S
  if backB s pv at'.1 then S1.push s at' ((pv.getD at'.1 0).toNat, true) else S1
/-- The search: the end, and how each place was come to; none: there is no way. -/
def bfs (g : PG) (s t : Nat) (nx pv : List Int) : Nat → BS → Option (Pl × List (Pl × Pl))
  | 0, _ => none
  | f + 1, S => match S.queue with
    | [] => none
    | at' :: q => if at'.1 = t then some (at', S.came) else bfs g s t nx pv f (stepB g s t nx pv at' ⟨q, S.came⟩)
def wasOf (came : List (Pl × Pl)) (x : Pl) : Pl := ((came.find? fun c => c.1 == x).map (·.2)).getD (0, false)
/-- The way back: what is cut and what is added. -/
def backW (came : List (Pl × Pl)) (s : Nat) : Nat → Pl → List (Nat × Nat) × List (Nat × Nat)
  | 0, _ => ([], [])
  | f + 1, x => if x.1 = s then ([], []) else
    let w := wasOf came x
    let r := backW came s f w
    if x.2 then ((x.1, w.1) :: r.1, r.2) else (r.1, (w.1, x.1) :: r.2)
def cut1 (nx pv : List Int) (c : Nat × Nat) : List Int × List Int :=
  (if nx.getD c.1 0 = (c.2 : Int) then nx.set c.1 (-1) else nx, if pv.getD c.2 0 = (c.1 : Int) then pv.set c.2 (-1) else pv)
def cutAll : List Int → List Int → List (Nat × Nat) → List Int × List Int
  | nx, pv, [] => (nx, pv)
  | nx, pv, c :: l => cutAll (cut1 nx pv c).1 (cut1 nx pv c).2 l
def add1 (s : Nat) (nx pv : List Int) (c : Nat × Nat) : List Int × List Int :=
  (if c.1 ≠ s then nx.set c.1 (c.2 : Int) else nx, pv.set c.2 (c.1 : Int))
def addAll (s : Nat) : List Int → List Int → List (Nat × Nat) → List Int × List Int
  | nx, pv, [] => (nx, pv)
  | nx, pv, c :: l => addAll s (add1 s nx pv c).1 (add1 s nx pv c).2 l
def applyW (came : List (Pl × Pl)) (s : Nat) (nx pv : List Int) (x : Pl) : List Int × List Int :=
  let r := backW came s (came.length + 1) x
  let c := cutAll nx pv r.1
  addAll s c.1 c.2 r.2
/-- How often the search can go on at most. -/
def fuelB (n : Nat) : Nat := 4 * n + 8
def augment (g : PG) (s t : Nat) (nx pv : List Int) : Option (List Int × List Int) :=
  (bfs g s t nx pv (fuelB g.n) ⟨[(s, true)], []⟩).map fun r => applyW r.2 s nx pv r.1
/-- How many paths more are found, at most so many. -/
def more (g : PG) (s t : Nat) : Nat → List Int → List Int → Nat
  | 0, _, _ => 0
  | f + 1, nx, pv => match augment g s t nx pv with
    | none => 0
    | some r => more g s t f r.1 r.2 + 1
def countG (g : PG) (s t most : Nat) : Nat :=
  let z := if g.open s t s t && decide (0 < most) then 1 else 0
  z + more g s t (most - z) (List.replicate g.n (-1)) (List.replicate g.n (-1))
/-- One comparison in the table of distances. -/
def relax1 (g : PG) (s t a b : Nat) (d : List Nat) : List Nat := if g.open a b s t then d.set a (min (d.getD a 0) (d.getD b 0 + 1)) else d
def relaxB (g : PG) (s t a : Nat) (d : List Nat) : Nat → List Nat
  | 0 => d
  | b + 1 => relax1 g s t a b (relaxB g s t a d b)
def relaxA (g : PG) (s t : Nat) (d : List Nat) : Nat → List Nat
  | 0 => d
  | a + 1 => relaxB g s t a (relaxA g s t d a) g.n
def relaxN (g : PG) (s t : Nat) (d : List Nat) : Nat → List Nat
  | 0 => d
  | r + 1 => relaxA g s t (relaxN g s t d r) g.n
def distG (g : PG) (s t : Nat) : List Nat := relaxN g s t ((List.replicate g.n (g.n + 1)).set t 0) g.n
def lastN (p : List Nat) : Nat := p.getD (p.length - 1) 0
/-- All paths with so many further links, in their order. -/
def extG (g : PG) (s t : Nat) (d : List Nat) : Nat → List Nat → List (List Nat)
  | 0, p => if lastN p = t then [p] else []
  | l + 1, p => if lastN p = t ∨ l + 1 < d.getD (lastN p) 0 then [] else
    (List.range g.n).flatMap fun k => if !g.open (lastN p) k s t || p.contains k then [] else extG g s t d l (p ++ [k])
def eachG (g : PG) (s t : Nat) : List (List Nat) := (List.range (g.n - 1)).flatMap fun i => extG g s t (distG g s t) (i + 1) [s]
def outAll : List Bool → List Nat → List Bool
  | o, [] => o
  | o, i :: l => outAll (o.set i true) l
def PG.without (g : PG) (p : List Nat) : PG := { g with out := outAll g.out ((p.drop 1).take (p.length - 2)), far := g.far || p.length == 2 }
def pickG (g : PG) (s t left : Nat) : Option (List Nat) := (eachG g s t).find? fun p => decide (left ≤ countG (g.without p) s t left)
def chooseL (s t : Nat) : Nat → PG → List (List Nat)
  | 0, _ => []
  | left + 1, g => match pickG g s t left with
    | some p => p :: chooseL s t left (g.without p)
    | none => chooseL s t left g
def chooseG (g : PG) (s t k : Nat) : List (List Nat) := if countG g s t k < k then [] else chooseL s t k g
/-- The example of the chapter: a, b, c, d. -/
def exAdj (bits : Nat) : List (List Bool) :=
  [[false, decide (bits ≤ 100), decide (bits ≤ 100), decide (bits ≤ 20)], [decide (bits ≤ 100), false, false, decide (bits ≤ 100)],
   [decide (bits ≤ 100), false, false, decide (bits ≤ 100)], [decide (bits ≤ 20), decide (bits ≤ 100), decide (bits ≤ 100), false]]
def exG (bits : Nat) : PG := ⟨4, exAdj bits, [false, false, false, false], false⟩
theorem ex_route : chooseG (exG 50) 0 3 1 = [[0, 1, 3]] := by decide
theorem ex_most : countG (exG 10) 0 3 16 = 3 := by decide
end Go.Proofs.YtghjlbbalngdhaaGreatDoor
/- What the enumerated paths of a graph are. No program is in sight. -/
namespace Go.Proofs.YtghjlbbalngdhaaGreatDoor
set_option linter.unusedVariables false
theorem lastN_snoc (p : List Nat) (k : Nat) : lastN (p ++ [k]) = k := by
  unfold lastN
  rw [List.length_append, List.length_singleton, Nat.add_sub_cancel, List.getD_eq_getElem?_getD, List.getElem?_append_right (Nat.le_refl _)]
  simp
/-- Each step of a list from some place on is possible. -/
def ChainF (g : PG) (s t : Nat) (q : List Nat) (a : Nat) : Prop := ∀ i, a ≤ i → i + 1 < q.length → g.open (q.getD i 0) (q.getD (i + 1) 0) s t = true
theorem getD_app_left (p r : List Nat) {i : Nat} (h : i < p.length) : (p ++ r).getD i 0 = p.getD i 0 := by
  rw [List.getD_eq_getElem?_getD, List.getElem?_append_left h, ← List.getD_eq_getElem?_getD]
theorem extG_mem (g : PG) (s t : Nat) (d : List Nat) : ∀ (l : Nat) (p q : List Nat), p ≠ [] → q ∈ extG g s t d l p →
    ∃ r, q = p ++ r ∧ r.length = l ∧ lastN q = t ∧ (p.Nodup → q.Nodup) ∧ ChainF g s t q (p.length - 1) ∧ ∀ x ∈ r, x < g.n
  | 0, p, q, hp, h => by
    rw [extG] at h
    split at h
    · rename_i h1
      rw [List.mem_singleton] at h
      subst h
      refine ⟨[], by simp, rfl, h1, id, fun i h2 h3 => by omega, fun x hx => by simp at hx⟩
    · simp at h
  | l + 1, p, q, hp, h => by
    rw [extG] at h
    split at h
    · simp at h
    · rename_i h1
      rw [List.mem_flatMap] at h
      obtain ⟨k, hk, h⟩ := h
      rw [List.mem_range] at hk
      split at h
      · simp at h
      · rename_i h2
        rw [Bool.or_eq_true, not_or, Bool.not_eq_true', Bool.not_eq_false] at h2
        obtain ⟨h3, h4⟩ := h2
        have h4' : k ∉ p := by simpa using h4
        obtain ⟨r, rfl, h5, h6, h7, h8, h9⟩ := extG_mem g s t d l (p ++ [k]) q (by simp) h
        have hpl : 0 < p.length := by cases p with | nil => exact absurd rfl hp | cons a p => simp
        refine ⟨k :: r, by simp, by simp [h5], h6, fun hn => h7 ?_, fun i hi1 hi2 => ?_, fun x hx => ?_⟩
        · rw [List.nodup_append]
          refine ⟨hn, by simp, fun a ha b hb e => ?_⟩
          simp only [List.mem_singleton] at hb
          subst hb; subst e; exact h4' ha
        · rcases Nat.lt_or_ge (p.length - 1) i with h10 | h10
          · exact h8 i (by rw [List.length_append, List.length_singleton]; omega) hi2
          · have e : i = p.length - 1 := by omega
            subst e
            have e1 : (p ++ [k] ++ r).getD (p.length - 1) 0 = lastN p := by
              rw [List.append_assoc, getD_app_left _ _ (by omega)]; rfl
            have e2 : (p ++ [k] ++ r).getD (p.length - 1 + 1) 0 = k := by
              rw [show p.length - 1 + 1 = p.length by omega, getD_app_left _ _ (by simp), List.getD_eq_getElem?_getD, List.getElem?_append_right (Nat.le_refl _)]
              simp
            rw [e1, e2]; exact h3
        · rcases List.mem_cons.1 hx with rfl | hx
          · exact hk
          · exact h9 x hx
/-- What a path of a graph is. -/
structure PathG (g : PG) (s t : Nat) (p : List Nat) : Prop where
  len : 2 ≤ p.length
  first : p.getD 0 0 = s
  last : lastN p = t
  nodup : p.Nodup
  chain : ChainF g s t p 0
  lt : ∀ x ∈ p.drop 1, x < g.n
theorem eachG_mem {g : PG} {s t : Nat} {p : List Nat} (h : p ∈ eachG g s t) : PathG g s t p := by
  unfold eachG at h
  rw [List.mem_flatMap] at h
  obtain ⟨i, hi, h⟩ := h
  obtain ⟨r, rfl, h1, h2, h3, h4, h5⟩ := extG_mem g s t _ (i + 1) [s] p (by simp) h
  exact ⟨by simp; omega, rfl, h2, h3 (by simp), h4, fun x hx => h5 x (by simpa using hx)⟩
theorem pickG_mem {g : PG} {s t left : Nat} {p : List Nat} (h : pickG g s t left = some p) : PathG g s t p := eachG_mem (List.mem_of_find?_eq_some h)
theorem open_has {g : PG} {a b s t : Nat} (h : g.open a b s t = true) : g.has a b = true ∧ g.out.getD b false = false ∧ b ≠ s ∧ a ≠ t ∧ ¬(g.far = true ∧ a = s ∧ b = t) := by
  unfold PG.open at h
  simp only [Bool.and_eq_true, Bool.not_eq_true', bne_iff_ne, ne_eq, Bool.and_eq_false_imp, beq_eq_false_iff_ne, beq_iff_eq] at h
  obtain ⟨⟨⟨⟨h1, h2⟩, h3⟩, h4⟩, h5⟩ := h
  refine ⟨h1, h2, h3, h4, fun ⟨a1, a2, a3⟩ => ?_⟩
  exact h5 ⟨a1, a2⟩ a3
#print axioms eachG_mem
end Go.Proofs.YtghjlbbalngdhaaGreatDoor
/- Slice expressions without a lower, or an upper bound. Conditions: as each statement says. -/
namespace Go.Proofs.YtghjlbbalngdhaaGreatDoor
open Go.RowKit
theorem slice_hd {P : Program} {t e : TypeId} {sz : Nat} (ht' : P.underlying t = some (.slice e)) (hz' : ∀ w, (sizeOf e).run P w = .ok sz w)
    {w : World} {B n : Nat} {A : Option Addr} {xs : List Value} (h : Rd w B sz A n xs) (E : Int) (hi c : Nat) (hE : E = (hi : Int)) (hhi : hi ≤ n) (hc : n ≤ c) :
    ∃ A2, (∀ w', (Instr.sliceAt t (.slice A n c) none (some (.int .i64 E)) none).run P w' = .ok (.slice A2 hi c) w') ∧ Rd w B sz A2 hi (xs.take (hi * sz)) := by
  subst hE
  have he : P.elem t = e := by simp [Program.elem, ht']
  have ht : P.underlying t = some (.slice (P.elem t)) := by rw [he]; exact ht'
  have hz : ∀ w, (sizeOf (P.elem t)).run P w = .ok sz w := by rw [he]; exact hz'
  have hr := h.cut (Nat.zero_le hi) hhi hc
  simp only [Nat.zero_mul, List.drop_zero, Nat.sub_zero] at hr
  refine ⟨_, fun w' => ?_, hr⟩
  rw [run_sliceAt_slice (h := ht), run_slice_h (ht := ht) (h0 := by omega) (h2 := by omega), hz]
  simp [Result.andThen, sliced]
theorem slice_tl {P : Program} {t e : TypeId} {sz : Nat} (ht' : P.underlying t = some (.slice e)) (hz' : ∀ w, (sizeOf e).run P w = .ok sz w)
    {w : World} {B n : Nat} {A : Option Addr} {xs : List Value} (h : Rd w B sz A n xs) (lo c : Nat) (hlo : lo ≤ n) (hc : n ≤ c) :
    ∃ A2, (∀ w', (Instr.sliceAt t (.slice A n c) (some (.int .i64 lo)) none none).run P w' = .ok (.slice A2 (n - lo) (c - lo)) w') ∧ Rd w B sz A2 (n - lo) ((xs.drop (lo * sz)).take ((n - lo) * sz)) := by
  have he : P.elem t = e := by simp [Program.elem, ht']
  have ht : P.underlying t = some (.slice (P.elem t)) := by rw [he]; exact ht'
  have hz : ∀ w, (sizeOf (P.elem t)).run P w = .ok sz w := by rw [he]; exact hz'
  refine ⟨_, fun w' => ?_, h.cut hlo (Nat.le_refl n) hc⟩
  rw [run_sliceAt_slice (h := ht), run_slice_l (ht := ht) (h0 := by omega) (h1 := by omega), hz]
  simp [Result.andThen, sliced]
end Go.Proofs.YtghjlbbalngdhaaGreatDoor
