/- Plain lemmas on worlds, slices and numbers that the walks of this seat use. Conditions: none beyond those in each statement. -/
import Derived.WalkKit
import Derived.WalkSpells
import Derived.WalkLawsBesides
import Derived.BigQuiet
import Derived.Handy
import Derived.Lib.Hide
import Derived.Lib.OthersKept
import Derived.Laws.RangeAny
namespace Go.Proofs.YtdgmjedkhjeadaaGreat
open Go.RowKit

/-- The slice value 'slice A n c' reads as the cells xs (sz cells an element), all in blocks below B. -/
def Rd (w : World) (B sz : Nat) (A : Option Addr) (n : Nat) (xs : List Value) : Prop :=
  xs.length = n * sz ∧ (0 < n → ∃ b off, A = some ⟨b, off, none⟩ ∧ b < B ∧ ∀ j u, xs[j]? = some u → w.cell? ⟨b, off + j, none⟩ = some u)

section
variable {w w' : World} {B B' sz n : Nat} {A : Option Addr} {xs : List Value}
theorem Rd.nil (w : World) (B sz : Nat) (A : Option Addr) : Rd w B sz A 0 [] := ⟨by simp, fun h => absurd h (by omega)⟩
theorem Rd.keep (h : Rd w B sz A n xs) (hk : ∀ b o, b < B → w'.cell? ⟨b, o, none⟩ = w.cell? ⟨b, o, none⟩) : Rd w' B sz A n xs :=
  ⟨h.1, fun hn => by
    obtain ⟨b, off, rfl, hb, hc⟩ := h.2 hn
    exact ⟨b, off, rfl, hb, fun j u hu => (hk b _ hb).trans (hc j u hu)⟩⟩
theorem Rd.mono (h : Rd w B sz A n xs) (hB : B ≤ B') : Rd w B' sz A n xs :=
  ⟨h.1, fun hn => by
    obtain ⟨b, off, rfl, hb, hc⟩ := h.2 hn
    exact ⟨b, off, rfl, by omega, hc⟩⟩
theorem Rd.below (h : Rd w B sz A n xs) (hb : Below B w w') : Rd w' B sz A n xs := h.keep fun b o hlt => hb.cell (p := ⟨b, o, none⟩) hlt
theorem Rd.drew (h : Rd w B sz A n xs) : Rd w.drew B sz A n xs := h
theorem Rd.drewN (h : Rd w B sz A n xs) (k : Nat) : Rd (w.drewN k) B sz A n xs := h
theorem Rd.alloc (h : Rd w B sz A n xs) (hB : B ≤ w.heap.size) (o : Obj) : Rd (w.alloc o) B sz A n xs :=
  h.keep fun b _ hlt => World.cell?_alloc_lt w o _ (by show b < _; omega)
theorem Rd.setCell (h : Rd w B sz A n xs) {p : Addr} (hp : B ≤ p.block) (u : Value) : Rd (w.setCell p u) B sz A n xs :=
  h.keep fun b o hlt => World.cell?_setCell_other w p _ u (fun e => by subst e; exact absurd hlt (by simp at hp; omega))
end
/-- A block that has just been made reads as its cells. -/
theorem Rd.new (w : World) (cs : Array Value) (t : TypeId) (sz n : Nat) (h : cs.size = n * sz) : Rd (w.alloc (.cells cs t)) (w.heap.size + 1) sz (some ⟨w.heap.size, 0, none⟩) n cs.toList :=
  ⟨by simpa using h, fun _ => ⟨w.heap.size, 0, rfl, by omega, fun j u hu => by
    have : (w.alloc (.cells cs t)).heap[w.heap.size]? = some (.cells cs t (0, 0)) := heap_alloc_new w _
    rw [cell_of_row _ _ _ _ _ _ this]
    simpa using hu⟩⟩
/-- The world has at most drawn. -/
def Qw (w w' : World) : Prop := ∃ d, w' = w.drewN d
theorem Qw.refl (w : World) : Qw w w := ⟨0, rfl⟩
theorem Qw.trans {a b c : World} (h : Qw a b) (k : Qw b c) : Qw a c := by
  obtain ⟨d, rfl⟩ := h; obtain ⟨e, rfl⟩ := k; exact ⟨d + e, by rw [World.drewN_drewN]⟩
theorem Qw.drewN {a b : World} (h : Qw a b) (k : Nat) : Qw a (b.drewN k) := h.trans ⟨k, rfl⟩
theorem Qw.drew {a b : World} (h : Qw a b) : Qw a b.drew := h.trans ⟨1, rfl⟩
theorem Qw.cell {w w' : World} (h : Qw w w') (a : Addr) : w'.cell? a = w.cell? a := by obtain ⟨d, rfl⟩ := h; rfl
theorem Qw.frozen {w w' : World} (h : Qw w w') (a : Addr) : w'.frozen? a = w.frozen? a := by obtain ⟨d, rfl⟩ := h; rfl
theorem Qw.heap {w w' : World} (h : Qw w w') : w'.heap = w.heap := by obtain ⟨d, rfl⟩ := h; rfl
theorem Qw.below {w w' : World} (h : Qw w w') (B : Nat) : Below B w w' := by
  obtain ⟨d, rfl⟩ := h; exact ⟨rfl, rfl, rfl, Nat.le_refl _, fun _ _ => rfl⟩
theorem Rd.q {w w' : World} {B sz n : Nat} {A : Option Addr} {xs : List Value} (h : Rd w B sz A n xs) (hq : Qw w w') : Rd w' B sz A n xs := h.keep fun _ _ _ => hq.cell _
theorem quiet_e {P : Program} {f : FuncId} {args : Array Value} {w : World} {n : Nat} {v : Value}
    (h : Calls P f args (w.drewN n) fun e w' => e = .returned v ∧ w.drewN n = w') : Calls P f args (w.drewN n) fun e w'' => e = .returned v ∧ ∃ m, w'' = w.drewN m :=
  h.mono fun _ _ ⟨he, hm⟩ => ⟨he, n, hm.symm⟩
theorem madeCells_one (z : Value) (n : Nat) : madeCells #[z] n = Array.replicate n z := by
  apply Array.ext
  · simp [madeCells]
  · intro i h1 h2
    simp [madeCells, Nat.mod_one]
/-- A row that the call owns reads as its cells. -/
theorem Rd.own {w : World} {base : Nat} {t : TypeId} {sz n c : Nat} {A : Option Addr} {xs : List Value} (h : w.ownsRow base t sz (.slice A n c) n xs) : Rd w w.heap.size sz A n xs := by
  refine ⟨h.1, fun hn => ?_⟩
  rcases h.2 with ⟨_, h0⟩ | ⟨g, cap, cur, hv, _, hg, _, _, _, htake⟩
  · omega
  · injection hv with hA _ _
    subst hA
    refine ⟨g, 0, rfl, (Array.getElem?_eq_some_iff.1 hg).1, fun j u hu => ?_⟩
    rw [← htake, List.getElem?_take] at hu
    split at hu
    · rw [Nat.zero_add, cell_of_row _ _ _ _ _ _ hg]; simpa using hu
    · cases hu
theorem own_form {w : World} {base : Nat} {t : TypeId} {sz n : Nat} {v : Value} {xs : List Value} (h : w.ownsRow base t sz v n xs) : ∃ A c, v = .slice A n c ∧ n ≤ c := by
  rcases h.2 with ⟨rfl, rfl⟩ | ⟨g, cap, cur, rfl, _, _, hc, _⟩
  · exact ⟨none, 0, rfl, Nat.le_refl _⟩
  · exact ⟨_, cap, rfl, hc⟩
/-- The call returns a new slice that reads as xs (and more results by 'mk'); what was there stays. -/
def RetOwn (w : World) (t sz n : Nat) (xs : List Value) (mk : Value → Value) (e : Ending) (w' : World) : Prop :=
  ∃ A c, e = .returned (mk (.slice A n c)) ∧ n ≤ c ∧ w'.ownsRow w.heap.size t sz (.slice A n c) n xs ∧ Below w.heap.size w w'
theorem RetOwn.of {w w' : World} {t sz n : Nat} {xs : List Value} {mk : Value → Value} {v : Value} (h : w'.ownsRow w.heap.size t sz v n xs) (hb : Below w.heap.size w w') : RetOwn w t sz n xs mk (.returned (mk v)) w' := by
  obtain ⟨A, c, rfl, hc⟩ := own_form h
  exact ⟨A, c, rfl, hc, h, hb⟩
theorem size_setCell (w : World) (a : Addr) (u : Value) : (w.setCell a u).heap.size = w.heap.size := by simp [World.setCell]
/-- A store into a row of which the first part has been filled. -/
theorem row_fill {wi : World} {h j m : Nat} {t : TypeId} {xs : List Value} {z u : Value} (hh : wi.heap[h]? = some (.cells (xs ++ List.replicate (m + 1) z).toArray t (0, 0))) (hx : xs.length = j) :
    (wi.setCell ⟨h, j, none⟩ u).heap[h]? = some (.cells ((xs ++ [u]) ++ List.replicate m z).toArray t (0, 0)) := by
  simp only [World.setCell, Array.getElem?_modify, hh, if_true, Option.map_some, Option.isSome_none, Bool.false_eq_true, if_false]
  congr 2
  apply Array.ext'
  subst hx
  simp [List.replicate_succ]
theorem i64_small (x : Nat) (h : x ≤ 1099511627776) : IntKind.i64.wrap (x : Int) = (x : Int) := IntWalk.i64_in _ ⟨by omega, by omega⟩
theorem addr_add (b off k : Nat) : (⟨b, off, none⟩ : Addr).add k = ⟨b, off + k, none⟩ := by
  unfold Addr.add; split
  · simp_all
  · rfl
theorem Rd.cut {w : World} {B sz n lo hi c : Nat} {A : Option Addr} {xs : List Value} (h : Rd w B sz A n xs) (hlo : lo ≤ hi) (hhi : hi ≤ n) (hc : n ≤ c) :
    Rd w B sz (if c = lo then A else A.map (·.add (lo * sz))) (hi - lo) ((xs.drop (lo * sz)).take ((hi - lo) * sz)) := by
  have h1 : hi * sz ≤ n * sz := Nat.mul_le_mul_right _ hhi
  refine ⟨by rw [List.length_take, List.length_drop, h.1, ← Nat.sub_mul]; exact Nat.min_eq_left (Nat.mul_le_mul_right _ (by omega)), fun hn => ?_⟩
  obtain ⟨b, off, rfl, hb, hcell⟩ := h.2 (by omega)
  rw [if_neg (by omega)]
  refine ⟨b, off + lo * sz, by simp [addr_add], hb, fun j u hu => ?_⟩
  rw [List.getElem?_take] at hu
  split at hu
  · rw [List.getElem?_drop] at hu
    rw [Nat.add_assoc]; exact hcell _ u hu
  · cases hu
theorem toNat_cast_eq {a : Int} (h : 0 ≤ a) : (a.toNat : Int) = a := Int.toNat_of_nonneg h
theorem ret_int {k : IntKind} {a b : Int} (h : a = b) : Ending.returned (.int k a) = .returned (.int k b) := by rw [h]
theorem ret_bool {a b : Bool} (h : a = b) : Ending.returned (.bool a) = .returned (.bool b) := by rw [h]
theorem take_snoc {α : Type} (l : List α) (k : Nat) (h : k < l.length) : l.take (k + 1) = l.take k ++ [l[k]] := by
  rw [List.take_succ_eq_append_getElem h]
end Go.Proofs.YtdgmjedkhjeadaaGreat
namespace Go.Proofs.YtdgmjedkhjeadaaGreat
set_option linter.unusedVariables false
/-- The content of a sector. -/
abbrev Sec := List Nat
/-- A disk: what is durable, what is fresh, the planned crash, whether it is down, its age. -/
structure Dk where
  dur : List Sec
  cch : List (Option Sec)
  plan : Option (Nat × List Nat)
  down : Bool
  age : Int
def SecOK (s : Sec) : Prop := s.length = 64 ∧ ∀ x ∈ s, x < 256
structure DkOK (d : Dk) : Prop where
  n2 : 2 ≤ d.dur.length
  n256 : d.dur.length ≤ 256
  len : d.cch.length = d.dur.length
  dur : ∀ s ∈ d.dur, SecOK s
  cch : ∀ s, some s ∈ d.cch → SecOK s
  keep : ∀ a k, d.plan = some (a, k) → k.length ≤ 256 ∧ (∀ x ∈ k, x ≤ 64) ∧ a ≤ 9223372036854775807
def zeroSec : Sec := List.replicate 64 0
def Dk.new (n : Nat) : Dk := ⟨List.replicate n zeroSec, List.replicate n none, none, false, 0⟩
/-- The newest content of a sector. -/
def Dk.newest (d : Dk) (i : Nat) : Sec := (d.cch.getD i none).getD (d.dur.getD i [])
/-- What is durable behind a crash: of the fresh sectors, from the first one on, so many bytes are kept. -/
def keepS : List Sec → List (Option Sec) → List Nat → List Sec
  | d :: ds, none :: cs, ks => d :: keepS ds cs ks
  | d :: ds, some s :: cs, k :: ks => (s.take k ++ d.drop k) :: keepS ds cs ks
  | d :: ds, some _ :: cs, [] => d :: keepS ds cs []
  | ds, _, _ => ds
/-- The crash. -/
def Dk.crash (d : Dk) (k : List Nat) : Dk := ⟨keepS d.dur d.cch k, List.replicate d.cch.length none, none, true, d.age + 1⟩
/-- An operation is counted: whether the disk crashes in it, and the disk behind it. -/
def Dk.tick (d : Dk) : Bool × Dk :=
  match d.plan with
  | none => (false, d)
  | some (0, k) => (true, d.crash k)
  | some (a + 1, k) => (false, { d with plan := some (a, k) })
def Dk.put (d : Dk) (i : Nat) (s : Sec) : Bool × Dk := Dk.tick { d with cch := d.cch.set i (some s) }
def syncS (ds : List Sec) (cs : List (Option Sec)) : List Sec := List.zipWith (fun d c => c.getD d) ds cs
def Dk.sync (d : Dk) : Bool × Dk :=
  match d.tick with
  | (true, d') => (true, d')
  | (false, d') => (false, { d' with dur := syncS d'.dur d'.cch, cch := List.replicate d'.cch.length none })
theorem keepS_length : ∀ (ds : List Sec) (cs : List (Option Sec)) (ks : List Nat), (keepS ds cs ks).length = ds.length
  | [], _, _ => by simp [keepS]
  | d :: ds, [], _ => by simp [keepS]
  | d :: ds, none :: cs, ks => by simp [keepS, keepS_length]
  | d :: ds, some s :: cs, [] => by simp [keepS, keepS_length]
  | d :: ds, some s :: cs, k :: ks => by simp [keepS, keepS_length]
theorem keepS_ok : ∀ (ds : List Sec) (cs : List (Option Sec)) (ks : List Nat), (∀ s ∈ ds, SecOK s) → (∀ s, some s ∈ cs → SecOK s) → ∀ s ∈ keepS ds cs ks, SecOK s
  | [], _, _, h, _ => by simp [keepS]
  | d :: ds, [], _, h, _ => by simpa [keepS] using h
  | d :: ds, none :: cs, ks, h, g => by
    have := keepS_ok ds cs ks (fun s hs => h s (by simp [hs])) (fun s hs => g s (by simp [hs]))
    intro s hs
    simp only [keepS, List.mem_cons] at hs
    rcases hs with rfl | hs
    · exact h _ (by simp)
    · exact this s hs
  | d :: ds, some s :: cs, [], h, g => by
    have := keepS_ok ds cs [] (fun s hs => h s (by simp [hs])) (fun s hs => g s (by simp [hs]))
    intro x hx
    simp only [keepS, List.mem_cons] at hx
    rcases hx with rfl | hx
    · exact h _ (by simp)
    · exact this x hx
  | d :: ds, some s :: cs, k :: ks, h, g => by
    have := keepS_ok ds cs ks (fun s hs => h s (by simp [hs])) (fun s hs => g s (by simp [hs]))
    intro x hx
    simp only [keepS, List.mem_cons] at hx
    rcases hx with rfl | hx
    · obtain ⟨h1, h2⟩ := h d (by simp)
      obtain ⟨g1, g2⟩ := g s (by simp)
      refine ⟨by simp [h1, g1]; omega, fun y hy => ?_⟩
      rcases List.mem_append.1 hy with hy | hy
      · exact g2 y (List.mem_of_mem_take hy)
      · exact h2 y (List.mem_of_mem_drop hy)
    · exact this x hx
theorem syncS_length (ds : List Sec) (cs : List (Option Sec)) (h : cs.length = ds.length) : (syncS ds cs).length = ds.length := by unfold syncS; simp [h]
theorem syncS_ok : ∀ (ds : List Sec) (cs : List (Option Sec)), (∀ s ∈ ds, SecOK s) → (∀ s, some s ∈ cs → SecOK s) → ∀ s ∈ syncS ds cs, SecOK s
  | [], _, _, _ => by simp [syncS]
  | d :: ds, [], _, _ => by simp [syncS]
  | d :: ds, c :: cs, h, g => by
    have := syncS_ok ds cs (fun s hs => h s (by simp [hs])) (fun s hs => g s (by simp [hs]))
    intro s hs
    simp only [syncS, List.zipWith_cons_cons, List.mem_cons] at hs
    rcases hs with rfl | hs
    · cases c with
      | none => exact h _ (by simp)
      | some c => exact g _ (by simp)
    · exact this s hs
theorem zeroSec_ok : SecOK zeroSec := ⟨by simp [zeroSec], fun x hx => by rw [List.eq_of_mem_replicate hx]; omega⟩
theorem none_mem {n : Nat} {s : Sec} (h : some s ∈ List.replicate n (none : Option Sec)) : False := by have := List.eq_of_mem_replicate h; cases this
theorem DkOK.new (n : Nat) (h2 : 2 ≤ n) (h : n ≤ 256) : DkOK (Dk.new n) :=
  ⟨by simpa [Dk.new] using h2, by simpa [Dk.new] using h, by simp [Dk.new], fun s hs => by rw [List.eq_of_mem_replicate hs]; exact zeroSec_ok, fun s hs => (none_mem hs).elim, fun a k e => by simp [Dk.new] at e⟩
theorem DkOK.crash {d : Dk} (h : DkOK d) (k : List Nat) : DkOK (d.crash k) :=
  ⟨by simpa [Dk.crash, keepS_length] using h.n2, by simpa [Dk.crash, keepS_length] using h.n256, by simpa [Dk.crash, keepS_length] using h.len, keepS_ok _ _ _ h.dur h.cch, fun s hs => (none_mem hs).elim, fun a k e => by simp [Dk.crash] at e⟩
theorem DkOK.tick {d : Dk} (h : DkOK d) : DkOK d.tick.2 := by
  unfold Dk.tick
  split
  · exact h
  · exact h.crash _
  · rename_i a k e
    exact ⟨h.n2, h.n256, h.len, h.dur, h.cch, fun a' k' e' => by cases e'; have := h.keep _ _ e; exact ⟨this.1, this.2.1, by omega⟩⟩
theorem DkOK.put {d : Dk} (h : DkOK d) (i : Nat) {s : Sec} (hs : SecOK s) : DkOK (d.put i s).2 := by
  refine DkOK.tick ⟨h.n2, h.n256, by simpa using h.len, h.dur, fun x hx => ?_, h.keep⟩
  rcases List.mem_or_eq_of_mem_set hx with hx | hx
  · exact h.cch _ hx
  · cases hx; exact hs
theorem DkOK.sync {d : Dk} (h : DkOK d) : DkOK d.sync.2 := by
  have ht := h.tick
  unfold Dk.sync
  split
  · rename_i d' e
    rw [e] at ht; exact ht
  · rename_i d' e
    rw [e] at ht
    exact ⟨by simpa [syncS_length _ _ ht.len] using ht.n2, by simpa [syncS_length _ _ ht.len] using ht.n256, by simpa [syncS_length _ _ ht.len] using ht.len, syncS_ok _ _ ht.dur ht.cch, fun s hs => (none_mem hs).elim, ht.keep⟩
/-- The fresh sectors from a place on. -/
def frK : List (Option Sec) → Nat → List Nat
  | [], _ => []
  | none :: cs, o => frK cs (o + 1)
  | some _ :: cs, o => o :: frK cs (o + 1)
/-- What is kept of a fresh sector. -/
def cutS (cs : List (Option Sec)) (ks : List Nat) (i j : Nat) (ds : List Sec) : List Sec :=
  if j < ks.length then ds.set i (((cs.getD i none).getD []).take (ks.getD j 0) ++ (ds.getD i []).drop (ks.getD j 0)) else ds
def crashD (cs : List (Option Sec)) (ks : List Nat) : List Nat → Nat → List Sec → List Sec
  | [], _, ds => ds
  | i :: is, j, ds => crashD cs ks is (j + 1) (cutS cs ks i j ds)
theorem crashD_none (cs : List (Option Sec)) (ks : List Nat) : ∀ (is : List Nat) (j : Nat) (ds : List Sec), ks.length ≤ j → crashD cs ks is j ds = ds
  | [], _, _, _ => rfl
  | i :: is, j, ds, h => by
    rw [crashD, cutS, if_neg (by omega)]
    exact crashD_none cs ks is (j + 1) ds (by omega)
theorem keepS_nil : ∀ (ds : List Sec) (cs : List (Option Sec)), keepS ds cs [] = ds
  | [], _ => by simp [keepS]
  | d :: ds, [] => by simp [keepS]
  | d :: ds, none :: cs => by simp [keepS, keepS_nil]
  | d :: ds, some s :: cs => by simp [keepS, keepS_nil]
theorem crashD_eq (ks : List Nat) : ∀ (cs : List (Option Sec)) (ds : List Sec) (cpre : List (Option Sec)) (pre : List Sec) (j : Nat), cs.length = ds.length → cpre.length = pre.length →
    crashD (cpre ++ cs) ks (frK cs pre.length) j (pre ++ ds) = pre ++ keepS ds cs (ks.drop j)
  | [], ds, cpre, pre, j, h, g => by
    obtain rfl : ds = [] := List.length_eq_zero_iff.1 h.symm
    simp [frK, crashD, keepS]
  | none :: cs, [], cpre, pre, j, h, g => by simp at h
  | some s :: cs, [], cpre, pre, j, h, g => by simp at h
  | none :: cs, d :: ds, cpre, pre, j, h, g => by
    have ih := crashD_eq ks cs ds (cpre ++ [none]) (pre ++ [d]) j (by simpa using h) (by simp [g])
    simp only [List.length_append, List.length_cons, List.length_nil, List.append_assoc, List.cons_append, List.nil_append] at ih
    rw [frK, keepS, ih]
  | some s :: cs, d :: ds, cpre, pre, j, h, g => by
    have h1 : (cpre ++ some s :: cs).getD pre.length none = some s := by rw [List.getD_eq_getElem?_getD, List.getElem?_append_right (by omega), ← g, Nat.sub_self]; rfl
    have h2 : (pre ++ d :: ds).getD pre.length [] = d := by rw [List.getD_eq_getElem?_getD, List.getElem?_append_right (Nat.le_refl _), Nat.sub_self]; rfl
    rw [frK, crashD, cutS, h1, h2]
    by_cases hj : j < ks.length
    · rw [if_pos hj, List.drop_eq_getElem_cons hj, keepS]
      have e : ks.getD j 0 = ks[j] := by rw [List.getD_eq_getElem?_getD, List.getElem?_eq_getElem hj]; rfl
      rw [e, Option.getD_some]
      have ih := crashD_eq ks cs ds (cpre ++ [some s]) (pre ++ [s.take ks[j] ++ d.drop ks[j]]) (j + 1) (by simpa using h) (by simp [g])
      simp only [List.length_append, List.length_cons, List.length_nil, List.append_assoc, List.cons_append, List.nil_append] at ih
      rw [List.set_append_right _ _ (Nat.le_refl _), Nat.sub_self, List.set_cons_zero, ih]
    · rw [if_neg hj, crashD_none _ _ _ _ _ (by omega), List.drop_eq_nil_of_le (by omega), keepS, keepS_nil]
theorem crashD_all (ks : List Nat) (cs : List (Option Sec)) (ds : List Sec) (h : cs.length = ds.length) : crashD cs ks (frK cs 0) 0 ds = keepS ds cs ks := by
  have := crashD_eq ks cs ds [] [] 0 h rfl
  simpa using this
theorem frK_mem : ∀ (cs : List (Option Sec)) (o i : Nat), i ∈ frK cs o ↔ o ≤ i ∧ i < o + cs.length ∧ (cs.getD (i - o) none).isSome = true
  | [], o, i => by simp [frK]
  | none :: cs, o, i => by
    rw [frK, frK_mem cs (o + 1) i]
    constructor
    · rintro ⟨h1, h2, h3⟩
      refine ⟨by omega, by simp; omega, ?_⟩
      rw [show i - o = (i - (o + 1)) + 1 by omega]; exact h3
    · rintro ⟨h1, h2, h3⟩
      have hne : i ≠ o := by rintro rfl; simp at h3
      simp at h2
      refine ⟨by omega, by omega, ?_⟩
      rw [show i - o = (i - (o + 1)) + 1 by omega] at h3; exact h3
  | some s :: cs, o, i => by
    rw [frK, List.mem_cons, frK_mem cs (o + 1) i]
    constructor
    · rintro (rfl | ⟨h1, h2, h3⟩)
      · exact ⟨Nat.le_refl _, by simp, by simp⟩
      · refine ⟨by omega, by simp; omega, ?_⟩
        rw [show i - o = (i - (o + 1)) + 1 by omega]; exact h3
    · rintro ⟨h1, h2, h3⟩
      by_cases hne : i = o
      · exact .inl hne
      · simp at h2
        refine .inr ⟨by omega, by omega, ?_⟩
        rw [show i - o = (i - (o + 1)) + 1 by omega] at h3; exact h3
theorem frK_sorted : ∀ (cs : List (Option Sec)) (o : Nat), (frK cs o).Pairwise (· < ·)
  | [], o => by simp [frK]
  | none :: cs, o => by rw [frK]; exact frK_sorted cs _
  | some s :: cs, o => by
    rw [frK, List.pairwise_cons]
    exact ⟨fun i hi => by have := (frK_mem cs (o + 1) i).1 hi; omega, frK_sorted cs _⟩
/-- Whatever the order in which the fresh sectors come: sorted they are one list. -/
theorem frK_perm {cs : List (Option Sec)} {l : List Int} (hn : l.Nodup) (hm : ∀ x : Int, x ∈ l ↔ ∃ i ∈ frK cs 0, x = (i : Int)) : l.mergeSort (fun x y => decide (x ≤ y)) = (frK cs 0).map (fun i : Nat => (i : Int)) := by
  have hp : l.Perm ((frK cs 0).map (fun i : Nat => (i : Int))) := by
    refine (List.perm_ext_iff_of_nodup hn ?_).2 fun x => ?_
    · refine List.Pairwise.map _ (fun a b h => ?_) (frK_sorted cs 0)
      intro e; have : a = b := by exact_mod_cast e
      omega
    · rw [hm x, List.mem_map]
      exact ⟨fun ⟨i, hi, e⟩ => ⟨i, hi, e.symm⟩, fun ⟨i, hi, e⟩ => ⟨i, hi, e.symm⟩⟩
  have hs : ((frK cs 0).map (fun i : Nat => (i : Int))).Pairwise (fun x y => x ≤ y) := List.Pairwise.map _ (fun a b h => by have : a < b := h; omega) (frK_sorted cs 0)
  refine List.Perm.eq_of_pairwise (le := fun x y : Int => x ≤ y) (fun a b _ _ h1 h2 => by omega) ?_ hs ((List.mergeSort_perm l _).trans hp)
  have := List.pairwise_mergeSort (le := fun x y : Int => decide (x ≤ y)) (fun a b c h1 h2 => by simp at *; omega) (fun a b => by simp; omega) l
  exact this.imp (fun h => by simpa using h)
open Go.RowKit
theorem slice_hd {P : Program} {t e : TypeId} {sz : Nat} (ht' : P.underlying t = some (.slice e)) (hz' : ∀ w, (sizeOf e).run P w = .ok sz w)
    {w : World} {B n : Nat} {A : Option Addr} {xs : List Value} (h : Rd w B sz A n xs) (E : Int) (hi c : Nat) (hE : E = (hi : Int)) (hhi : hi ≤ n) (hc : n ≤ c) :
    ∃ A2, (∀ w', (Instr.sliceAt t (.slice A n c) none (some (.int .i64 E)) none).run P w' = .ok (.slice A2 hi c) w') ∧ Rd w B sz A2 hi (xs.take (hi * sz)) := by
  subst hE
  have he : P.elem t = e := by simp [Program.elem, ht']
  have ht : P.underlying t = some (.slice (P.elem t)) := by rw [he]; exact ht'
  have hz : ∀ w, (sizeOf (P.elem t)).run P w = .ok sz w := by rw [he]; exact hz'
  have hr := h.cut (Nat.zero_le hi) hhi hc
  simp only [Nat.zero_mul, List.drop_zero, Nat.sub_zero] at hr
  refine ⟨_, fun w' => ?_, hr⟩
  rw [run_sliceAt_slice (h := ht), run_slice_h (ht := ht) (h0 := by omega) (h2 := by omega), hz]
  simp [Result.andThen, sliced]
theorem slice_tl {P : Program} {t e : TypeId} {sz : Nat} (ht' : P.underlying t = some (.slice e)) (hz' : ∀ w, (sizeOf e).run P w = .ok sz w)
    {w : World} {B n : Nat} {A : Option Addr} {xs : List Value} (h : Rd w B sz A n xs) (lo c : Nat) (hlo : lo ≤ n) (hc : n ≤ c) :
    ∃ A2, (∀ w', (Instr.sliceAt t (.slice A n c) (some (.int .i64 lo)) none none).run P w' = .ok (.slice A2 (n - lo) (c - lo)) w') ∧ Rd w B sz A2 (n - lo) ((xs.drop (lo * sz)).take ((n - lo) * sz)) := by
  have he : P.elem t = e := by simp [Program.elem, ht']
  have ht : P.underlying t = some (.slice (P.elem t)) := by rw [he]; exact ht'
  have hz : ∀ w, (sizeOf (P.elem t)).run P w = .ok sz w := by rw [he]; exact hz'
  refine ⟨_, fun w' => ?_, h.cut hlo (Nat.le_refl n) hc⟩
  rw [run_sliceAt_slice (h := ht), run_slice_l (ht := ht) (h0 := by omega) (h1 := by omega), hz]
  simp [Result.andThen, sliced]
/-- A number as so many bytes, the most significant one first. -/
def beB : Nat → Nat → List Nat
  | 0, _ => []
  | k + 1, n => beB k (n / 256) ++ [n % 256]
/-- The number of bytes. -/
def beV (l : List Nat) : Nat := l.foldl (fun n x => n * 256 + x) 0
theorem beB_length : ∀ k n, (beB k n).length = k
  | 0, _ => rfl
  | k + 1, n => by simp [beB, beB_length]
theorem beB_lt : ∀ k n, ∀ x ∈ beB k n, x < 256
  | 0, _ => by simp [beB]
  | k + 1, n => by
    intro x hx
    rcases List.mem_append.1 hx with hx | hx
    · exact beB_lt k _ x hx
    · rw [List.mem_singleton] at hx; omega
theorem beV_append (l : List Nat) (x : Nat) : beV (l ++ [x]) = beV l * 256 + x := by simp [beV]
theorem beV_lt : ∀ (l : List Nat), (∀ x ∈ l, x < 256) → beV l < 256 ^ l.length := by
  intro l
  induction h : l.length generalizing l with
  | zero => intro _; rw [List.length_eq_zero_iff.1 h]; simp [beV]
  | succ k ih =>
    intro hx
    rcases List.eq_nil_or_concat l with rfl | ⟨l, y, rfl⟩
    · simp at h
    · simp at h
      have hy := hx y (by simp)
      have := ih l h (fun x hx' => hx x (by simp [hx']))
      simp only [List.concat_eq_append]
      rw [beV_append, Nat.pow_succ]
      omega
/-- A record: kind 1 key, 2 more, 3 claim, 4 drop, 5 ready. -/
structure Rc where
  epoch : Nat
  kind : Nat
  id : Nat
  a : Nat
  b : Nat
  bits : List Nat
deriving DecidableEq
/-- The payload of a record. -/
def payR (r : Rc) : List Nat :=
  if r.kind = 2 then r.bits.take 46
  else if r.kind = 1 then beB 4 r.id ++ beB 2 r.a ++ r.bits.take 40
  else if r.kind = 3 then beB 4 r.id ++ beB 2 r.a ++ beB 2 r.b
  else if r.kind = 5 then beB 4 r.id ++ beB 1 r.a
  else beB 4 r.id
/-- The sector that bears a record. -/
def secR (r : Rc) (n : Nat) : Sec :=
  (beB 4 r.epoch ++ beB 4 n) ++ [r.kind % 256, (payR r).length] ++ (payR r ++ List.replicate (46 - (payR r).length) 0) ++ (beB 4 r.epoch ++ beB 4 n)
theorem payR_length (r : Rc) : (payR r).length ≤ 46 := by
  unfold payR
  split
  · simp; omega
  · split
    · simp [beB_length]; omega
    · split
      · simp [beB_length]
      · split <;> simp [beB_length]
theorem payR_lt (r : Rc) (h : ∀ x ∈ r.bits, x < 256) : ∀ x ∈ payR r, x < 256 := by
  intro x hx
  unfold payR at hx
  split at hx
  · exact h x (List.mem_of_mem_take hx)
  · split at hx
    · simp only [List.mem_append] at hx
      rcases hx with (hx | hx) | hx
      · exact beB_lt _ _ x hx
      · exact beB_lt _ _ x hx
      · exact h x (List.mem_of_mem_take hx)
    · split at hx
      · simp only [List.mem_append] at hx
        rcases hx with (hx | hx) | hx <;> exact beB_lt _ _ x hx
      · split at hx
        · simp only [List.mem_append] at hx
          rcases hx with hx | hx <;> exact beB_lt _ _ x hx
        · exact beB_lt _ _ x hx
theorem secR_ok (r : Rc) (n : Nat) (h : ∀ x ∈ r.bits, x < 256) : SecOK (secR r n) := by
  have hp := payR_length r
  refine ⟨by simp [secR, beB_length]; omega, fun x hx => ?_⟩
  simp only [secR, List.mem_append, List.mem_cons, List.not_mem_nil, or_false] at hx
  rcases hx with (((hx | hx) | (rfl | rfl)) | (hx | hx)) | (hx | hx)
  · exact beB_lt _ _ x hx
  · exact beB_lt _ _ x hx
  · omega
  · omega
  · exact payR_lt r h x hx
  · rw [List.eq_of_mem_replicate hx]; omega
  · exact beB_lt _ _ x hx
  · exact beB_lt _ _ x hx
end Go.Proofs.YtdgmjedkhjeadaaGreat
