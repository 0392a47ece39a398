/- Plain lemmas on worlds, slices and numbers that the walks of this seat use. Conditions: none beyond those in each statement. -/
import Derived.WalkKit
import Derived.WalkSpells
import Derived.WalkLawsBesides
import Derived.BigQuiet
import Derived.Handy
import Derived.Lib.Hide
import Derived.Lib.OthersKept
import Derived.Laws.RangeAny
namespace Go.Proofs.Ytncjmndiafgaaaa
open Go.RowKit

/-- The slice value 'slice A n c' reads as the cells xs (sz cells an element), all in blocks below B. -/
def Rd (w : World) (B sz : Nat) (A : Option Addr) (n : Nat) (xs : List Value) : Prop :=
  xs.length = n * sz ∧ (0 < n → ∃ b off, A = some ⟨b, off, none⟩ ∧ b < B ∧ ∀ j u, xs[j]? = some u → w.cell? ⟨b, off + j, none⟩ = some u)

section
variable {w w' : World} {B B' sz n : Nat} {A : Option Addr} {xs : List Value}
theorem Rd.nil (w : World) (B sz : Nat) (A : Option Addr) : Rd w B sz A 0 [] := ⟨by simp, fun h => absurd h (by omega)⟩
theorem Rd.keep (h : Rd w B sz A n xs) (hk : ∀ b o, b < B → w'.cell? ⟨b, o, none⟩ = w.cell? ⟨b, o, none⟩) : Rd w' B sz A n xs :=
  ⟨h.1, fun hn => by
    obtain ⟨b, off, rfl, hb, hc⟩ := h.2 hn
    exact ⟨b, off, rfl, hb, fun j u hu => (hk b _ hb).trans (hc j u hu)⟩⟩
theorem Rd.mono (h : Rd w B sz A n xs) (hB : B ≤ B') : Rd w B' sz A n xs :=
  ⟨h.1, fun hn => by
    obtain ⟨b, off, rfl, hb, hc⟩ := h.2 hn
    exact ⟨b, off, rfl, by omega, hc⟩⟩
theorem Rd.below (h : Rd w B sz A n xs) (hb : Below B w w') : Rd w' B sz A n xs := h.keep fun b o hlt => hb.cell (p := ⟨b, o, none⟩) hlt
theorem Rd.drew (h : Rd w B sz A n xs) : Rd w.drew B sz A n xs := h
theorem Rd.drewN (h : Rd w B sz A n xs) (k : Nat) : Rd (w.drewN k) B sz A n xs := h
theorem Rd.alloc (h : Rd w B sz A n xs) (hB : B ≤ w.heap.size) (o : Obj) : Rd (w.alloc o) B sz A n xs :=
  h.keep fun b _ hlt => World.cell?_alloc_lt w o _ (by show b < _; omega)
theorem Rd.setCell (h : Rd w B sz A n xs) {p : Addr} (hp : B ≤ p.block) (u : Value) : Rd (w.setCell p u) B sz A n xs :=
  h.keep fun b o hlt => World.cell?_setCell_other w p _ u (fun e => by subst e; exact absurd hlt (by simp at hp; omega))
end
/-- A block that has just been made reads as its cells. -/
theorem Rd.new (w : World) (cs : Array Value) (t : TypeId) (sz n : Nat) (h : cs.size = n * sz) : Rd (w.alloc (.cells cs t)) (w.heap.size + 1) sz (some ⟨w.heap.size, 0, none⟩) n cs.toList :=
  ⟨by simpa using h, fun _ => ⟨w.heap.size, 0, rfl, by omega, fun j u hu => by
    have : (w.alloc (.cells cs t)).heap[w.heap.size]? = some (.cells cs t (0, 0)) := heap_alloc_new w _
    rw [cell_of_row _ _ _ _ _ _ this]
    simpa using hu⟩⟩
/-- The world has at most drawn. -/
def Qw (w w' : World) : Prop := ∃ d, w' = w.drewN d
theorem Qw.refl (w : World) : Qw w w := ⟨0, rfl⟩
theorem Qw.trans {a b c : World} (h : Qw a b) (k : Qw b c) : Qw a c := by
  obtain ⟨d, rfl⟩ := h; obtain ⟨e, rfl⟩ := k; exact ⟨d + e, by rw [World.drewN_drewN]⟩
theorem Qw.drewN {a b : World} (h : Qw a b) (k : Nat) : Qw a (b.drewN k) := h.trans ⟨k, rfl⟩
theorem Qw.drew {a b : World} (h : Qw a b) : Qw a b.drew := h.trans ⟨1, rfl⟩
theorem Qw.cell {w w' : World} (h : Qw w w') (a : Addr) : w'.cell? a = w.cell? a := by obtain ⟨d, rfl⟩ := h; rfl
theorem Qw.frozen {w w' : World} (h : Qw w w') (a : Addr) : w'.frozen? a = w.frozen? a := by obtain ⟨d, rfl⟩ := h; rfl
theorem Qw.heap {w w' : World} (h : Qw w w') : w'.heap = w.heap := by obtain ⟨d, rfl⟩ := h; rfl
theorem Qw.below {w w' : World} (h : Qw w w') (B : Nat) : Below B w w' := by
  obtain ⟨d, rfl⟩ := h; exact ⟨rfl, rfl, rfl, Nat.le_refl _, fun _ _ => rfl⟩
theorem Rd.q {w w' : World} {B sz n : Nat} {A : Option Addr} {xs : List Value} (h : Rd w B sz A n xs) (hq : Qw w w') : Rd w' B sz A n xs := h.keep fun _ _ _ => hq.cell _
theorem quiet_q {P : Program} {f : FuncId} {args : Array Value} {w : World} {n : Nat} {v : Value}
    (h : Calls P f args (w.drewN n) fun e w' => e = .returned v ∧ Qw (w.drewN n) w') : Calls P f args (w.drewN n) fun e w'' => e = .returned v ∧ ∃ m, w'' = w.drewN m :=
  h.mono fun _ _ ⟨he, hm⟩ => ⟨he, Qw.trans ⟨n, rfl⟩ hm⟩
theorem quiet_e {P : Program} {f : FuncId} {args : Array Value} {w : World} {n : Nat} {v : Value}
    (h : Calls P f args (w.drewN n) fun e w' => e = .returned v ∧ w.drewN n = w') : Calls P f args (w.drewN n) fun e w'' => e = .returned v ∧ ∃ m, w'' = w.drewN m :=
  h.mono fun _ _ ⟨he, hm⟩ => ⟨he, n, hm.symm⟩
theorem madeCells_one (z : Value) (n : Nat) : madeCells #[z] n = Array.replicate n z := by
  apply Array.ext
  · simp [madeCells]
  · intro i h1 h2
    simp [madeCells, Nat.mod_one]
/-- A row that the call owns reads as its cells. -/
theorem Rd.own {w : World} {base : Nat} {t : TypeId} {sz n c : Nat} {A : Option Addr} {xs : List Value} (h : w.ownsRow base t sz (.slice A n c) n xs) : Rd w w.heap.size sz A n xs := by
  refine ⟨h.1, fun hn => ?_⟩
  rcases h.2 with ⟨_, h0⟩ | ⟨g, cap, cur, hv, _, hg, _, _, _, htake⟩
  · omega
  · injection hv with hA _ _
    subst hA
    refine ⟨g, 0, rfl, (Array.getElem?_eq_some_iff.1 hg).1, fun j u hu => ?_⟩
    rw [← htake, List.getElem?_take] at hu
    split at hu
    · rw [Nat.zero_add, cell_of_row _ _ _ _ _ _ hg]; simpa using hu
    · cases hu
theorem own_form {w : World} {base : Nat} {t : TypeId} {sz n : Nat} {v : Value} {xs : List Value} (h : w.ownsRow base t sz v n xs) : ∃ A c, v = .slice A n c ∧ n ≤ c := by
  rcases h.2 with ⟨rfl, rfl⟩ | ⟨g, cap, cur, rfl, _, _, hc, _⟩
  · exact ⟨none, 0, rfl, Nat.le_refl _⟩
  · exact ⟨_, cap, rfl, hc⟩
/-- The call returns a new slice that reads as xs (and more results by 'mk'); what was there stays. -/
def RetOwn (w : World) (t sz n : Nat) (xs : List Value) (mk : Value → Value) (e : Ending) (w' : World) : Prop :=
  ∃ A c, e = .returned (mk (.slice A n c)) ∧ n ≤ c ∧ w'.ownsRow w.heap.size t sz (.slice A n c) n xs ∧ Below w.heap.size w w'
theorem RetOwn.of {w w' : World} {t sz n : Nat} {xs : List Value} {mk : Value → Value} {v : Value} (h : w'.ownsRow w.heap.size t sz v n xs) (hb : Below w.heap.size w w') : RetOwn w t sz n xs mk (.returned (mk v)) w' := by
  obtain ⟨A, c, rfl, hc⟩ := own_form h
  exact ⟨A, c, rfl, hc, h, hb⟩
theorem grown_iterAt (w : World) (k : Nat) (s : ByteArray) (p : Nat) : w.grownBy (w.iterAt k s p) (some k) :=
  ⟨rfl, rfl, rfl, by rw [Lib.iterAt_size]; exact Nat.le_refl _, fun j _ hj => Lib.iterAt_other w k j s p (fun e => hj (by rw [e]))⟩
theorem grown_set {wo wi : World} {h : Nat} (hg : wo.grownBy wi (some h)) (j : Nat) (u : Value) : wo.grownBy (wi.setCell ⟨h, j, none⟩ u) (some h) :=
  ⟨hg.os, hg.tape, hg.output, by simpa [World.setCell] using hg.size, fun k hk hne => (Below.heap_setCell _ _ _ _ (by simpa using hne)).trans (hg.block k hk hne)⟩
theorem grown_drewN {wo wi : World} {r : Option Nat} (hg : wo.grownBy wi r) (k : Nat) : wo.grownBy (wi.drewN k) r := ⟨hg.os, hg.tape, hg.output, hg.size, hg.block⟩
theorem size_setCell (w : World) (a : Addr) (u : Value) : (w.setCell a u).heap.size = w.heap.size := by simp [World.setCell]
theorem cell_set {w : World} {b o : Nat} {u v : Value} (h : w.cell? ⟨b, o, none⟩ = some v) : (w.setCell ⟨b, o, none⟩ u).cell? ⟨b, o, none⟩ = some u := by
  unfold World.cell? at h
  split at h
  · rename_i c t fz hb
    simp only [Option.isSome_none, Bool.false_eq_true, if_false] at h
    have hlt : o < c.size := (Array.getElem?_eq_some_iff.1 h).1
    simp only [World.cell?, World.setCell, Array.getElem?_modify, if_true, hb, Option.map_some, Option.isSome_none, Bool.false_eq_true, if_false]
    rw [Array.getElem?_setIfInBounds_self_of_lt hlt]
  · cases h
/-- A store into a row of which the first part has been filled. -/
theorem row_fill {wi : World} {h j m : Nat} {t : TypeId} {xs : List Value} {z u : Value} (hh : wi.heap[h]? = some (.cells (xs ++ List.replicate (m + 1) z).toArray t (0, 0))) (hx : xs.length = j) :
    (wi.setCell ⟨h, j, none⟩ u).heap[h]? = some (.cells ((xs ++ [u]) ++ List.replicate m z).toArray t (0, 0)) := by
  simp only [World.setCell, Array.getElem?_modify, hh, if_true, Option.map_some, Option.isSome_none, Bool.false_eq_true, if_false]
  congr 2
  apply Array.ext'
  subst hx
  simp [List.replicate_succ]
theorem i64_small (x : Nat) (h : x ≤ 1099511627776) : IntKind.i64.wrap (x : Int) = (x : Int) := IntWalk.i64_in _ ⟨by omega, by omega⟩
theorem i64_mul' (a b : Nat) (h : a * b ≤ 1099511627776) : IntKind.i64.wrap ((a : Int) * (b : Int)) = ((a * b : Nat) : Int) := by rw [← Int.natCast_mul]; exact i64_small _ h
theorem i64_mul1 (a b : Nat) (h : (a + 1) * b ≤ 1099511627776) : IntKind.i64.wrap (((a : Int) + 1) * (b : Int)) = (((a + 1) * b : Nat) : Int) := by
  rw [show ((a : Int) + 1) = ((a + 1 : Nat) : Int) from rfl]; exact i64_mul' _ _ h
theorem addr_add (b off k : Nat) : (⟨b, off, none⟩ : Addr).add k = ⟨b, off + k, none⟩ := by
  unfold Addr.add; split
  · simp_all
  · rfl
theorem Rd.cut {w : World} {B sz n lo hi c : Nat} {A : Option Addr} {xs : List Value} (h : Rd w B sz A n xs) (hlo : lo ≤ hi) (hhi : hi ≤ n) (hc : n ≤ c) :
    Rd w B sz (if c = lo then A else A.map (·.add (lo * sz))) (hi - lo) ((xs.drop (lo * sz)).take ((hi - lo) * sz)) := by
  have h1 : hi * sz ≤ n * sz := Nat.mul_le_mul_right _ hhi
  refine ⟨by rw [List.length_take, List.length_drop, h.1, ← Nat.sub_mul]; exact Nat.min_eq_left (Nat.mul_le_mul_right _ (by omega)), fun hn => ?_⟩
  obtain ⟨b, off, rfl, hb, hcell⟩ := h.2 (by omega)
  rw [if_neg (by omega)]
  refine ⟨b, off + lo * sz, by simp [addr_add], hb, fun j u hu => ?_⟩
  rw [List.getElem?_take] at hu
  split at hu
  · rw [List.getElem?_drop] at hu
    rw [Nat.add_assoc]; exact hcell _ u hu
  · cases hu
/-- A slice expression within the length: what it is, and what it reads as. -/
theorem slice_cut {P : Program} {t e : TypeId} {sz : Nat} (ht' : P.underlying t = some (.slice e)) (hz' : ∀ w, (sizeOf e).run P w = .ok sz w)
    {w : World} {B n : Nat} {A : Option Addr} {xs : List Value} (h : Rd w B sz A n xs) (lo hi c : Nat) (hlo : lo ≤ hi) (hhi : hi ≤ n) (hc : n ≤ c) :
    ∃ A2, (∀ w', (Instr.sliceAt t (.slice A n c) (some (.int .i64 lo)) (some (.int .i64 hi)) none).run P w' = .ok (.slice A2 (hi - lo) (c - lo)) w') ∧ Rd w B sz A2 (hi - lo) ((xs.drop (lo * sz)).take ((hi - lo) * sz)) := by
  have he : P.elem t = e := by simp [Program.elem, ht']
  have ht : P.underlying t = some (.slice (P.elem t)) := by rw [he]; exact ht'
  have hz : ∀ w, (sizeOf (P.elem t)).run P w = .ok sz w := by rw [he]; exact hz'
  refine ⟨_, fun w' => ?_, h.cut hlo hhi hc⟩
  rw [run_sliceAt_slice (h := ht), run_slice_lh (ht := ht) (h0 := by omega) (h1 := by omega) (h2 := by omega), hz]
  simp [Result.andThen, sliced]
theorem toNat_cast_eq {a : Int} (h : 0 ≤ a) : (a.toNat : Int) = a := Int.toNat_of_nonneg h
theorem ret_int {k : IntKind} {a b : Int} (h : a = b) : Ending.returned (.int k a) = .returned (.int k b) := by rw [h]
theorem ret_bool {a b : Bool} (h : a = b) : Ending.returned (.bool a) = .returned (.bool b) := by rw [h]
theorem take_snoc {α : Type} (l : List α) (k : Nat) (h : k < l.length) : l.take (k + 1) = l.take k ++ [l[k]] := by
  rw [List.take_succ_eq_append_getElem h]
end Go.Proofs.Ytncjmndiafgaaaa
/- Slice expressions without a lower, or an upper bound. Conditions: as each statement says. -/
namespace Go.Proofs.Ytncjmndiafgaaaa
open Go.RowKit
theorem slice_hd {P : Program} {t e : TypeId} {sz : Nat} (ht' : P.underlying t = some (.slice e)) (hz' : ∀ w, (sizeOf e).run P w = .ok sz w)
    {w : World} {B n : Nat} {A : Option Addr} {xs : List Value} (h : Rd w B sz A n xs) (E : Int) (hi c : Nat) (hE : E = (hi : Int)) (hhi : hi ≤ n) (hc : n ≤ c) :
    ∃ A2, (∀ w', (Instr.sliceAt t (.slice A n c) none (some (.int .i64 E)) none).run P w' = .ok (.slice A2 hi c) w') ∧ Rd w B sz A2 hi (xs.take (hi * sz)) := by
  subst hE
  have he : P.elem t = e := by simp [Program.elem, ht']
  have ht : P.underlying t = some (.slice (P.elem t)) := by rw [he]; exact ht'
  have hz : ∀ w, (sizeOf (P.elem t)).run P w = .ok sz w := by rw [he]; exact hz'
  have hr := h.cut (Nat.zero_le hi) hhi hc
  simp only [Nat.zero_mul, List.drop_zero, Nat.sub_zero] at hr
  refine ⟨_, fun w' => ?_, hr⟩
  rw [run_sliceAt_slice (h := ht), run_slice_h (ht := ht) (h0 := by omega) (h2 := by omega), hz]
  simp [Result.andThen, sliced]
theorem slice_tl {P : Program} {t e : TypeId} {sz : Nat} (ht' : P.underlying t = some (.slice e)) (hz' : ∀ w, (sizeOf e).run P w = .ok sz w)
    {w : World} {B n : Nat} {A : Option Addr} {xs : List Value} (h : Rd w B sz A n xs) (lo c : Nat) (hlo : lo ≤ n) (hc : n ≤ c) :
    ∃ A2, (∀ w', (Instr.sliceAt t (.slice A n c) (some (.int .i64 lo)) none none).run P w' = .ok (.slice A2 (n - lo) (c - lo)) w') ∧ Rd w B sz A2 (n - lo) ((xs.drop (lo * sz)).take ((n - lo) * sz)) := by
  have he : P.elem t = e := by simp [Program.elem, ht']
  have ht : P.underlying t = some (.slice (P.elem t)) := by rw [he]; exact ht'
  have hz : ∀ w, (sizeOf (P.elem t)).run P w = .ok sz w := by rw [he]; exact hz'
  refine ⟨_, fun w' => ?_, h.cut hlo (Nat.le_refl n) hc⟩
  rw [run_sliceAt_slice (h := ht), run_slice_l (ht := ht) (h0 := by omega) (h1 := by omega), hz]
  simp [Result.andThen, sliced]
end Go.Proofs.Ytncjmndiafgaaaa
/- Natural numbers as lists of limbs. Conditions: none beyond those in each statement. -/
namespace Go.Proofs.Ytncjmndiafgaaaa
open Go.RowKit
set_option linter.unusedVariables false
def valL : List Nat → Nat
  | [] => 0
  | x :: l => x + 4294967296 * valL l
def Limbs (l : List Nat) : Prop := ∀ x ∈ l, x < 4294967296
theorem valL_append : ∀ (l m : List Nat), valL (l ++ m) = valL l + 4294967296 ^ l.length * valL m
  | [], m => by simp [valL]
  | x :: l, m => by
    rw [List.cons_append, valL, valL, valL_append l m, List.length_cons, Nat.pow_succ, Nat.mul_add, ← Nat.mul_assoc, Nat.mul_comm (4294967296 ^ l.length)]; omega
theorem valL_snoc (l : List Nat) (x : Nat) : valL (l ++ [x]) = valL l + 4294967296 ^ l.length * x := by
  rw [valL_append]; simp [valL]
theorem Limbs.cons {x : Nat} {l : List Nat} (h : Limbs (x :: l)) : x < 4294967296 ∧ Limbs l := ⟨h x (by simp), fun y hy => h y (by simp [hy])⟩
theorem Limbs.take {l : List Nat} (h : Limbs l) (n : Nat) : Limbs (l.take n) := fun x hx => h x (List.mem_of_mem_take hx)
theorem Limbs.drop {l : List Nat} (h : Limbs l) (n : Nat) : Limbs (l.drop n) := fun x hx => h x (List.mem_of_mem_drop hx)
theorem Limbs.snoc {l : List Nat} {x : Nat} (h : Limbs l) (hx : x < 4294967296) : Limbs (l ++ [x]) := fun y hy => by
  rw [List.mem_append] at hy
  rcases hy with hy | hy
  · exact h y hy
  · simp only [List.mem_singleton] at hy; omega
theorem Limbs.zeros (n : Nat) : Limbs (List.replicate n 0) := fun x hx => by rw [List.eq_of_mem_replicate hx]; decide
theorem Limbs.set {l : List Nat} {i x : Nat} (h : Limbs l) (hx : x < 4294967296) : Limbs (l.set i x) := fun y hy => by
  rcases List.mem_or_eq_of_mem_set hy with hy | hy
  · exact h y hy
  · omega
theorem Limbs.getD {l : List Nat} (h : Limbs l) (i : Nat) : l.getD i 0 < 4294967296 := by
  by_cases hi : i < l.length
  · rw [List.getD_eq_getElem?_getD, List.getElem?_eq_getElem hi]; exact h _ (List.getElem_mem hi)
  · rw [List.getD_eq_getElem?_getD, List.getElem?_eq_none (by omega)]; decide
theorem valL_lt : ∀ {l : List Nat}, Limbs l → valL l < 4294967296 ^ l.length
  | [], _ => by simp [valL]
  | x :: l, h => by
    obtain ⟨h1, h2⟩ := h.cons
    have := valL_lt h2
    rw [valL, List.length_cons, Nat.pow_succ]
    omega
theorem valL_zeros : ∀ n, valL (List.replicate n 0) = 0
  | 0 => rfl
  | n + 1 => by rw [List.replicate_succ, valL, valL_zeros n]
/-- How many limbs are left without zeros at the end. -/
def trimN (l : List Nat) : Nat → Nat
  | 0 => 0
  | n + 1 => if l.getD n 0 = 0 then trimN l n else n + 1
def trimL (l : List Nat) : List Nat := l.take (trimN l l.length)
/-- No zero at the end. -/
def Nrm (l : List Nat) : Prop := l = [] ∨ l.getD (l.length - 1) 0 ≠ 0
theorem trimN_le (l : List Nat) : ∀ n, trimN l n ≤ n
  | 0 => Nat.le_refl _
  | n + 1 => by rw [trimN]; split
                · exact Nat.le_trans (trimN_le l n) (Nat.le_succ n)
                · exact Nat.le_refl _
theorem trimN_val (l : List Nat) : ∀ n, n ≤ l.length → valL (l.take (trimN l n)) = valL (l.take n)
  | 0, _ => rfl
  | n + 1, h => by
    rw [trimN]
    split
    · rename_i h0
      rw [trimN_val l n (by omega), take_snoc _ _ (show n < l.length by omega), valL_snoc]
      have : l[n]'(by omega) = 0 := by
        rw [List.getD_eq_getElem?_getD, List.getElem?_eq_getElem (show n < l.length by omega)] at h0; exact h0
      rw [this]; omega
    · rfl
theorem trimL_val (l : List Nat) : valL (trimL l) = valL l := by
  unfold trimL
  rw [trimN_val l _ (Nat.le_refl _), List.take_of_length_le (Nat.le_refl _)]
theorem trimL_len (l : List Nat) : (trimL l).length = trimN l l.length := by
  unfold trimL
  rw [List.length_take]; have := trimN_le l l.length; omega
theorem trimN_nz (l : List Nat) : ∀ n, 0 < trimN l n → l.getD (trimN l n - 1) 0 ≠ 0
  | 0, h => absurd h (by simp [trimN])
  | n + 1, h => by
    rw [trimN] at h ⊢
    split at h
    · rename_i h0; rw [if_pos h0]; exact trimN_nz l n h
    · rename_i h0; rw [if_neg h0]; exact h0
theorem trimL_nrm (l : List Nat) : Nrm (trimL l) := by
  rcases Nat.eq_zero_or_pos (trimN l l.length) with h | h
  · exact .inl (by unfold trimL; rw [h]; rfl)
  · refine .inr ?_
    rw [trimL_len]
    unfold trimL
    have := trimN_nz l l.length h
    rw [List.getD_eq_getElem?_getD, List.getElem?_take, if_pos (by omega), ← List.getD_eq_getElem?_getD]
    exact this
theorem trimL_limbs {l : List Nat} (h : Limbs l) : Limbs (trimL l) := h.take _
theorem trimN_of_nrm {l : List Nat} (h : Nrm l) : trimN l l.length = l.length := by
  rcases h with rfl | h
  · rfl
  · cases hl : l.length with
    | zero => rfl
    | succ n =>
      rw [hl] at h
      rw [trimN, if_neg (by simpa using h)]
theorem nrm_pos {l : List Nat} (h : Nrm l) (h0 : 0 < l.length) : 4294967296 ^ (l.length - 1) ≤ valL l := by
  rcases h with rfl | h
  · simp at h0
  · have hk : l.length - 1 < l.length := by omega
    have e := take_snoc l (l.length - 1) hk
    rw [show l.length - 1 + 1 = l.length by omega, List.take_of_length_le (Nat.le_refl _)] at e
    have h2 : 1 ≤ l[l.length - 1] := by
      rw [List.getD_eq_getElem?_getD, List.getElem?_eq_getElem hk] at h
      simp only [Option.getD_some] at h; omega
    have hv : valL l = valL (l.take (l.length - 1)) + 4294967296 ^ (l.length - 1) * l[l.length - 1] := by
      conv => lhs; rw [e, valL_snoc, List.length_take, Nat.min_eq_left (by omega)]
    rw [hv]
    have := Nat.mul_le_mul_left (4294967296 ^ (l.length - 1)) h2
    omega
theorem len_lt {a b : List Nat} (ha : Limbs a) (hb : Nrm b) (h : a.length < b.length) : valL a < valL b := by
  have h1 := valL_lt ha
  have h2 := nrm_pos hb (by omega)
  have h3 : 4294967296 ^ a.length ≤ 4294967296 ^ (b.length - 1) := Nat.pow_le_pow_right (by decide) (by omega)
  omega
/-- The highest limb that differs decides. -/
theorem top_lt {a b : List Nat} {i : Nat} (ha : Limbs a) (hi : i < a.length) (hi2 : i < b.length) (hd : a.drop (i + 1) = b.drop (i + 1)) (h : a.getD i 0 < b.getD i 0) : valL a < valL b := by
  have ea : a = a.take i ++ (a[i] :: a.drop (i + 1)) := by rw [← List.drop_eq_getElem_cons hi, List.take_append_drop]
  have eb : b = b.take i ++ (b[i] :: b.drop (i + 1)) := by rw [← List.drop_eq_getElem_cons hi2, List.take_append_drop]
  have h' : a[i] < b[i] := by
    rw [List.getD_eq_getElem?_getD, List.getElem?_eq_getElem hi, List.getD_eq_getElem?_getD, List.getElem?_eq_getElem hi2] at h; exact h
  have va : valL a = valL (a.take i) + 4294967296 ^ i * (a[i] + 4294967296 * valL (a.drop (i + 1))) := by
    conv => lhs; rw [ea, valL_append, List.length_take, Nat.min_eq_left (by omega), valL]
  have vb : valL b = valL (b.take i) + 4294967296 ^ i * (b[i] + 4294967296 * valL (b.drop (i + 1))) := by
    conv => lhs; rw [eb, valL_append, List.length_take, Nat.min_eq_left (by omega), valL]
  rw [va, vb, hd]
  have h1 := valL_lt (ha.take i)
  rw [List.length_take, Nat.min_eq_left (by omega)] at h1
  have h2 : 4294967296 ^ i * (a[i] + 4294967296 * valL (b.drop (i + 1))) + 4294967296 ^ i ≤ 4294967296 ^ i * (b[i] + 4294967296 * valL (b.drop (i + 1))) := by
    rw [← Nat.mul_succ]
    exact Nat.mul_le_mul_left _ (by omega)
  omega
/-- How two numbers compare, as the program says it. -/
def ordI (v u : Nat) : Int := if v < u then -1 else if u < v then 1 else 0
end Go.Proofs.Ytncjmndiafgaaaa
