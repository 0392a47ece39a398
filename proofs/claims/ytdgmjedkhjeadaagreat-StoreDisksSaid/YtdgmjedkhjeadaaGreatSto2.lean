/- A disk in memory. Conditions: as each statement says. -/
import Derived.Test.YtdgmjedkhjeadaaGreatBase
import Derived.Test.YtdgmjedkhjeadaaGreatMapL
import Derived.Test.YtdgmjedkhjeadaaGreatKeepL
import Derived.Deep.MidRow
import Derived.WalkArith
import Derived.Deep.WholeRow
import Derived.WalkKit
import Derived.Deep.CutBlock
namespace Go.Proofs.YtdgmjedkhjeadaaGreat
open Go.RowKit
set_option linter.unusedVariables false
/-- The cells of a sector. -/
def secC (s : Sec) : List Value := s.map fun x : Nat => Value.int .u8 x
def secV (s : Sec) : Value := .agg (secC s).toArray
def durC (l : List Sec) : List Value := (l.map secC).flatten
theorem secC_length (s : Sec) : (secC s).length = s.length := by simp [secC]
theorem secC_one (s : Sec) : ∀ v ∈ secC s, v.oneCell' = true := by
  intro v hv
  obtain ⟨x, _, rfl⟩ := List.mem_map.1 hv
  rfl
theorem durC_length (l : List Sec) (h : ∀ s ∈ l, SecOK s) : (durC l).length = l.length * 64 := by
  induction l with
  | nil => rfl
  | cons s l ih =>
    have h1 := (h s (by simp)).1
    have h2 := ih fun s hs => h s (by simp [hs])
    simp only [durC, List.map_cons, List.flatten_cons, List.length_append, secC_length, List.length_cons] at h2 ⊢
    rw [h2, h1]; omega
theorem durC_get : ∀ (l : List Sec) (h : ∀ s ∈ l, SecOK s) (i j : Nat) (s : Sec), l[i]? = some s → j < 64 → (durC l)[i * 64 + j]? = (secC s)[j]?
  | [], _, i, j, s, h, _ => by simp at h
  | t :: l, ho, 0, j, s, h, hj => by
    simp only [List.getElem?_cons_zero, Option.some.injEq] at h
    subst h
    have h1 := (ho t (by simp)).1
    simp only [durC, List.map_cons, List.flatten_cons]
    rw [List.getElem?_append_left (by rw [secC_length, h1]; omega), Nat.zero_mul, Nat.zero_add]
  | t :: l, ho, i + 1, j, s, h, hj => by
    have h1 := (ho t (by simp)).1
    have ih := durC_get l (fun s hs => ho s (by simp [hs])) i j s (by simpa using h) hj
    simp only [durC, List.map_cons, List.flatten_cons] at ih ⊢
    rw [List.getElem?_append_right (by rw [secC_length, h1]; omega), secC_length, h1, show (i + 1) * 64 + j - 64 = i * 64 + j by omega, ih]
/-- Integer keys. -/
def intK : KeyT 3 Int where
  kv := fun n => .int .i64 n
  ok n := -9223372036854775808 ≤ n ∧ n ≤ 9223372036854775807
  law := Go.Maps.int_keyed Tryz.underlying3
  key n hn := ⟨_, Go.Maps.keyOf_int_mk Tryz.underlying3 (WalkArith.wf_i64 hn)⟩
  inj x y h := by simpa using h
/-- What the cache holds. -/
def cchF (d : Dk) (k : Int) : Option Value := if 0 ≤ k ∧ k < d.dur.length then (d.cch.getD k.toNat none).map secV else none
/-- A slice of ints that reads as a list; its memory is known whole. -/
def KpV (w : World) (v : Value) (k : List Nat) : Prop := ∃ A c, v = .slice A k.length c ∧ (k ≠ [] → ∃ h C, A = some ⟨h, 0, none⟩ ∧ Bk w h C 3 ∧ ∀ i, i < k.length → C[i]? = some (.int .i64 (k.getD i 0 : Nat)))
theorem KpV.far {w w' : World} {v : Value} {k : List Nat} (h : KpV w v k) (hb : Below w.heap.size w w') : KpV w' v k := by
  obtain ⟨A, c, h1, h2⟩ := h
  refine ⟨A, c, h1, fun hk => ?_⟩
  obtain ⟨h, C, h3, h4, h5⟩ := h2 hk
  exact ⟨h, C, h3, h4.past hb h4.lt, h5⟩
/-- What a disk's plan is in memory. -/
def PlanAt (w : World) (p : Option Addr) : Option (Nat × List Nat) → Prop
  | none => p = none
  | some (a, k) => ∃ bp kv, p = some ⟨bp, 0, none⟩ ∧ Bk w bp #[.int .i64 (a : Int), kv] 103 ∧ KpV w kv k
theorem PlanAt.far {w w' : World} {p : Option Addr} {q : Option (Nat × List Nat)} (h : PlanAt w p q) (hb : Below w.heap.size w w') : PlanAt w' p q := by
  cases q with
  | none => exact h
  | some q =>
    obtain ⟨a, k⟩ := q
    obtain ⟨bp, kv, h1, h2, h3⟩ := h
    exact ⟨bp, kv, h1, h2.past hb h2.lt, h3.far hb⟩
/-- A disk in memory: its block, its sectors, its cache, its plan. -/
structure DkAt (w : World) (D : Nat) (d : Dk) (bs bm cp : Nat) (p : Option Addr) : Prop where
  ok : DkOK d
  blk : Bk w D #[.slice (some ⟨bs, 0, none⟩) d.dur.length cp, .map (some bm), .pointer p, .bool d.down, .int .i64 d.age] 96
  dur : ∃ sp, Bk w bs (durC d.dur ++ sp).toArray 101
  cch : ∃ l, MapL intK w bm l (cchF d)
  plan : PlanAt w p d.plan
theorem DkAt.far {w w' : World} {D : Nat} {d : Dk} {bs bm cp : Nat} {p : Option Addr} (h : DkAt w D d bs bm cp p) (hb : Below w.heap.size w w') : DkAt w' D d bs bm cp p := by
  obtain ⟨h1, h2, ⟨sp, h3⟩, ⟨l, h4⟩, h5⟩ := h
  exact ⟨h1, h2.past hb h2.lt, ⟨sp, h3.past hb h3.lt⟩, ⟨l, h4.keep (hb.block _ h4.lt)⟩, h5.far hb⟩
section
variable {w : World} {D : Nat} {d : Dk} {bs bm cp : Nat} {p : Option Addr}
theorem DkAt.c0 (h : DkAt w D d bs bm cp p) : w.cell? ⟨D, 0, none⟩ = some (.slice (some ⟨bs, 0, none⟩) d.dur.length cp) := by rw [h.blk.cell]; rfl
theorem DkAt.c1 (h : DkAt w D d bs bm cp p) : w.cell? ⟨D, 1, none⟩ = some (.map (some bm)) := by rw [h.blk.cell]; rfl
theorem DkAt.c2 (h : DkAt w D d bs bm cp p) : w.cell? ⟨D, 2, none⟩ = some (.pointer p) := by rw [h.blk.cell]; rfl
theorem DkAt.c3 (h : DkAt w D d bs bm cp p) : w.cell? ⟨D, 3, none⟩ = some (.bool d.down) := by rw [h.blk.cell]; rfl
theorem DkAt.c4 (h : DkAt w D d bs bm cp p) : w.cell? ⟨D, 4, none⟩ = some (.int .i64 d.age) := by rw [h.blk.cell]; rfl
theorem DkAt.sec (h : DkAt w D d bs bm cp p) {i : Nat} (hi : i < d.dur.length) : w.rangeAt bs (i * 64) (secC (d.dur.getD i [])) := by
  obtain ⟨sp, hb⟩ := h.dur
  intro j v hv
  have hg : d.dur[i]? = some (d.dur.getD i []) := by rw [List.getD_eq_getElem?_getD, List.getElem?_eq_getElem hi]; rfl
  have ho := h.ok.dur _ (List.mem_of_getElem? hg)
  have hj : j < 64 := by have := (List.getElem?_eq_some_iff.1 hv).1; rw [secC_length, ho.1] at this; exact this
  rw [hb.cell, List.getElem?_toArray, List.getElem?_append_left (by rw [durC_length _ h.ok.dur]; omega), durC_get _ h.ok.dur _ _ _ hg hj, hv]
theorem zero_sec (w : World) : (zeroValue 101).run Tryz.prog w = .ok (secV zeroSec) w := by kernel_rfl
theorem DkAt.look (h : DkAt w D d bs bm cp p) {i : Nat} (hi : i < d.dur.length) :
    (Instr.lookup 93 (.map (some bm)) (.int .i64 (i : Int)) true).run Tryz.prog w = .ok (.tuple #[secV ((d.cch.getD i none).getD zeroSec), .bool (d.cch.getD i none).isSome]) w := by
  obtain ⟨l, hm⟩ := h.cch
  have hn := h.ok.n256
  have := hm.at'.look_ok Tryz.underlying93 zero_sec (x := (i : Int)) ⟨by omega, by omega⟩
  have e : cchF d (i : Int) = (d.cch.getD i none).map secV := by unfold cchF; rw [if_pos (by omega)]; simp
  rw [e] at this
  refine this.trans ?_
  cases d.cch.getD i none <;> rfl
theorem DkAt.newOK (h : DkAt w D d bs bm cp p) {i : Nat} (hi : i < d.dur.length) : SecOK (d.newest i) := by
  unfold Dk.newest
  cases hc : d.cch.getD i none with
  | some s =>
    rw [List.getD_eq_getElem?_getD] at hc
    cases hq : d.cch[i]? with
    | none => rw [hq] at hc; cases hc
    | some x => rw [hq] at hc; simp only [Option.getD_some] at hc; subst hc; exact h.ok.cch _ (List.mem_of_getElem? hq)
  | none => exact h.ok.dur _ (by rw [Option.getD_none, List.getD_eq_getElem?_getD, List.getElem?_eq_getElem hi]; exact List.getElem_mem hi)
end
theorem lit64u : (#[.int .u8 0, .int .u8 0, .int .u8 0, .int .u8 0, .int .u8 0, .int .u8 0, .int .u8 0, .int .u8 0, .int .u8 0, .int .u8 0, .int .u8 0, .int .u8 0, .int .u8 0, .int .u8 0, .int .u8 0, .int .u8 0, .int .u8 0, .int .u8 0, .int .u8 0, .int .u8 0, .int .u8 0, .int .u8 0, .int .u8 0, .int .u8 0, .int .u8 0, .int .u8 0, .int .u8 0, .int .u8 0, .int .u8 0, .int .u8 0, .int .u8 0, .int .u8 0, .int .u8 0, .int .u8 0, .int .u8 0, .int .u8 0, .int .u8 0, .int .u8 0, .int .u8 0, .int .u8 0, .int .u8 0, .int .u8 0, .int .u8 0, .int .u8 0, .int .u8 0, .int .u8 0, .int .u8 0, .int .u8 0, .int .u8 0, .int .u8 0, .int .u8 0, .int .u8 0, .int .u8 0, .int .u8 0, .int .u8 0, .int .u8 0, .int .u8 0, .int .u8 0, .int .u8 0, .int .u8 0, .int .u8 0, .int .u8 0, .int .u8 0, .int .u8 0] : Array Value) = (secC zeroSec).toArray := rfl
theorem sec_info (s : Sec) (h : s.length = 64) : (Tryz.prog.info? 101).map (·.size) = some (secC s).toArray.size := by
  rw [show (secC s).toArray.size = 64 by simp [secC, h]]
  kernel_rfl
theorem Bk.put {w : World} {b : Nat} {cs : Array Value} {t : TypeId} (h : Bk w b cs t) (cs' : Array Value) : Bk (w.setRow b cs') b cs' t := by
  unfold Bk at h ⊢
  simp only [World.setRow, Array.getElem?_modify, if_true, h, Option.map_some]
theorem keepL_put (w : World) (g : Nat) (cs : Array Value) : KeepL [g] w (w.setRow g cs) := ⟨rfl, rfl, rfl, by simp [World.setRow], fun k hk hL => by
  simp only [World.setRow, Array.getElem?_modify]
  rw [if_neg (fun e => hL (by simp [e]))]⟩
theorem balloc (w : World) (o : Obj) : Below w.heap.size w (w.alloc o) := (Below.refl _ _).alloc (Nat.le_refl _) _
theorem Bk.range {w : World} {b : Nat} {s : Sec} {t : TypeId} (h : Bk w b (secC s).toArray t) : w.rangeAt b 0 (secC s) := fun j v hv => by
  rw [Nat.zero_add, h.cell]; simpa using hv
theorem store_old {w : World} {b : Nat} {C : Array Value} {t : TypeId} (h : Bk w b C t) (s : Sec) (hs : s.length = C.size) :
    (storeCells ⟨b, 0, none⟩ (secC s)).run Tryz.prog w = .ok () (w.setRow b (secC s).toArray) := by
  have := run_storeCells_from (P := Tryz.prog) b t (secC s) 0 C w h (by rw [secC_length]; omega) (fun v hv => secC_one s v hv)
  simpa using this
theorem store_new (w : World) (t : TypeId) (s : Sec) (hs : s.length = 64) :
    (storeCells ⟨w.heap.size, 0, none⟩ (secC s)).run Tryz.prog (w.alloc (.cells #[.int .u8 0, .int .u8 0, .int .u8 0, .int .u8 0, .int .u8 0, .int .u8 0, .int .u8 0, .int .u8 0, .int .u8 0, .int .u8 0, .int .u8 0, .int .u8 0, .int .u8 0, .int .u8 0, .int .u8 0, .int .u8 0, .int .u8 0, .int .u8 0, .int .u8 0, .int .u8 0, .int .u8 0, .int .u8 0, .int .u8 0, .int .u8 0, .int .u8 0, .int .u8 0, .int .u8 0, .int .u8 0, .int .u8 0, .int .u8 0, .int .u8 0, .int .u8 0, .int .u8 0, .int .u8 0, .int .u8 0, .int .u8 0, .int .u8 0, .int .u8 0, .int .u8 0, .int .u8 0, .int .u8 0, .int .u8 0, .int .u8 0, .int .u8 0, .int .u8 0, .int .u8 0, .int .u8 0, .int .u8 0, .int .u8 0, .int .u8 0, .int .u8 0, .int .u8 0, .int .u8 0, .int .u8 0, .int .u8 0, .int .u8 0, .int .u8 0, .int .u8 0, .int .u8 0, .int .u8 0, .int .u8 0, .int .u8 0, .int .u8 0, .int .u8 0] t)) = .ok () (w.alloc (.cells (secC s).toArray t)) := by
  rw [store_old (Bk.new w _ t) s (by rw [hs]; rfl), World.setRow_alloc_new]
end Go.Proofs.YtdgmjedkhjeadaaGreat
namespace Go.Proofs.YtdgmjedkhjeadaaGreat
open Go.RowKit
set_option linter.unusedVariables false
/-- It answers a value; old memory stays. -/
def RetV (v : Value) (w : World) (e : Ending) (w' : World) : Prop := e = .returned v ∧ Below w.heap.size w w'
def hasB (i : Int) (n : Nat) : Bool := decide (0 ≤ i) && decide (i < n)
section
variable {w : World} {D : Nat} {d : Dk} {bs bm cp : Nat} {p : Option Addr}
set_option maxRecDepth 100000 in
theorem dvalid_any (h : DkAt w D d bs bm cp p) : Calls Tryz.prog 43 #[.pointer (some ⟨D, 0, none⟩)] w fun e w' => e = .returned (.bool true) ∧ w = w' := by
  have q1 : ∀ w, (binOp BinOp.neq 24 (.pointer (some ⟨D, 0, none⟩)) (.pointer none)).run Tryz.prog w = .ok (.bool true) w := fun w => by kernel_rfl
  have q2 : ∀ w n c, (binOp BinOp.neq 92 (.slice (some ⟨bs, 0, none⟩) n c) (.slice none 0 0)).run Tryz.prog w = .ok (.bool true) w := fun w n c => by kernel_rfl
  have c0 := h.c0
  clear h
  go_enter Tryz.func43, Tryz.ntmps43
  go_wp2_with fail
  go_ret
  exact ⟨rfl, rfl⟩
set_option maxRecDepth 100000 in
theorem dsize_any (h : DkAt w D d bs bm cp p) : Calls Tryz.prog 58 #[.pointer (some ⟨D, 0, none⟩)] w fun e w' => e = .returned (.int .i64 d.dur.length) ∧ w = w' := by
  have HV := Lib.hid (dvalid_any h)
  have c0 := h.c0
  clear h
  go_enter Tryz.func58, Tryz.ntmps58
  go_wp2_with fail
  refine HV.out.mono ?_
  rintro e w' ⟨rfl, rfl⟩
  go_wp2_with fail
  go_ret
  exact ⟨rfl, rfl⟩
set_option maxRecDepth 100000 in
theorem ddown_any (h : DkAt w D d bs bm cp p) : Calls Tryz.prog 39 #[.pointer (some ⟨D, 0, none⟩)] w fun e w' => e = .returned (.bool d.down) ∧ w = w' := by
  have HV := Lib.hid (dvalid_any h)
  have c3 := h.c3
  clear h
  go_enter Tryz.func39, Tryz.ntmps39
  go_wp2_with fail
  refine HV.out.mono ?_
  rintro e w' ⟨rfl, rfl⟩
  go_wp2_with fail
  go_ret
  exact ⟨rfl, rfl⟩
set_option maxRecDepth 100000 in
theorem dhas_any (h : DkAt w D d bs bm cp p) (i : Int) : Calls Tryz.prog 46 #[.pointer (some ⟨D, 0, none⟩), .int .i64 i] w fun e w' => e = .returned (.bool (hasB i d.dur.length)) ∧ w = w' := by
  have c0 := h.c0
  clear h
  obtain ⟨z, hz⟩ : ∃ z, z = hasB i d.dur.length := ⟨_, rfl⟩
  rw [← hz]
  have HZ := Lib.hid hz
  clear hz
  by_cases g1 : 0 ≤ i
  · by_cases g2 : i < d.dur.length
    · have e1 : decide (0 ≤ i) = true := decide_eq_true g1
      have e2 : decide (i < (d.dur.length : Int)) = true := decide_eq_true g2
      go_enter Tryz.func46, Tryz.ntmps46
      go_wp2_with fail
      go_ret
      exact ⟨by rw [HZ.out]; unfold hasB; rw [e1, e2]; rfl, rfl⟩
    · have e1 : decide (0 ≤ i) = true := decide_eq_true g1
      have e2 : decide (i < (d.dur.length : Int)) = false := decide_eq_false g2
      go_enter Tryz.func46, Tryz.ntmps46
      go_wp2_with fail
      go_ret
      exact ⟨by rw [HZ.out]; unfold hasB; rw [e1, e2]; rfl, rfl⟩
  · have e1 : decide (0 ≤ i) = false := decide_eq_false g1
    go_enter Tryz.func46, Tryz.ntmps46
    go_wp2_with fail
    go_ret
    exact ⟨by rw [HZ.out]; unfold hasB; rw [e1]; rfl, rfl⟩
set_option maxRecDepth 100000 in
theorem newest_any (h : DkAt w D d bs bm cp p) {i : Nat} (hi : i < d.dur.length) : Calls Tryz.prog 86 #[.pointer (some ⟨D, 0, none⟩), .int .i64 (i : Int)] w (RetV (secV (d.newest i)) w) := by
  have HL : Hid (∀ W, Below w.heap.size w W → (Instr.lookup 93 (.map (some bm)) (.int .i64 (i : Int)) true).run Tryz.prog W = .ok (.tuple #[secV ((d.cch.getD i none).getD zeroSec), .bool (d.cch.getD i none).isSome]) W) := Lib.hid fun W hW => (h.far hW).look hi
  have HS : Hid (∀ W, Below w.heap.size w W → W.rangeAt bs (i * 64) (secC (d.dur.getD i []))) := Lib.hid fun W hW => (h.far hW).sec hi
  have HC : Hid (∀ W, Below w.heap.size w W → W.cell? ⟨D, 1, none⟩ = some (.map (some bm)) ∧ W.cell? ⟨D, 0, none⟩ = some (.slice (some ⟨bs, 0, none⟩) d.dur.length cp)) := Lib.hid fun W hW => ⟨(h.far hW).c1, (h.far hW).c0⟩
  have hso := h.newOK hi
  have hdo : (d.dur.getD i []).length = 64 := (h.ok.dur _ (by rw [List.getD_eq_getElem?_getD, List.getElem?_eq_getElem hi]; exact List.getElem_mem hi)).1
  have HN : Hid (d.newest i = (d.cch.getD i none).getD (d.dur.getD i [])) := Lib.hid rfl
  have hii : 0 ≤ (i : Int) ∧ (i : Int) < (d.dur.length : Int) := by omega
  obtain ⟨N, hN⟩ : ∃ N, N = d.newest i := ⟨_, rfl⟩
  rw [← hN] at hso HN ⊢
  generalize d.cch.getD i none = q at HL HN
  generalize d.dur.getD i [] = sd at *
  generalize d.dur.length = n at *
  clear h hN hi
  go_enter Tryz.func86, Tryz.ntmps86
  go_upto_region 1 with fail
  rw [lit64u]
  obtain ⟨w1, hw1⟩ : ∃ w1, w1 = w.alloc (.cells (secC zeroSec).toArray 101) := ⟨_, rfl⟩
  have HB1 : Hid (Bk w1 w.heap.size (secC zeroSec).toArray 101 ∧ Below w.heap.size w w1) := Lib.hid ⟨by rw [hw1]; exact Bk.new _ _ _, by rw [hw1]; exact balloc _ _⟩
  rw [← hw1]
  clear hw1
  obtain ⟨c1, c0⟩ := HC.out w1 HB1.out.2
  have hl := HL.out w1 HB1.out.2
  have HZ : Hid ((secC zeroSec).toArray.size = 64) := Lib.hid (by simp [secC, zeroSec])
  have hso0 : N.length = 64 := hso.1
  have HI := Lib.hid (sec_info N hso0)
  have hsz : (secC N).length = 64 := by rw [secC_length, hso0]
  have HNN : Hid (N.length = (secC zeroSec).toArray.size) := Lib.hid (by rw [HZ.out, hso0])
  have HN64 := Lib.hid hso0
  clear hso hso0
  cases q with
  | some s =>
    obtain rfl : N = s := HN.out
    replace hl : (Instr.lookup 93 (.map (some bm)) (.int .i64 (i : Int)) true).run Tryz.prog w1 = .ok (.tuple #[.agg (secC N).toArray, .bool true]) w1 := hl
    clear HN HL
    go_wp2_with fail
    rw [store_new _ _ _ HN64.out]
    obtain ⟨w2, hw2⟩ : ∃ z, z = w1.alloc (.cells (secC N).toArray 101) := ⟨_, rfl⟩
    have HB2 : Hid (Bk w2 w1.heap.size (secC N).toArray 101 ∧ Below w1.heap.size w1 w2) := Lib.hid ⟨by rw [hw2]; exact Bk.new _ _ _, by rw [hw2]; exact balloc _ _⟩
    rw [← hw2]
    clear hw2
    have HB3 := Lib.hid (HB1.out.1.past HB2.out.2 HB1.out.1.lt)
    go_wp2_with (refine wpList_load_row rfl _ _ rfl w1.heap.size rfl _ (secC N).toArray _ _ HB2.out.1 Tryz.underlying101 rfl HI.out ?_)
    rw [store_old HB3.out N HNN.out]
    go_wp2_with fail
    refine bodyPost_ret (a := Act.mk _ _) (v := secV N) (results_cell_row rfl _ _ w.heap.size _ _ _ _ rfl (HB3.out.put _) Tryz.underlying101 rfl HI.out) rfl ?_
    exact ⟨rfl, (bnextK HB1.out.2 HB2.out.2).trans ((keepL_put _ _ _).below (bnextK HB1.out.2 HB2.out.2).size (by simp))⟩
  | none =>
    obtain rfl : N = sd := HN.out
    replace hl : (Instr.lookup 93 (.map (some bm)) (.int .i64 (i : Int)) true).run Tryz.prog w1 = .ok (.tuple #[.agg (secC zeroSec).toArray, .bool false]) w1 := hl
    have hsz0 : (secC zeroSec).length = 64 := by simp [secC, zeroSec]
    clear HN HL
    go_wp2_with fail
    rw [store_new _ _ _ zeroSec_ok.1]
    obtain ⟨w2, hw2⟩ : ∃ z, z = w1.alloc (.cells (secC zeroSec).toArray 101) := ⟨_, rfl⟩
    have HB2 : Hid (Below w1.heap.size w1 w2) := Lib.hid (by rw [hw2]; exact balloc _ _)
    rw [← hw2]
    clear hw2 c0 c1 hl hsz0
    have HB3 := Lib.hid (HB1.out.1.past HB2.out HB1.out.1.lt)
    obtain ⟨c1, c0⟩ := HC.out w2 (bnextK HB1.out.2 HB2.out)
    have HR := Lib.hid (HS.out w2 (bnextK HB1.out.2 HB2.out))
    have HLN : Hid ((Tryz.prog.info? 101).map (·.size) = some (secC N).length) := Lib.hid (by have := HI.out; simpa using this)
    go_wp2_with (refine wpList_load_mid rfl _ _ rfl bs (i * 64) (by simp [Act.eval]) (secC N) _ HR.out Tryz.underlying101 rfl HLN.out ?_)
    rw [store_old HB3.out N HNN.out]
    go_wp2_with fail
    refine bodyPost_ret (a := Act.mk _ _) (v := secV N) (results_cell_row rfl _ _ w.heap.size _ _ _ _ rfl (HB3.out.put _) Tryz.underlying101 rfl HI.out) rfl ?_
    exact ⟨rfl, (bnextK HB1.out.2 HB2.out).trans ((keepL_put _ _ _).below (bnextK HB1.out.2 HB2.out).size (by simp))⟩
end
end Go.Proofs.YtdgmjedkhjeadaaGreat
namespace Go.Proofs.YtdgmjedkhjeadaaGreat
open Go.RowKit
set_option linter.unusedVariables false
/-- An answer: an error, or bytes of its own. -/
def RdP (z : Int) (s : Sec) (w : World) (e : Ending) (w' : World) : Prop :=
  (z = 0 → ∃ h, e = .returned (.tuple #[.slice (some ⟨h, 0, none⟩) 64 64, .int .i64 0]) ∧ Bk w' h (secC s).toArray 101 ∧ w.heap.size ≤ h) ∧ (z ≠ 0 → e = .returned (.tuple #[.slice none 0 0, .int .i64 z])) ∧ Below w.heap.size w w'
theorem RdP.ok {s : Sec} {w w' : World} {e : Ending} {h : Nat} (he : e = .returned (.tuple #[.slice (some ⟨h, 0, none⟩) 64 64, .int .i64 0])) (hb : Bk w' h (secC s).toArray 101) (hh : w.heap.size ≤ h) (hw : Below w.heap.size w w') : RdP 0 s w e w' :=
  ⟨fun _ => ⟨h, he, hb, hh⟩, fun h => absurd rfl h, hw⟩
theorem RdP.no {z : Int} {s : Sec} {w w' : World} {e : Ending} (hz : z ≠ 0) (he : e = .returned (.tuple #[.slice none 0 0, .int .i64 z])) (hw : Below w.heap.size w w') : RdP z s w e w' :=
  ⟨fun h => absurd h hz, fun _ => he, hw⟩
def Dk.durZ (d : Dk) (i : Int) : Int := if hasB i d.dur.length = true then 0 else 3
def Dk.readZ (d : Dk) (i : Int) : Int := if d.down = true then 13 else if hasB i d.dur.length = true then 0 else 3
theorem hasB_nat {i : Int} {n : Nat} (h : hasB i n = true) : ∃ k : Nat, i = (k : Int) ∧ k < n := by
  unfold hasB at h
  simp only [Bool.and_eq_true, decide_eq_true_eq] at h
  exact ⟨i.toNat, by omega, by omega⟩
section
variable {w : World} {D : Nat} {d : Dk} {bs bm cp : Nat} {p : Option Addr}
set_option maxRecDepth 100000 in
theorem durable_any (h : DkAt w D d bs bm cp p) (i : Int) : Calls Tryz.prog 52 #[.pointer (some ⟨D, 0, none⟩), .int .i64 i] w (RdP (d.durZ i) (d.dur.getD i.toNat []) w) := by
  have HV := Lib.hid (dvalid_any h)
  have hh := dhas_any h i
  by_cases hb : hasB i d.dur.length = true
  · rw [show d.durZ i = 0 by unfold Dk.durZ; rw [if_pos hb]]
    rw [hb] at hh
    have HH := Lib.hid hh
    obtain ⟨k, rfl, hk⟩ := hasB_nat hb
    have hdo : (d.dur.getD k []).length = 64 := (h.ok.dur _ (by rw [List.getD_eq_getElem?_getD, List.getElem?_eq_getElem hk]; exact List.getElem_mem hk)).1
    have HR := Lib.hid (h.sec hk)
    have c0 := h.c0
    have hii : 0 ≤ (k : Int) ∧ (k : Int) < (d.dur.length : Int) := by omega
    rw [Int.toNat_natCast]
    generalize d.dur.getD k [] = N at *
    have HLN : Hid ((Tryz.prog.info? 101).map (·.size) = some (secC N).length) := Lib.hid (by have := sec_info N hdo; simpa using this)
    have hsz : (secC N).length = 64 := by rw [secC_length, hdo]
    have HN64 := Lib.hid hdo
    clear h hh hb hk hdo
    generalize d.dur.length = n at *
    go_enter Tryz.func52, Tryz.ntmps52
    go_wp2_with fail
    refine HV.out.mono ?_
    rintro e w' ⟨rfl, rfl⟩
    go_wp2_with fail
    refine HH.out.mono ?_
    rintro e w' ⟨rfl, rfl⟩
    go_wp2_with (refine wpList_load_mid rfl _ _ rfl bs (k * 64) (by simp [Act.eval]) (secC N) _ HR.out Tryz.underlying101 rfl HLN.out ?_)
    rw [store_new _ _ _ HN64.out]
    go_wp2_with fail
    refine bodyPost_ret (a := Act.mk _ _) (results_tmp2 rfl _ _ _) rfl ?_
    exact RdP.ok rfl (Bk.new _ _ _) (Nat.le_refl _) (balloc _ _)
  · rw [show d.durZ i = 3 by unfold Dk.durZ; rw [if_neg hb]]
    rw [Bool.not_eq_true] at hb
    rw [hb] at hh
    have HH := Lib.hid hh
    clear h hh hb
    go_enter Tryz.func52, Tryz.ntmps52
    go_wp2_with fail
    refine HV.out.mono ?_
    rintro e w' ⟨rfl, rfl⟩
    go_wp2_with fail
    refine HH.out.mono ?_
    rintro e w' ⟨rfl, rfl⟩
    go_wp2_with fail
    refine bodyPost_ret (a := Act.mk _ _) (results_tmp2 rfl _ _ _) rfl ?_
    exact RdP.no (by omega) rfl (Below.refl _ _)
set_option maxRecDepth 100000 in
theorem read_any (h : DkAt w D d bs bm cp p) (i : Int) : Calls Tryz.prog 49 #[.pointer (some ⟨D, 0, none⟩), .int .i64 i] w (RdP (d.readZ i) (d.newest i.toNat) w) := by
  have HV := Lib.hid (dvalid_any h)
  have hh := dhas_any h i
  have c3 := h.c3
  cases hd : d.down with
  | true =>
    rw [show d.readZ i = 13 by unfold Dk.readZ; rw [if_pos hd]]
    rw [hd] at c3
    clear h hh
    go_enter Tryz.func49, Tryz.ntmps49
    go_wp2_with fail
    refine HV.out.mono ?_
    rintro e w' ⟨rfl, rfl⟩
    go_wp2_with fail
    refine bodyPost_ret (a := Act.mk _ _) (results_tmp2 rfl _ _ _) rfl ?_
    exact RdP.no (by omega) rfl (Below.refl _ _)
  | false =>
    rw [hd] at c3
    by_cases hb : hasB i d.dur.length = true
    · rw [show d.readZ i = 0 by unfold Dk.readZ; rw [if_neg (by rw [hd]; simp), if_pos hb]]
      rw [hb] at hh
      have HH := Lib.hid hh
      obtain ⟨k, rfl, hk⟩ := hasB_nat hb
      have hdo : (d.newest k).length = 64 := (h.newOK hk).1
      have HW := Lib.hid (newest_any h hk)
      rw [Int.toNat_natCast]
      generalize d.newest k = N at *
      have hsz : (secC N).length = 64 := by rw [secC_length, hdo]
      have HN64 := Lib.hid hdo
      clear h hh hb hk hdo
      go_enter Tryz.func49, Tryz.ntmps49
      go_wp2_with fail
      refine HV.out.mono ?_
      rintro e w' ⟨rfl, rfl⟩
      go_wp2_with fail
      refine HH.out.mono ?_
      rintro e w' ⟨rfl, rfl⟩
      go_wp2_with fail
      refine HW.out.mono ?_
      rintro e w2 ⟨rfl, hb2⟩
      have HB2 := Lib.hid hb2
      clear hb2
      unfold secV
      go_wp2_with fail
      rw [store_new _ _ _ HN64.out]
      go_wp2_with fail
      refine bodyPost_ret (a := Act.mk _ _) (results_tmp2 rfl _ _ _) rfl ?_
      exact RdP.ok rfl (Bk.new _ _ _) HB2.out.size (bnextK HB2.out (balloc _ _))
    · rw [show d.readZ i = 3 by unfold Dk.readZ; rw [if_neg (by rw [hd]; simp), if_neg hb]]
      rw [Bool.not_eq_true] at hb
      rw [hb] at hh
      have HH := Lib.hid hh
      clear h hh hb
      go_enter Tryz.func49, Tryz.ntmps49
      go_wp2_with fail
      refine HV.out.mono ?_
      rintro e w' ⟨rfl, rfl⟩
      go_wp2_with fail
      refine HH.out.mono ?_
      rintro e w' ⟨rfl, rfl⟩
      go_wp2_with fail
      refine bodyPost_ret (a := Act.mk _ _) (results_tmp2 rfl _ _ _) rfl ?_
      exact RdP.no (by omega) rfl (Below.refl _ _)
end
end Go.Proofs.YtdgmjedkhjeadaaGreat
namespace Go.Proofs.YtdgmjedkhjeadaaGreat
open Go.RowKit
set_option linter.unusedVariables false
theorem Bk.nemap {w : World} {h b : Nat} {cs : Array Value} {t k : TypeId} {κ : Type} {K : KeyT k κ} {l : List κ} {f : κ → Option Value} (a : Bk w h cs t) (m : MapL K w b l f) : h ≠ b := by
  rintro rfl
  obtain ⟨es, cl, hm⟩ := m.at'.isMap
  unfold Bk at a
  rw [a] at hm
  cases hm
/-- The blocks of a disk that may be written. -/
def fpL (D bs bm : Nat) (p : Option Addr) : List Nat := D :: bs :: bm :: (match p with | none => [] | some a => [a.block])
def NewP (w : World) (p p' : Option Addr) : Prop := p' = p ∨ p' = none ∨ ∃ q, p' = some ⟨q, 0, none⟩ ∧ w.heap.size ≤ q
/-- A disk is changed to another one, in its own blocks. -/
def DkMut (w w' : World) (D bs bm cp : Nat) (p : Option Addr) (d' : Dk) : Prop := (∃ p', DkAt w' D d' bs bm cp p' ∧ NewP w p p') ∧ KeepL (fpL D bs bm p) w w'
theorem NewP.refl (w : World) (p : Option Addr) : NewP w p p := .inl rfl
theorem NewP.trans {w w' : World} {p p' p'' : Option Addr} (h : NewP w p p') (k : NewP w' p' p'') (hs : w.heap.size ≤ w'.heap.size) : NewP w p p'' := by
  rcases k with rfl | rfl | ⟨q, rfl, hq⟩
  · exact h
  · exact .inr (.inl rfl)
  · exact .inr (.inr ⟨q, rfl, Nat.le_trans hs hq⟩)
theorem NewP.fp {w : World} {p p' : Option Addr} (h : NewP w p p') (D bs bm : Nat) : ∀ k ∈ fpL D bs bm p', k < w.heap.size → k ∈ fpL D bs bm p := by
  intro k hk hlt
  unfold fpL at hk ⊢
  rcases h with rfl | rfl | ⟨q, rfl, hq⟩
  · exact hk
  · simp only [List.mem_cons, List.not_mem_nil, or_false] at hk ⊢
    rcases hk with rfl | rfl | rfl <;> simp
  · simp only [List.mem_cons, List.not_mem_nil, or_false] at hk ⊢
    rcases hk with rfl | rfl | rfl | rfl
    · simp
    · simp
    · simp
    · exact absurd hlt (Nat.not_lt.2 hq)
theorem DkMut.trans {w w1 w2 : World} {D bs bm cp : Nat} {p p1 : Option Addr} {d2 : Dk} (h : NewP w p p1) (hk : KeepL (fpL D bs bm p) w w1) (k : DkMut w1 w2 D bs bm cp p1 d2) : DkMut w w2 D bs bm cp p d2 := by
  obtain ⟨⟨p2, q1, q2⟩, q3⟩ := k
  refine ⟨⟨p2, q1, h.trans q2 hk.size⟩, ⟨q3.os.trans hk.os, q3.tape.trans hk.tape, q3.output.trans hk.output, Nat.le_trans hk.size q3.size, fun j h1 h2 => ?_⟩⟩
  exact (q3.block j (Nat.lt_of_lt_of_le h1 hk.size) (fun hm => h2 (h.fp D bs bm j hm h1))).trans (hk.block j h1 h2)
theorem DkMut.below {w w' : World} {D bs bm cp : Nat} {p : Option Addr} {d' : Dk} (h : DkMut w w' D bs bm cp p d') {w2 : World} (hb : Below w'.heap.size w' w2) : DkMut w w2 D bs bm cp p d' := by
  obtain ⟨⟨p2, q1, q2⟩, q3⟩ := h
  exact ⟨⟨p2, q1.far hb, q2⟩, q3.trans (.of_below hb)⟩
section
variable {w w' : World} {D : Nat} {d : Dk} {bs bm cp : Nat} {p : Option Addr}
theorem PlanAt.keepL {L : List Nat} {q : Option (Nat × List Nat)} (h : PlanAt w p q) (hk : KeepL L w w') (hp : ∀ a, p = some a → a.block ∉ L) (hi : ∀ h C, Bk w h C 3 → h ∉ L) : PlanAt w' p q := by
  cases q with
  | none => exact h
  | some q =>
    obtain ⟨a, k⟩ := q
    obtain ⟨bp, kv, rfl, h2, A, c, h3, h4⟩ := h
    refine ⟨bp, kv, rfl, h2.keepL hk (hp _ rfl), A, c, h3, fun hk' => ?_⟩
    obtain ⟨g, C, e1, e2, e3⟩ := h4 hk'
    exact ⟨g, C, e1, e2.keepL hk (hi _ _ e2), e3⟩
theorem PlanAt.bt {q : Option (Nat × List Nat)} (h : PlanAt w p q) : ∀ a, p = some a → ∃ cs, Bk w a.block cs 103 := by
  intro a ha
  cases q with
  | none => rw [show p = none from h] at ha; cases ha
  | some q =>
    obtain ⟨x, k⟩ := q
    obtain ⟨bp, kv, rfl, h2, _⟩ := h
    cases ha
    exact ⟨_, h2⟩
/-- The disk's own block is written: its down, its age, its plan's pointer. -/
theorem DkAt.own (h : DkAt w D d bs bm cp p) (hk : KeepL [D] w w') {p' : Option Addr} {pl : Option (Nat × List Nat)} {dn : Bool} {ag : Int}
    (hb : Bk w' D #[.slice (some ⟨bs, 0, none⟩) d.dur.length cp, .map (some bm), .pointer p', .bool dn, .int .i64 ag] 96) (hp : PlanAt w' p' pl) (hok : ∀ a k, pl = some (a, k) → k.length ≤ 256 ∧ (∀ x ∈ k, x ≤ 64) ∧ a ≤ 9223372036854775807) :
    DkAt w' D { d with plan := pl, down := dn, age := ag } bs bm cp p' := by
  obtain ⟨o, h2, ⟨sp, h3⟩, ⟨l, h4⟩, h5⟩ := h
  refine ⟨⟨o.n2, o.n256, o.len, o.dur, o.cch, hok⟩, hb, ⟨sp, h3.keepL hk ?_⟩, ⟨l, h4.keep (hk.block _ h4.lt ?_)⟩, hp⟩
  · simp only [List.mem_singleton]
    exact fun e => (h3.ne h2 (by decide)) e
  · simp only [List.mem_singleton]
    exact fun e => (h2.nemap h4) e.symm
theorem DkAt.notD (h : DkAt w D d bs bm cp p) : (∀ a, p = some a → a.block ∉ [D]) ∧ ∀ g C, Bk w g C 3 → g ∉ [D] := by
  refine ⟨fun a ha => ?_, fun g C hg => ?_⟩
  · obtain ⟨cs, hc⟩ := h.plan.bt a ha
    simp only [List.mem_singleton]
    exact hc.ne h.blk (by decide)
  · simp only [List.mem_singleton]
    exact hg.ne h.blk (by decide)
theorem KeepL.fpD (h : KeepL [D] w w') (bs bm : Nat) (p : Option Addr) : KeepL (fpL D bs bm p) w w' := h.sub (by simp [fpL])
theorem DkAt.setDown (h : DkAt w D d bs bm cp p) (b : Bool) : DkMut w (w.setCell ⟨D, 3, none⟩ (.bool b)) D bs bm cp p { d with down := b } := by
  have hk := KeepL.set w D 3 (.bool b)
  exact ⟨⟨p, h.own hk (h.blk.set 3 (.bool b)) (h.plan.keepL hk h.notD.1 h.notD.2) h.ok.keep, .refl _ _⟩, hk.fpD _ _ _⟩
theorem DkAt.setAge (h : DkAt w D d bs bm cp p) (a : Int) : DkMut w (w.setCell ⟨D, 4, none⟩ (.int .i64 a)) D bs bm cp p { d with age := a } := by
  have hk := KeepL.set w D 4 (.int .i64 a)
  exact ⟨⟨p, h.own hk (h.blk.set 4 (.int .i64 a)) (h.plan.keepL hk h.notD.1 h.notD.2) h.ok.keep, .refl _ _⟩, hk.fpD _ _ _⟩
theorem DkAt.setPlan (h : DkAt w D d bs bm cp p) {p' : Option Addr} {pl : Option (Nat × List Nat)} (hp : PlanAt w p' pl) (hok : ∀ a k, pl = some (a, k) → k.length ≤ 256 ∧ (∀ x ∈ k, x ≤ 64) ∧ a ≤ 9223372036854775807) :
    DkAt (w.setCell ⟨D, 2, none⟩ (.pointer p')) D { d with plan := pl } bs bm cp p' ∧ KeepL [D] w (w.setCell ⟨D, 2, none⟩ (.pointer p')) := by
  have hk := KeepL.set w D 2 (.pointer p')
  refine ⟨h.own hk (h.blk.set 2 (.pointer p')) (hp.keepL hk (fun a ha => ?_) h.notD.2) hok, hk⟩
  obtain ⟨cs, hc⟩ := hp.bt a ha
  simp only [List.mem_singleton]
  exact hc.ne h.blk (by decide)
theorem DkAt.f (h : DkAt w D d bs bm cp p) (i : Nat) : w.frozen? ⟨D, i, none⟩ = false := h.blk.froz i
def Dk.restart (d : Dk) : Int × Dk := if d.down = true then (0, { d with down := false }) else (11, d)
set_option maxRecDepth 100000 in
theorem restart_any (h : DkAt w D d bs bm cp p) : Calls Tryz.prog 40 #[.pointer (some ⟨D, 0, none⟩)] w fun e w' => e = .returned (.int .i64 d.restart.1) ∧ DkMut w w' D bs bm cp p d.restart.2 := by
  have HV := Lib.hid (dvalid_any h)
  have H := Lib.hid h
  have c3 := h.c3
  have f3 := h.f 3
  cases hd : d.down with
  | true =>
    rw [hd] at c3
    have HE : Hid (d.restart = (0, { d with down := false })) := Lib.hid (by unfold Dk.restart; rw [if_pos hd])
    clear h
    go_enter Tryz.func40, Tryz.ntmps40
    go_wp2_with fail
    refine HV.out.mono ?_
    rintro e w' ⟨rfl, rfl⟩
    go_wp2_with fail
    go_ret
    rw [HE.out]
    exact ⟨rfl, H.out.setDown false⟩
  | false =>
    rw [hd] at c3
    have HE : Hid (d.restart = (11, d)) := Lib.hid (by unfold Dk.restart; rw [if_neg (by rw [hd]; simp)])
    clear h
    go_enter Tryz.func40, Tryz.ntmps40
    go_wp2_with fail
    refine HV.out.mono ?_
    rintro e w' ⟨rfl, rfl⟩
    go_wp2_with fail
    go_ret
    rw [HE.out]
    exact ⟨rfl, ⟨_, H.out, .refl _ _⟩, KeepL.refl _ _⟩
end
end Go.Proofs.YtdgmjedkhjeadaaGreat
