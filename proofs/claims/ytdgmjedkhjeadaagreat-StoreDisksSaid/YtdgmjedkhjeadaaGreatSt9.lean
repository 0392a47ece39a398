/- A store's state in memory: its keys, its last record. Conditions: as each statement says. -/
import Derived.Test.YtdgmjedkhjeadaaGreatPack
import Derived.Test.YtdgmjedkhjeadaaGreatPay8
import Derived.Test.YtdgmjedkhjeadaaGreatPush2
import Derived.Test.YtdgmjedkhjeadaaGreatTick3
import Derived.Test.YtdgmjedkhjeadaaGreatKeepL
namespace Go.Proofs.YtdgmjedkhjeadaaGreat
open List (setIfInBounds_toArray set_cons_zero set_cons_succ)
open Go.RowKit
set_option linter.unusedVariables false
/-- The blocks of a key: its own, its bits, its used bits. -/
structure KB where
  kb : Nat
  bb : Nat
  cb : Nat
  ub : Nat
  cu : Nat
def KB.pv (x : KB) : Value := .pointer (some ⟨x.kb, 0, none⟩)
def KB.l (x : KB) : List Nat := [x.kb, x.bb, x.ub]
structure KyAt (w : World) (x : KB) (k : Ky) : Prop where
  blk : Bk w x.kb #[.int .i64 (k.id : Int), .slice (some ⟨x.bb, 0, none⟩) k.bits.length x.cb, .slice (some ⟨x.ub, 0, none⟩) k.used.length x.cu] 123
  bits : ∃ s, Bk w x.bb (k.bits.map Value.bool ++ s).toArray 4
  used : ∃ s, Bk w x.ub (k.used.map Value.bool ++ s).toArray 4
  len : k.bits.length = k.used.length
  pos : 1 ≤ k.used.length
  big : k.used.length ≤ 1000
  capb : k.bits.length ≤ x.cb
  capu : k.used.length ≤ x.cu
theorem KyAt.keepL {w w' : World} {x : KB} {k : Ky} {L : List Nat} (h : KyAt w x k) (hk : KeepL L w w') (hL : ∀ b ∈ x.l, b ∉ L) : KyAt w' x k := by
  obtain ⟨h1, ⟨s, h2⟩, ⟨t, h3⟩, h4, h5, h6, h7, h8⟩ := h
  exact ⟨h1.keepL hk (hL _ (by simp [KB.l])), ⟨s, h2.keepL hk (hL _ (by simp [KB.l]))⟩, ⟨t, h3.keepL hk (hL _ (by simp [KB.l]))⟩, h4, h5, h6, h7, h8⟩
/-- The cells of a state. -/
def stC (kv : Value) (j : Jn) (tb : Option Addr) (tc : Nat) : Array Value :=
  #[kv, .int .i64 (j.last : Int), .bool j.ready, .int .i64 (j.age : Int), .int .i64 (j.side : Int), .int .i64 (j.place : Int), .int .i64 (j.tail.epoch : Int), .int .i64 (j.tail.kind : Int), .int .i64 (j.tail.id : Int), .int .i64 (j.tail.a : Int), .int .i64 (j.tail.b : Int), .slice tb j.tail.bits.length tc]
/-- A row of bytes of its own. -/
def BytR (w : World) (A : Option Addr) (c : Nat) (l : List Nat) : Prop := w.ownsRow 0 5 1 (.slice A l.length c) l.length (secC l)
def ob (v : Value) : List Nat := v.ownBlock.toList
theorem mem_ob {v : Value} {k : Nat} : k ∈ ob v ↔ v.ownBlock = some k := by unfold ob; simp
theorem ownsRow_keepB {L : List Nat} {w w' : World} {t : TypeId} {base sz n : Nat} {v : Value} {xs : List Value} (h : w.ownsRow base t sz v n xs) (hk : KeepL L w w') (hL : ∀ k ∈ ob v, k ∉ L) : w'.ownsRow base t sz v n xs := by
  refine ⟨h.1, ?_⟩
  rcases h.2 with h1 | ⟨g, cap, cur, rfl, h2, h3, h4⟩
  · exact .inl h1
  · exact .inr ⟨g, cap, cur, rfl, h2, (show Bk w' g cur t from Bk.keepL h3 hk (hL g (by rw [mem_ob]; rfl))), h4⟩
theorem own_lt {w : World} {t : TypeId} {base sz n : Nat} {v : Value} {xs : List Value} (h : w.ownsRow base t sz v n xs) : ∀ k ∈ ob v, k < w.heap.size := by
  intro k hk
  rw [mem_ob] at hk
  exact (h.lt k hk).2
structure JnOK (j : Jn) : Prop where
  keys : j.keys.length ≤ 1001
  place : j.place ≤ 1000
  tail : RcOK j.tail
  last : j.last < 4611686018427387904
structure JnAt (w : World) (S : Nat) (j : Jn) (kv : Value) (xs : List KB) (tb : Option Addr) (tc : Nat) : Prop where
  ok : JnOK j
  blk : Bk w S (stC kv j tb tc) 117
  row : w.ownsRow 0 121 1 kv j.keys.length (xs.map KB.pv)
  keys : ∀ (i : Nat) (x : KB) (k : Ky), xs[i]? = some x → j.keys[i]? = some k → KyAt w x k
  tail : BytR w tb tc j.tail.bits
  nodup : (xs.flatMap KB.l).Nodup
/-- The blocks of a state that may be written. The row of its last record's bytes is never written. -/
def fpJ (S : Nat) (kv : Value) (xs : List KB) : List Nat := S :: (ob kv ++ xs.flatMap KB.l)
def obT (tb : Option Addr) : List Nat := ob (.slice tb 0 0)
theorem ob_tb (tb : Option Addr) (n c : Nat) : ob (.slice tb n c) = ob (.slice tb 0 0) := by cases tb <;> rfl
section
variable {w w' : World} {S : Nat} {j : Jn} {kv : Value} {xs : List KB} {tb : Option Addr} {tc : Nat}
theorem JnAt.xlen (h : JnAt w S j kv xs tb tc) : xs.length = j.keys.length := by have := h.row.1; simpa using this
theorem JnAt.fpLt (h : JnAt w S j kv xs tb tc) : ∀ k ∈ fpJ S kv xs, k < w.heap.size := by
  intro k hk
  unfold fpJ at hk
  simp only [List.mem_cons, List.mem_append] at hk
  rcases hk with rfl | hk | hk
  · exact h.blk.lt
  · exact own_lt h.row k hk
  · obtain ⟨x, hx, hk⟩ := List.mem_flatMap.1 hk
    obtain ⟨i, hi, rfl⟩ := List.mem_iff_getElem.1 hx
    have hi2 : i < j.keys.length := by rw [← h.xlen]; exact hi
    have hq := h.keys i _ _ (List.getElem?_eq_getElem hi) (List.getElem?_eq_getElem hi2)
    simp only [KB.l, List.mem_cons, List.not_mem_nil, or_false] at hk
    obtain ⟨s, hs⟩ := hq.bits
    obtain ⟨u, hu⟩ := hq.used
    rcases hk with rfl | rfl | rfl
    · exact hq.blk.lt
    · exact hs.lt
    · exact hu.lt
theorem JnAt.tbLt (h : JnAt w S j kv xs tb tc) : ∀ k ∈ obT tb, k < w.heap.size := fun k hk => own_lt h.tail k (by rw [ob_tb]; exact hk)
theorem JnAt.keepL {L : List Nat} (h : JnAt w S j kv xs tb tc) (hk : KeepL L w w') (hL : ∀ k ∈ fpJ S kv xs, k ∉ L) (hT : ∀ k ∈ obT tb, k ∉ L) : JnAt w' S j kv xs tb tc := by
  refine ⟨h.ok, h.blk.keepL hk (hL _ (by simp [fpJ])), ownsRow_keepB h.row hk fun k hk => hL k (by simp [fpJ, hk]), fun i x k hx hy => (h.keys i x k hx hy).keepL hk fun b hb => hL b ?_, ownsRow_keepB h.tail hk fun k hk => hT k ?_, h.nodup⟩
  · unfold fpJ
    simp only [List.mem_cons, List.mem_append, List.mem_flatMap]
    exact .inr (.inr ⟨x, List.mem_of_getElem? hx, hb⟩)
  · rw [ob_tb] at hk
    exact hk
theorem JnAt.far (h : JnAt w S j kv xs tb tc) (hb : Below w.heap.size w w') : JnAt w' S j kv xs tb tc :=
  h.keepL (L := []) (.of_below hb) (fun k hk => by simp) (fun k hk => by simp)
/-- A state is changed to another one, in its own blocks; the bytes of its last record are the old ones, or new ones, or those of a list. -/
def JnMut (w w' : World) (S : Nat) (kv : Value) (xs : List KB) (tb : Option Addr) (X : List Nat) (j' : Jn) : Prop :=
  (∃ kv' xs' tb' tc', JnAt w' S j' kv' xs' tb' tc' ∧ (∀ k ∈ fpJ S kv' xs', k ∈ fpJ S kv xs ∨ w.heap.size ≤ k) ∧ ∀ k ∈ obT tb', k ∈ obT tb ∨ k ∈ X ∨ w.heap.size ≤ k) ∧ KeepL (fpJ S kv xs) w w'
theorem JnAt.same (h : JnAt w S j kv xs tb tc) (X : List Nat) (hb : Below w.heap.size w w') : JnMut w w' S kv xs tb X j := ⟨⟨kv, xs, tb, tc, h.far hb, fun k hk => .inl hk, fun k hk => .inl hk⟩, .of_below hb⟩
theorem KeepL.then {w w1 w2 : World} {L L1 : List Nat} (h : KeepL L w w1) (k : KeepL L1 w1 w2) (hL : ∀ b ∈ L1, b ∈ L ∨ w.heap.size ≤ b) : KeepL L w w2 :=
  ⟨k.os.trans h.os, k.tape.trans h.tape, k.output.trans h.output, Nat.le_trans h.size k.size, fun b h1 h2 => (k.block b (Nat.lt_of_lt_of_le h1 h.size) (fun hm => by
    rcases hL b hm with h3 | h3
    · exact h2 h3
    · omega)).trans (h.block b h1 h2)⟩
theorem JnMut.trans {w w1 w2 : World} {S : Nat} {kv kv1 : Value} {xs xs1 : List KB} {tb tb1 : Option Addr} {X X1 : List Nat} {j2 : Jn} (hf : ∀ k ∈ fpJ S kv1 xs1, k ∈ fpJ S kv xs ∨ w.heap.size ≤ k) (ht : ∀ k ∈ obT tb1, k ∈ obT tb ∨ k ∈ X ∨ w.heap.size ≤ k)
    (hk : KeepL (fpJ S kv xs) w w1) (h2 : JnMut w1 w2 S kv1 xs1 tb1 X1 j2) (hX : ∀ k ∈ X1, k ∈ X ∨ w.heap.size ≤ k) : JnMut w w2 S kv xs tb X j2 := by
  obtain ⟨⟨kv', xs', tb', tc', h3, h4, h5⟩, h6⟩ := h2
  have hs := hk.size
  refine ⟨⟨kv', xs', tb', tc', h3, fun k hk => ?_, fun k hk => ?_⟩, hk.then h6 hf⟩
  · rcases h4 k hk with h | h
    · exact hf k h
    · exact .inr (by omega)
  · rcases h5 k hk with h | h | h
    · exact ht k h
    · rcases hX k h with h | h
      · exact .inr (.inl h)
      · exact .inr (.inr h)
    · exact .inr (.inr (by omega))
end
end Go.Proofs.YtdgmjedkhjeadaaGreat
namespace Go.Proofs.YtdgmjedkhjeadaaGreat
open List (setIfInBounds_toArray set_cons_zero set_cons_succ)
open Go.RowKit
set_option linter.unusedVariables false
/-- The index of a key, or -1. -/
def fidx (l : List Ky) (id : Nat) : Int := match findK l id with | some i => (i : Int) | none => -1
theorem lt_cell {w : World} {p o : Nat} {v : Value} (h : w.cell? ⟨p, o, none⟩ = some v) : p < w.heap.size := by
  rcases Nat.lt_or_ge p w.heap.size with h1 | h1
  · exact h1
  · unfold World.cell? at h
    rw [Array.getElem?_eq_none h1] at h
    cases h
theorem fidx_none {l : List Ky} {id : Nat} (h : ∀ (i : Nat) (k : Ky), l[i]? = some k → k.id ≠ id) : findK l id = none := by
  unfold findK
  rw [List.findIdx?_eq_none_iff]
  intro x hx
  obtain ⟨i, hi, rfl⟩ := List.getElem_of_mem hx
  simpa using h i _ (List.getElem?_eq_getElem hi)
theorem fidx_some {l : List Ky} {id i : Nat} {k : Ky} (hk : l[i]? = some k) (he : k.id = id) (h : ∀ (j : Nat) (k : Ky), j < i → l[j]? = some k → k.id ≠ id) : findK l id = some i := by
  unfold findK
  obtain ⟨hi, rfl⟩ := List.getElem?_eq_some_iff.1 hk
  rw [List.findIdx?_eq_some_iff_getElem]
  refine ⟨hi, by simpa using he, fun j hj => ?_⟩
  simpa using h j _ hj (List.getElem?_eq_getElem (by omega))
theorem findK_get {l : List Ky} {id i : Nat} (h : findK l id = some i) : ∃ k, l[i]? = some k ∧ k.id = id ∧ i < l.length := by
  unfold findK at h
  rw [List.findIdx?_eq_some_iff_getElem] at h
  obtain ⟨hi, h1, _⟩ := h
  exact ⟨_, List.getElem?_eq_getElem hi, by simpa using h1, hi⟩
section
variable {w : World} {S : Nat} {j : Jn} {kv : Value} {xs : List KB} {tb : Option Addr} {tc : Nat}
theorem JnAt.cells (h : JnAt w S j kv xs tb tc) (i : Nat) : w.cell? ⟨S, i, none⟩ = (stC kv j tb tc)[i]? := h.blk.cell i
theorem JnAt.form (h : JnAt w S j kv xs tb tc) : ∃ A c, kv = .slice A j.keys.length c := by
  rcases h.row.2 with ⟨rfl, h1⟩ | ⟨g, cap, cur, rfl, _⟩
  · exact ⟨none, 0, by rw [h1]⟩
  · exact ⟨_, _, rfl⟩
/-- The pointer to a key, in the row of keys. -/
theorem JnAt.ptr (h : JnAt w S j kv xs tb tc) {i : Nat} (hi : i < j.keys.length) : ∃ g c x k, kv = .slice (some ⟨g, 0, none⟩) j.keys.length c ∧ j.keys.length ≤ c ∧ xs[i]? = some x ∧ j.keys[i]? = some k ∧ w.cell? ⟨g, i, none⟩ = some x.pv ∧ KyAt w x k := by
  have hi2 : i < xs.length := by rw [h.xlen]; exact hi
  have hx : xs[i]? = some xs[i] := List.getElem?_eq_getElem hi2
  have hk : j.keys[i]? = some j.keys[i] := List.getElem?_eq_getElem hi
  rcases h.row.2 with ⟨_, h1⟩ | ⟨g, cap, cur, rfl, _, hh, hcap, _, _, htk⟩
  · omega
  · refine ⟨g, cap, _, _, rfl, hcap, hx, hk, ?_, h.keys i _ _ hx hk⟩
    have : (xs.map KB.pv)[i]? = some (xs[i]'hi2).pv := by rw [List.getElem?_map, hx]; rfl
    rw [Bk.cell (show Bk w g cur _ from hh), ← Array.getElem?_toList, ← this, ← htk, List.getElem?_take, if_pos (by omega)]
theorem KyAt.k0 {x : KB} {k : Ky} (h : KyAt w x k) : w.cell? ⟨x.kb, 0, none⟩ = some (.int .i64 (k.id : Int)) := by rw [h.blk.cell]; rfl
theorem KyAt.k1 {x : KB} {k : Ky} (h : KyAt w x k) : w.cell? ⟨x.kb, 1, none⟩ = some (.slice (some ⟨x.bb, 0, none⟩) k.bits.length x.cb) := by rw [h.blk.cell]; rfl
theorem KyAt.k2 {x : KB} {k : Ky} (h : KyAt w x k) : w.cell? ⟨x.kb, 2, none⟩ = some (.slice (some ⟨x.ub, 0, none⟩) k.used.length x.cu) := by rw [h.blk.cell]; rfl
set_option maxRecDepth 100000 in
theorem find1_any (kb p : Nat) (a id : Nat) (hk : w.cell? ⟨kb, 0, none⟩ = some (.int .i64 (a : Int))) (hp : w.cell? ⟨p, 0, none⟩ = some (.int .i64 (id : Int))) :
    Calls Tryz.prog 115 #[.pointer (some ⟨kb, 0, none⟩), .pointer (some ⟨p, 0, none⟩)] w fun e w' => e = .returned (.bool (a == id)) ∧ Below w.heap.size w w' := by
  have e0 : ((a : Int) == (id : Int)) = (a == id) := by
    by_cases e : a = id
    · subst e; simp
    · rw [beq_eq_false_iff_ne.2 e, beq_eq_false_iff_ne]; omega
  go_enter Tryz.func115, Tryz.ntmps115
  go_wp2_with fail
  go_quiet (fail)
  go_wp2_with fail
  go_ret
  refine ⟨by rw [← e0]; rfl, ?_⟩
  exact Qw.below ⟨_, rfl⟩ _
set_option maxRecDepth 100000 in
set_option maxHeartbeats 2000000 in
theorem indexK_any (h : JnAt w S j kv xs tb tc) (id p : Nat) (hp : w.cell? ⟨p, 0, none⟩ = some (.int .i64 (id : Int))) :
    Calls Tryz.prog 114 #[kv, .func (.func 115) #[] #[.pointer (some ⟨p, 0, none⟩)]] w (RetV (.int .i64 (fidx j.keys id)) w) := by
  have H := Lib.hid h; have HP := Lib.hid hp
  have hlt := lt_cell hp
  have hn : j.keys.length ≤ 1001 := h.ok.keys
  obtain ⟨A, c, hkv⟩ := h.form
  have hen : ∀ (v : Value) (W : World), (callFunc 115 #[v, .pointer (some ⟨p, 0, none⟩)]).run Tryz.prog W = .ok (.enter 115 #[v, .pointer (some ⟨p, 0, none⟩)]) W := fun v W => enters_of Tryz.func115 (by kernel_rfl) rfl _ W
  obtain ⟨ln, hln⟩ : ∃ ln, ln = j.keys.length := ⟨_, rfl⟩
  have HLN := Lib.hid hln
  have HKV := Lib.hid hkv
  rw [← hln] at hn hkv
  obtain ⟨R, hR⟩ : ∃ R, R = fidx j.keys id := ⟨_, rfl⟩
  have HR := Lib.hid hR
  rw [← hR, hkv]
  clear h hp hln hR hkv
  go_enter Tryz.func114, Tryz.ntmps114
  go_wp2_with fail
  go_loopw [5, 8] (fun _ i wr => ∃ k : Nat, k ≤ ln ∧ i = .int .i64 k ∧ Below w.heap.size w wr ∧ ∀ i x, i < k → j.keys[i]? = some x → x.id ≠ id) (fun _ i _ => ln - (intOf i).toNat)
  case atStart => exact ⟨0, Nat.zero_le _, rfl, Below.refl _ _, fun j x hj => absurd hj (Nat.not_lt_zero _)⟩
  case round =>
    obtain ⟨k, hk, rfl, hb, hne⟩ := hrel
    obtain ⟨wi, rfl⟩ : ∃ z : World, z = wr := ⟨_, rfl⟩
    have HNE := Lib.hid hne; have HB := Lib.hid hb
    clear hne hb
    by_cases hkl : k < ln
    · have hki : (k : Int) < (ln : Int) := by omega
      have hat := H.out.far HB.out
      obtain ⟨g, c', x, y, he, _, _, hy, c0, hky⟩ := hat.ptr (by rw [← HLN.out]; exact hkl)
      rw [HKV.out] at he
      injection he with he1 he2 he3
      subst he1
      have HC := Lib.hid (find1_any x.kb p y.id id hky.k0 ((HB.out.cell (p := ⟨p, 0, none⟩) hlt).trans HP.out))
      have hen6 := hen (.pointer (some ⟨x.kb, 0, none⟩)) wi
      unfold KB.pv at c0
      have HX := Lib.hid hy
      obtain ⟨b, hb⟩ : ∃ b, b = (y.id == id) := ⟨_, rfl⟩
      have HBE := Lib.hid hb
      rw [← hb] at HC
      clear hen he2 he3 hat hky hy hb
      go_wp2_with fail
      refine HC.out.mono ?_
      clear HC hen6
      rintro e w3 ⟨rfl, hb3⟩
      have HB3 := Lib.hid (bnextK HB.out hb3)
      clear hb3 c0
      cases b with
      | true =>
        have hid : y.id = id := by simpa using HBE.out.symm
        have HF := Lib.hid (fidx_some HX.out hid HNE.out)
        clear hid
        go_wp2_with fail
        go_ret
        exact ⟨by rw [HR.out]; unfold fidx; rw [HF.out]; rfl, HB3.out⟩
      | false =>
        have hid : y.id ≠ id := by simpa using HBE.out.symm
        have HN : Hid (∀ i y, i < k + 1 → j.keys[i]? = some y → y.id ≠ id) := Lib.hid fun i z hj hz => by
          rcases Nat.lt_or_ge i k with h2 | h2
          · exact HNE.out i z h2 hz
          · obtain rfl : i = k := by omega
            rw [HX.out] at hz
            injection hz with hz
            subst hz
            exact hid
        clear hid
        go_wp2_with fail
        go_roundw
        case rel => exact ⟨k + 1, by omega, by go_num, HB3.out, HN.out⟩
        case measure => simp [intOf]; omega
    · have hki : ¬ (k : Int) < (ln : Int) := by omega
      obtain rfl : k = ln := by omega
      clear hen
      have HF : Hid (findK j.keys id = none) := Lib.hid (fidx_none fun i y hy => HNE.out i y (by rw [HLN.out]; exact (List.getElem?_eq_some_iff.1 hy).1) hy)
      go_wp2_with fail
      go_ret
      exact ⟨by rw [HR.out]; unfold fidx; rw [HF.out]; rfl, HB.out⟩
set_option maxRecDepth 100000 in
theorem find_any (h : JnAt w S j kv xs tb tc) (id : Nat) : Calls Tryz.prog 102 #[.pointer (some ⟨S, 0, none⟩), .int .i64 (id : Int)] w (RetV (.int .i64 (fidx j.keys id)) w) := by
  have hmf : ∀ (fn : Fn) (first cap : Array Value) (w : World), (Instr.makeFunc fn first cap).run Tryz.prog w = .ok (.func fn first cap) w := fun _ _ _ _ => rfl
  obtain ⟨w1, hw1⟩ : ∃ z, z = w.alloc (.cells #[.int .i64 (id : Int)] 3) := ⟨_, rfl⟩
  have hb1 : Below w.heap.size w w1 := by rw [hw1]; exact balloc _ _
  have hp : Bk w1 w.heap.size #[.int .i64 (id : Int)] 3 := by rw [hw1]; exact Bk.new _ _ _
  have h1 := h.far hb1
  have c0 : w1.cell? ⟨S, 0, none⟩ = some kv := by rw [h1.cells]; rfl
  have HI := Lib.hid (indexK_any h1 id w.heap.size (by rw [hp.cell]; rfl))
  have HB := Lib.hid hb1
  have HW := Lib.hid hw1
  clear h1 hb1 hp hw1
  go_enter Tryz.func102, Tryz.ntmps102
  go_upto_region 1 with fail
  rw [← HW.out]
  go_wp2_with fail
  refine HI.out.mono ?_
  rintro e w2 ⟨rfl, hb2⟩
  have HB2 := Lib.hid (bnextK HB.out hb2)
  clear hb2
  go_wp2_with fail
  go_ret
  exact ⟨rfl, HB2.out⟩
end
end Go.Proofs.YtdgmjedkhjeadaaGreat
namespace Go.Proofs.YtdgmjedkhjeadaaGreat
open List (setIfInBounds_toArray set_cons_zero set_cons_succ)
open Go.RowKit
set_option linter.unusedVariables false
def epoS (s : Sec) : Nat := max (beV (s.take 4)) (beV (partS s 56 60))
def grtN (d : Dk) (k : Nat) : Nat := ((List.range k).map fun i => epoS (d.newest i)).foldl max 0
theorem grtN_succ (d : Dk) (k : Nat) : grtN d (k + 1) = max (grtN d k) (epoS (d.newest k)) := by
  unfold grtN
  rw [List.range_succ, List.map_append, List.foldl_append]
  rfl
theorem beV4 {l : List Nat} (h : ∀ x ∈ l, x < 256) (hl : l.length ≤ 4) : beV l < 4294967296 := by
  have h1 := beV_lt l h
  have h2 : (256 : Nat) ^ l.length ≤ 256 ^ 4 := Nat.pow_le_pow_right (by omega) hl
  have h3 : (256 : Nat) ^ 4 = 4294967296 := by decide
  omega
theorem epoS_lt {s : Sec} (h : SecOK s) : epoS s < 4294967296 := by
  have h1 := beV4 (l := s.take 4) (fun x hx => h.2 x (List.mem_of_mem_take hx)) (by rw [List.length_take]; omega)
  have h2 := beV4 (l := partS s 56 60) (fun x hx => h.2 x (List.mem_of_mem_drop (List.mem_of_mem_take hx))) (by unfold partS; rw [List.length_take]; omega)
  unfold epoS
  omega
theorem Bk.part {W : World} {b : Nat} {s : Sec} {t : TypeId} (h : Bk W b (secC s).toArray t) (o k : Nat) (hk : o + k ≤ s.length) : Rd W W.heap.size 1 (some ⟨b, o, none⟩) k ((partS s o (o + k)).map fun x : Nat => Value.int .u8 x) := by
  refine ⟨by unfold partS; simp; omega, fun _ => ⟨b, o, rfl, h.lt, fun j u hu => ?_⟩⟩
  rw [h.cell, List.getElem?_toArray]
  unfold partS secC at *
  rw [List.getElem?_map, List.getElem?_take] at hu
  split at hu
  · rw [List.getElem?_drop] at hu
    rw [List.getElem?_map]
    exact hu
  · cases hu
theorem max3 (N a b : Nat) : (if (if N < a then (a : Int) else (N : Int)) < (b : Int) then (b : Int) else if N < a then (a : Int) else (N : Int)) = ((max N (max a b) : Nat) : Int) := by
  by_cases h : N < a
  · simp only [if_pos h]; split <;> omega
  · simp only [if_neg h]; split <;> omega
section
variable {w : World} {D : Nat} {d : Dk} {bs bm cp : Nat} {p : Option Addr}
set_option maxRecDepth 100000 in
set_option maxHeartbeats 1000000 in
theorem greatest_any (h : DkAt w D d bs bm cp p) : Calls Tryz.prog 71 #[.pointer (some ⟨D, 0, none⟩)] w (RetV (.int .i64 (d.greatest : Nat)) w) := by
  have H := Lib.hid h
  have c0 := h.c0
  have hn := h.ok.n256
  clear h
  go_enter Tryz.func71, Tryz.ntmps71
  go_wp2_with fail
  go_loopw [2, 3, 4, 10] (fun v2 _ _ v10 wr => ∃ k : Nat, k ≤ d.dur.length ∧ v10 = .int .i64 (k : Nat) ∧ v2 = .int .i64 (grtN d k : Nat) ∧ Below w.heap.size w wr) (fun _ _ _ v10 _ => d.dur.length - (intOf v10).toNat)
  case atStart => exact ⟨0, Nat.zero_le _, rfl, rfl, Below.refl _ _⟩
  case round =>
    obtain ⟨k, hk, rfl, rfl, hb⟩ := hrel
    obtain ⟨wa, rfl⟩ : ∃ z : World, z = wr := ⟨_, rfl⟩
    have HB := Lib.hid hb
    clear hb
    by_cases hlt : k < d.dur.length
    · have hki : (k : Int) < (d.dur.length : Int) := by omega
      have HA := Lib.hid (H.out.far HB.out)
      have hso := HA.out.newOK hlt
      have HNW := Lib.hid (newest_any HA.out hlt)
      have HG := Lib.hid (grtN_succ d k)
      generalize d.newest k = s at hso HNW HG
      have HSO := Lib.hid hso
      have hsz : (secC s).length = 64 := by rw [secC_length, hso.1]
      clear hso
      go_wp2_with fail
      refine HNW.out.mono ?_
      rintro e w2 ⟨rfl, hb2⟩
      have HB2 := Lib.hid hb2
      clear hb2 HNW
      unfold secV
      go_wp2_with fail
      rw [store_new _ _ _ HSO.out.1]
      go_upto_region 5 with fail
      obtain ⟨w3, hw3⟩ : ∃ z, z = w2.alloc (.cells (secC s).toArray 101) := ⟨_, rfl⟩
      have hb3 : Bk w3 w2.heap.size (secC s).toArray 101 := by rw [hw3]; exact Bk.new _ _ _
      have hl3 : Below w2.heap.size w2 w3 := by rw [hw3]; exact balloc _ _
      rw [← hw3]
      have hb4 : Bk w3.drew w2.heap.size (secC s).toArray 101 := hb3.past (Qw.below (⟨1, rfl⟩ : Qw w3 w3.drew) w3.heap.size) hb3.lt
      have HBF : Hid (Below w.heap.size w w3.drew) := Lib.hid (bnextK (bnextK (bnextK HB.out HB2.out) hl3) (Qw.below (⟨1, rfl⟩ : Qw w3 w3.drew) w3.heap.size))
      have g1 := hb4.part 0 4 (by rw [HSO.out.1]; omega)
      have g2 := hb4.part 56 4 (by rw [HSO.out.1]; omega)
      have HG1 := Lib.hid (get_any _ 4 64 _ _ (by omega) (fun x hx => HSO.out.2 x (by unfold partS at hx; exact List.mem_of_mem_drop (List.mem_of_mem_take hx))) g1)
      have HG2 := Lib.hid (get_any _ 4 8 _ _ (by omega) (fun x hx => HSO.out.2 x (by unfold partS at hx; exact List.mem_of_mem_drop (List.mem_of_mem_take hx))) g2)
      have HEP : Hid (epoS s = max (beV (partS s 0 (0 + 4))) (beV (partS s 56 (56 + 4)))) := Lib.hid (by unfold epoS partS; simp)
      generalize beV (partS s 0 (0 + 4)) = ea at HG1 HEP
      generalize beV (partS s 56 (56 + 4)) = eb at HG2 HEP
      rw [HEP.out] at HG
      clear hw3 hb3 hl3 hb4 g1 g2
      generalize grtN d k = N at HG ⊢
      -- <REGION r5
      refine wp_region_held_drew (S := (fun _ => True)) (by kernel_rfl) ?_ (fun hHeld => ?_)
      · (try dsimp only); all_goals trivial
      refine wpAnyH_take (i := 0) (oi := ⟨some 16, _, _, _, _, _⟩) (v := ?_) rfl (by kernel_rfl) (by kernel_rfl) (by kernel_rfl) (fun _ _ _ h => h) (Or.inl ⟨by rfl, ?_⟩) (by assumption) ?_; rotate_left
      · intro w hSw; (try dsimp only at hSw); go_simp; try with_reducible rfl
      try simp only [Act.put, setIfInBounds_toArray, set_cons_zero, set_cons_succ]
      refine wpAnyH_take (i := 1) (oi := ⟨some 17, _, _, _, _, _⟩) (v := ?_) rfl (by kernel_rfl) (by kernel_rfl) (by kernel_rfl) (fun _ _ _ h => h) (Or.inl ⟨by rfl, ?_⟩) (by assumption) ?_; rotate_left
      · intro w hSw; (try dsimp only at hSw); go_simp; try with_reducible rfl
      try simp only [Act.put, setIfInBounds_toArray, set_cons_zero, set_cons_succ]
      refine wpAnyH_take (i := 3) (oi := ⟨some 19, _, _, _, _, _⟩) (v := ?_) rfl (by kernel_rfl) (by kernel_rfl) (by kernel_rfl) (fun _ _ _ h => h) (Or.inl ⟨by rfl, ?_⟩) (by assumption) ?_; rotate_left
      · intro w hSw; (try dsimp only at hSw); go_simp; try with_reducible rfl
      try simp only [Act.put, setIfInBounds_toArray, set_cons_zero, set_cons_succ]
      refine wpAnyH_ready (rs := [2]) (by kernel_rfl) (by simp) ?_
      refine AllReadyH.cons (o := ⟨some 18, _, _, _, _, _⟩) rfl (fun K hK => ?_) AllReadyH.nil
      go_simp
      refine HG1.out.mono ?_
      rintro e' w' ⟨rfl, rfl⟩
      go_wp2_with fail
      refine hK.out _ _ ?_ (fun hHeld => ?_)
      · (try dsimp only); all_goals trivial
      clear hK K
      try simp only [Act.put, setIfInBounds_toArray, set_cons_zero, set_cons_succ]
      refine wpAnyH_ready (rs := [4]) (by kernel_rfl) (by simp) ?_
      refine AllReadyH.cons (o := ⟨some 20, _, _, _, _, _⟩) rfl (fun K hK => ?_) AllReadyH.nil
      go_simp
      refine HG2.out.mono ?_
      rintro e' w' ⟨rfl, rfl⟩
      go_wp2_with fail
      refine hK.out _ _ ?_ (fun hHeld => ?_)
      · (try dsimp only); all_goals trivial
      clear hK K
      try simp only [Act.put, setIfInBounds_toArray, set_cons_zero, set_cons_succ]
      refine wpAnyH_take (i := 5) (oi := ⟨some 21, _, _, _, _, _⟩) (v := ?_) rfl (by kernel_rfl) (by kernel_rfl) (by kernel_rfl) (fun _ _ _ h => h) (Or.inl ⟨by rfl, ?_⟩) (by assumption) ?_; rotate_left
      · intro w hSw; (try dsimp only at hSw); go_simp; try with_reducible rfl
      try simp only [Act.put, setIfInBounds_toArray, set_cons_zero, set_cons_succ]
      refine wpAnyH_take (i := 6) (oi := ⟨some 2, _, _, _, _, _⟩) (v := ?_) rfl (by kernel_rfl) (by kernel_rfl) (by kernel_rfl) (fun _ _ _ h => h) (Or.inl ⟨by rfl, ?_⟩) (by assumption) ?_; rotate_left
      · intro w hSw; (try dsimp only at hSw); go_simp; try with_reducible rfl
      try simp only [Act.put, setIfInBounds_toArray, set_cons_zero, set_cons_succ]
      refine wpAnyH_done (by kernel_rfl) ?_ _
      go_wp2_with fail
      rw [max3]
      refine ⟨⟨k + 1, by omega, by push_cast; rfl, by rw [HG.out], HBF.out⟩, ?_⟩
      simp only [intOf]; omega
      -- REGION>
    · have hki : ¬ (k : Int) < (d.dur.length : Int) := by omega
      obtain rfl : k = d.dur.length := by omega
      go_wp2_with fail
      go_ret
      exact ⟨rfl, HB.out⟩
end
end Go.Proofs.YtdgmjedkhjeadaaGreat
