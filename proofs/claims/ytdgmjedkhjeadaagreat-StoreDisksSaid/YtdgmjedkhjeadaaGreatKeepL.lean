/- What stays in memory but for some blocks; blocks known whole; rows of numbers. Conditions: as each statement says. -/
import Derived.Test.YtdgmjedkhjeadaaGreatProg
import Derived.Test.YtdgmjedkhjeadaaGreatPush2
import Derived.Lib.SliceRun
import Derived.Test.YtdgmjedkhjeadaaGreatBase
import Derived.WalkKit
import Derived.BigQuiet
namespace Go.Proofs.YtdgmjedkhjeadaaGreat
open Go.RowKit
set_option linter.unusedVariables false
/-- Old memory stays, but for the blocks of a list. -/
structure KeepL (L : List Nat) (w w' : World) : Prop where
  os : w'.os = w.os
  tape : w'.tape = w.tape
  output : w'.output = w.output
  size : w.heap.size ≤ w'.heap.size
  block : ∀ k, k < w.heap.size → k ∉ L → w'.heap[k]? = w.heap[k]?
theorem KeepL.refl (L : List Nat) (w : World) : KeepL L w w := ⟨rfl, rfl, rfl, Nat.le_refl _, fun _ _ _ => rfl⟩
theorem KeepL.trans {L : List Nat} {a b c : World} (h : KeepL L a b) (k : KeepL L b c) : KeepL L a c :=
  ⟨k.os.trans h.os, k.tape.trans h.tape, k.output.trans h.output, Nat.le_trans h.size k.size, fun j h1 h2 => (k.block j (Nat.lt_of_lt_of_le h1 h.size) h2).trans (h.block j h1 h2)⟩
theorem KeepL.to {L L' : List Nat} {a b : World} (h : KeepL L a b) (hL : ∀ k ∈ L, k < a.heap.size → k ∈ L') : KeepL L' a b :=
  ⟨h.os, h.tape, h.output, h.size, fun k h1 h2 => h.block k h1 (fun h3 => h2 (hL k h3 h1))⟩
theorem KeepL.sub {L L' : List Nat} {a b : World} (h : KeepL L a b) (hL : ∀ k ∈ L, k ∈ L') : KeepL L' a b := h.to fun k hk _ => hL k hk
theorem KeepL.set (w : World) (h o : Nat) (u : Value) : KeepL [h] w (w.setCell ⟨h, o, none⟩ u) :=
  ⟨rfl, rfl, rfl, by rw [size_setCell]; exact Nat.le_refl _, fun k _ hk => Below.heap_setCell _ _ _ _ (by simpa using hk)⟩
theorem KeepL.of_below {L : List Nat} {w w' : World} (h : Below w.heap.size w w') : KeepL L w w' := ⟨h.os, h.tape, h.output, h.size, fun k hk _ => h.block k hk⟩
theorem KeepL.alloc (L : List Nat) (w : World) (o : Obj) : KeepL L w (w.alloc o) := .of_below ((Below.refl _ _).alloc (Nat.le_refl _) _)
theorem KeepL.q {L : List Nat} {w w' : World} (h : Qw w w') : KeepL L w w' := .of_below (h.below _)
theorem KeepL.grown {L : List Nat} {w w' : World} {r : Option Nat} (h : w.grownBy w' r) (hr : ∀ k, r = some k → k < w.heap.size → k ∈ L) : KeepL L w w' :=
  ⟨h.os, h.tape, h.output, h.size, fun k hk hL => h.block k hk (fun e => hL (hr k e.symm hk))⟩
theorem KeepL.below {L : List Nat} {w w' : World} {B : Nat} (h : KeepL L w w') (hB : B ≤ w.heap.size) (hL : ∀ k ∈ L, B ≤ k) : Below B w w' :=
  ⟨h.os, h.tape, h.output, h.size, fun k hk => h.block k (by omega) (fun h2 => by have := hL k h2; omega)⟩
theorem KeepL.cell {L : List Nat} {w w' : World} (h : KeepL L w w') {b o : Nat} (hb : b < w.heap.size) (hL : b ∉ L) : w'.cell? ⟨b, o, none⟩ = w.cell? ⟨b, o, none⟩ := World.cell?_of_block (w' := w') (w := w) (a := ⟨b, o, none⟩) (h.block b hb hL)
theorem ownsRow_keepL {L : List Nat} {w w' : World} {base : Nat} {t : TypeId} {sz n : Nat} {v : Value} {xs : List Value} (h : w.ownsRow base t sz v n xs) (hk : KeepL L w w') (hL : ∀ k ∈ L, k < base) : w'.ownsRow base t sz v n xs := by
  refine ⟨h.1, ?_⟩
  rcases h.2 with h1 | ⟨g, cap, cur, rfl, hg1, hh, rest⟩
  · exact .inl h1
  · exact .inr ⟨g, cap, cur, rfl, hg1, (hk.block _ (Array.getElem?_eq_some_iff.1 hh).1 (fun h2 => by have := hL g h2; omega)).trans hh, rest⟩
section
variable {P : Program} {t e : TypeId} {size bytes : Nat}
end
/-- A block known whole. -/
def Bk (w : World) (h : Nat) (cs : Array Value) (t : TypeId) : Prop := w.heap[h]? = some (.cells cs t (0, 0))
theorem Bk.lt {w : World} {h : Nat} {cs : Array Value} {t : TypeId} (k : Bk w h cs t) : h < w.heap.size := (Array.getElem?_eq_some_iff.1 k).1
theorem Bk.past {w w' : World} {h B : Nat} {cs : Array Value} {t : TypeId} (k : Bk w h cs t) (hb : Below B w w') (hB : h < B) : Bk w' h cs t := (hb.block h hB).trans k
theorem Bk.keepL {L : List Nat} {w w' : World} {h : Nat} {cs : Array Value} {t : TypeId} (k : Bk w h cs t) (hb : KeepL L w w') (hL : h ∉ L) : Bk w' h cs t := (hb.block h k.lt hL).trans k
theorem Bk.cell {w : World} {h : Nat} {cs : Array Value} {t : TypeId} (k : Bk w h cs t) (i : Nat) : w.cell? ⟨h, i, none⟩ = cs[i]? := by rw [cell_of_row _ _ _ _ _ _ k]
theorem Bk.froz {w : World} {h : Nat} {cs : Array Value} {t : TypeId} (k : Bk w h cs t) (i : Nat) : w.frozen? ⟨h, i, none⟩ = false := by
  have : w.heap[h]? = some (.cells cs t (0, 0)) := k
  rw [World.frozen?, this]; rfl
theorem Bk.new (w : World) (cs : Array Value) (t : TypeId) : Bk (w.alloc (.cells cs t)) w.heap.size cs t := heap_alloc_new w _
theorem Bk.set {w : World} {h : Nat} {cs : Array Value} {t : TypeId} (k : Bk w h cs t) (i : Nat) (u : Value) : Bk (w.setCell ⟨h, i, none⟩ u) h (cs.setIfInBounds i u) t := by
  have : w.heap[h]? = some (.cells cs t (0, 0)) := k
  show (w.setCell ⟨h, i, none⟩ u).heap[h]? = _
  simp only [World.setCell, Array.getElem?_modify, this, if_true, Option.map_some, Option.isSome_none, Bool.false_eq_true, if_false]
theorem Bk.ne {w : World} {h h' : Nat} {cs cs' : Array Value} {t t' : TypeId} (k : Bk w h cs t) (k' : Bk w h' cs' t') (ht : t ≠ t') : h ≠ h' := by
  rintro rfl
  unfold Bk at k k'
  rw [k] at k'
  simp at k'
  exact ht k'.2
/-- A block of numbers. -/
def IRow (w : World) (h : Nat) (l : List Int) : Prop := Bk w h (l.map (Value.int .i64)).toArray 3
theorem IRow.cell {w : World} {h : Nat} {l : List Int} (k : IRow w h l) {i : Nat} (hi : i < l.length) : w.cell? ⟨h, i, none⟩ = some (.int .i64 (l.getD i 0)) := by
  rw [Bk.cell k]
  simp [hi, List.getD_eq_getElem?_getD]
theorem IRow.set {w : World} {h : Nat} {l : List Int} (k : IRow w h l) (i : Nat) (x : Int) : IRow (w.setCell ⟨h, i, none⟩ (.int .i64 x)) h (l.set i x) := by
  have := Bk.set k i (.int .i64 x)
  unfold IRow
  rw [List.map_set]
  simpa using this
theorem IRow.keepL {L : List Nat} {w w' : World} {h : Nat} {l : List Int} (k : IRow w h l) (hb : KeepL L w w') (hL : h ∉ L) : IRow w' h l := Bk.keepL k hb hL
theorem IRow.froz {w : World} {h : Nat} {l : List Int} (k : IRow w h l) (i : Nat) : w.frozen? ⟨h, i, none⟩ = false := Bk.froz k i
theorem IRow.lt {w : World} {h : Nat} {l : List Int} (k : IRow w h l) : h < w.heap.size := Bk.lt k
theorem bnextK {w0 w w' : World} (h : Below w0.heap.size w0 w) (hb : Below w.heap.size w w') : Below w0.heap.size w0 w' := h.trans (hb.mono h.size)
end Go.Proofs.YtdgmjedkhjeadaaGreat
namespace Go.Proofs.YtdgmjedkhjeadaaGreat
open Go.RowKit
set_option linter.unusedVariables false
theorem infoI : (Tryz.prog.info? 3).map (fun i => (i.zero, i.size, i.bytes)) = some (some (.int .i64 0), 1, 8) := by kernel_rfl
set_option maxRecDepth 100000 in
theorem CloneI_any (A : Option Addr) (n c : Nat) (l : List Int) (w : World) (hn : n ≤ 1073741824) (h : Rd w w.heap.size 1 A n (l.map (Value.int .i64))) :
    Calls Tryz.prog 45 #[.slice A n c] w fun e w' => ∃ A' c', e = .returned (.slice A' n c') ∧ n ≤ c' ∧ w'.ownsRow w.heap.size 3 1 (.slice A' n c') n (l.map (Value.int .i64)) ∧ Below w.heap.size w w' := by
  have H := Lib.hid h; clear h
  obtain ⟨i0, hi0, hz0, hz1, hz2⟩ := info_parts infoI
  have HI0 := Lib.hid hi0; have HZ0 := Lib.hid hz0; have HZ1 := Lib.hid hz1; have HZ2 := Lib.hid hz2
  clear hi0 hz0 hz1 hz2
  have q : ∀ (w : World) (a : Option Addr) (n c n' c' : Nat), (binOp .eql 32 (.slice a n c) (.slice none n' c')).run Tryz.prog w = .ok (.bool a.isNone) w := fun w a n c n' c' => Lib.run_eql_slice_nil w _ _ a n c n' c' Tryz.underlying32
  cases A with
  | none =>
    have hn0 : n = 0 := by
      rcases Nat.eq_zero_or_pos n with h | h
      · exact h
      · obtain ⟨_, _, h1, _⟩ := H.out.2 h; cases h1
    subst hn0
    have hl : l = [] := by have := H.out.1; simpa using this
    subst hl
    clear H
    go_enter Tryz.func45, Tryz.ntmps45
    go_wp2_with fail
    go_ret
    exact ⟨none, 0, rfl, Nat.le_refl _, World.ownsRow_nil _ _ _ _, Below.refl _ _⟩
  | some a =>
    go_enter Tryz.func45, Tryz.ntmps45
    go_wp2_with (at_builtin; refine wpList_append_rd _ rfl (.tmp 5) (.tmp 6) _ rfl w.heap.size 3 i0 _ 1 8 Tryz.underlying32 HI0.out HZ0.out HZ1.out HZ2.out rfl (by decide) _ 0 [] rfl (World.ownsRow_made w #[] 0 (Nat.le_refl _) (by simp [maxLen]) (by simp)) _ (some a) n c _ rfl (H.out.alloc (Nat.le_refl _) _) (by intro u hu; obtain ⟨_, _, rfl⟩ := List.mem_map.1 hu; rfl) (by unfold maxLen; omega) (by omega) (by simp) ?_; intro v1 w1 hown1 hg1)
    rw [Nat.zero_add, List.nil_append] at hown1
    obtain ⟨A', c', rfl, hc⟩ := own_form hown1
    go_ret
    exact ⟨A', c', rfl, hc, hown1, (((Below.refl _ _).alloc (Nat.le_refl _) _).grown hg1 (by simp) (fun g hg => by cases hg; exact Nat.le_refl _))⟩
theorem infoB8 : (Tryz.prog.info? 5).map (fun i => (i.zero, i.size, i.bytes)) = some (some (.int .u8 0), 1, 1) := by kernel_rfl
set_option maxRecDepth 100000 in
theorem clone_b8 (A : Option Addr) (n c : Nat) (l : List Nat) (w : World) (hn : n ≤ 1073741824) (h : Rd w w.heap.size 1 A n (l.map (fun x : Nat => Value.int .u8 x))) :
    Calls Tryz.prog 112 #[.slice A n c] w fun e w' => ∃ A' c', e = .returned (.slice A' n c') ∧ n ≤ c' ∧ w'.ownsRow w.heap.size 5 1 (.slice A' n c') n (l.map (fun x : Nat => Value.int .u8 x)) ∧ Below w.heap.size w w' := by
  have H := Lib.hid h; clear h
  obtain ⟨i0, hi0, hz0, hz1, hz2⟩ := info_parts infoB8
  have HI0 := Lib.hid hi0; have HZ0 := Lib.hid hz0; have HZ1 := Lib.hid hz1; have HZ2 := Lib.hid hz2
  clear hi0 hz0 hz1 hz2
  have q : ∀ (w : World) (a : Option Addr) (n c n' c' : Nat), (binOp .eql 31 (.slice a n c) (.slice none n' c')).run Tryz.prog w = .ok (.bool a.isNone) w := fun w a n c n' c' => Lib.run_eql_slice_nil w _ _ a n c n' c' Tryz.underlying31
  cases A with
  | none =>
    have hn0 : n = 0 := by
      rcases Nat.eq_zero_or_pos n with h | h
      · exact h
      · obtain ⟨_, _, h1, _⟩ := H.out.2 h; cases h1
    subst hn0
    have hl : l = [] := by have := H.out.1; simpa using this
    subst hl
    clear H
    go_enter Tryz.func112, Tryz.ntmps112
    go_wp2_with fail
    go_ret
    exact ⟨none, 0, rfl, Nat.le_refl _, World.ownsRow_nil _ _ _ _, Below.refl _ _⟩
  | some a =>
    go_enter Tryz.func112, Tryz.ntmps112
    go_wp2_with (at_builtin; refine wpList_append_rd _ rfl (.tmp 5) (.tmp 6) _ rfl w.heap.size 5 i0 _ 1 1 Tryz.underlying31 HI0.out HZ0.out HZ1.out HZ2.out rfl (by decide) _ 0 [] rfl (World.ownsRow_made w #[] 0 (Nat.le_refl _) (by simp [maxLen]) (by simp)) _ (some a) n c _ rfl (H.out.alloc (Nat.le_refl _) _) (by intro u hu; obtain ⟨_, _, rfl⟩ := List.mem_map.1 hu; rfl) (by unfold maxLen; omega) (by omega) (by simp) ?_; intro v1 w1 hown1 hg1)
    rw [Nat.zero_add, List.nil_append] at hown1
    obtain ⟨A', c', rfl, hc⟩ := own_form hown1
    go_ret
    exact ⟨A', c', rfl, hc, hown1, (((Below.refl _ _).alloc (Nat.le_refl _) _).grown hg1 (by simp) (fun g hg => by cases hg; exact Nat.le_refl _))⟩
theorem beV_take_succ (l : List Nat) (j : Nat) (hj : j < l.length) : beV (l.take (j + 1)) = beV (l.take j) * 256 + l[j] := by
  rw [List.take_succ_eq_append_getElem hj, beV_append]
theorem beV_take_lt (l : List Nat) (hl : ∀ x ∈ l, x < 256) (j : Nat) (hj : j ≤ 6) : beV (l.take j) < 281474976710656 := by
  have h1 := beV_lt (l.take j) (fun x hx => hl x (List.mem_of_mem_take hx))
  have h2 : (256 : Nat) ^ (l.take j).length ≤ 256 ^ 6 := Nat.pow_le_pow_right (by omega) (by rw [List.length_take]; omega)
  have h3 : (256 : Nat) ^ 6 = 281474976710656 := by decide
  omega
theorem or_byte (v x : Nat) (hv : v < 281474976710656) (hx : x < 256) : bits BinOp.or IntKind.i64 ((v : Int) * 256) (x : Int) = ((v * 256 + x : Nat) : Int) := by
  have e : (v : Int) * 256 = ((v * 256 : Nat) : Int) := by omega
  rw [e]
  have h1 : (BitVec.ofInt 64 ((v * 256 : Nat) : Int)).toNat = v * 256 := by rw [BitVec.toNat_ofInt]; omega
  have h2 : (BitVec.ofInt 64 (x : Int)).toNat = x := by rw [BitVec.toNat_ofInt]; omega
  unfold bits
  simp only
  show IntKind.i64.wrap (((BitVec.ofInt 64 ((v * 256 : Nat) : Int) ||| BitVec.ofInt 64 (x : Int)).toNat : Nat) : Int) = _
  rw [BitVec.toNat_or, h1, h2]
  have h3 : v * 256 ||| x = v * 256 + x := by
    have := Nat.two_pow_add_eq_or_of_lt (i := 8) (b := x) (by omega) v
    rw [show v * 256 = 2 ^ 8 * v by omega]
    exact this.symm
  rw [h3, IntKind.wrap_i64]; omega
set_option maxRecDepth 100000 in
set_option maxHeartbeats 1000000 in
theorem get_any (A : Option Addr) (n c : Nat) (l : List Nat) (w : World) (hn : n ≤ 6) (hl : ∀ x ∈ l, x < 256) (hr : Rd w w.heap.size 1 A n (l.map fun x : Nat => Value.int .u8 x)) :
    Calls Tryz.prog 97 #[.slice A n c] w fun e w' => e = .returned (.int .i64 (beV l : Nat)) ∧ w = w' := by
  have hln : l.length = n := by have := hr.1; simpa using this
  have HR := Lib.hid hr; have HLN := Lib.hid hln; have HL := Lib.hid hl
  clear hr hln hl
  go_enter Tryz.func97, Tryz.ntmps97
  go_wp2_with fail
  go_loopw [2, 4, 7] (fun v2 _ v7 wr => ∃ j : Nat, j ≤ n ∧ v7 = .int .i64 (j : Nat) ∧ v2 = .int .i64 (beV (l.take j) : Nat) ∧ wr = w) (fun _ _ v7 _ => n - (intOf v7).toNat)
  case atStart => exact ⟨0, Nat.zero_le _, rfl, rfl, rfl⟩
  case round =>
    obtain ⟨j, hj, rfl, rfl, rfl⟩ := hrel
    by_cases hlt : j < n
    · have hji : (j : Int) < (n : Int) := by omega
      obtain ⟨b, off, rfl, hbl, hcell⟩ := HR.out.2 (by omega)
      have hjl : j < l.length := by rw [HLN.out]; exact hlt
      have cj := hcell j (.int .u8 (l[j] : Nat)) (by rw [List.getElem?_map, List.getElem?_eq_getElem hjl]; rfl)
      have hx : l[j] < 256 := HL.out _ (List.getElem_mem hjl)
      have HS := Lib.hid (beV_take_succ l j hjl)
      have hv := beV_take_lt l HL.out j (by omega)
      generalize l[j] = x at cj HS hx
      generalize beV (l.take j) = v at HS hv ⊢
      clear hcell hbl hjl
      have HO := Lib.hid (or_byte v x hv hx)
      go_wp2_with fail
      refine ⟨⟨j + 1, by omega, by go_num, by rw [HO.out, HS.out], by first | rfl | trivial⟩, by simp [intOf]; omega⟩
    · have hji : ¬ (j : Int) < (n : Int) := by omega
      have HB : Hid (beV (l.take j) = beV l) := Lib.hid (by rw [List.take_of_length_le (by rw [HLN.out]; omega)])
      go_wp2_with fail
      go_ret
      exact ⟨by first | rfl | (rw [HB.out]; rfl), rfl⟩
def QW (v : Value) (w : World) (e : Ending) (w' : World) : Prop := e = .returned v ∧ Qw w w'
/-- The first place of a value, or -1. -/
def ixB (l : List Bool) (v : Bool) : Int := match l.findIdx? (fun x => x == v) with | some i => (i : Int) | none => -1
theorem ixB_some {l : List Bool} {v : Bool} {k : Nat} (hk : l[k]? = some v) (h : ∀ (i : Nat) (x : Bool), i < k → l[i]? = some x → x ≠ v) : ixB l v = (k : Int) := by
  obtain ⟨hi, he⟩ := List.getElem?_eq_some_iff.1 hk
  have : l.findIdx? (fun x => x == v) = some k := by
    rw [List.findIdx?_eq_some_iff_getElem]
    refine ⟨hi, by simp [he], fun j hj => ?_⟩
    simpa using h j _ hj (List.getElem?_eq_getElem (by omega))
  unfold ixB; rw [this]
theorem ixB_none {l : List Bool} {v : Bool} (h : ∀ (i : Nat) (x : Bool), l[i]? = some x → x ≠ v) : ixB l v = -1 := by
  have : l.findIdx? (fun x => x == v) = none := by
    rw [List.findIdx?_eq_none_iff]
    intro x hx
    obtain ⟨i, hi, rfl⟩ := List.getElem_of_mem hx
    simpa using h i _ (List.getElem?_eq_getElem hi)
  unfold ixB; rw [this]
theorem ixB_ge (l : List Bool) (v : Bool) : decide (0 ≤ ixB l v) = decide (v ∈ l) := by
  unfold ixB
  cases h : l.findIdx? (fun x => x == v) with
  | none =>
    rw [List.findIdx?_eq_none_iff] at h
    have : v ∉ l := fun hm => by simpa using h v hm
    simp [this]
  | some i =>
    rw [List.findIdx?_eq_some_iff_getElem] at h
    obtain ⟨hi, h1, _⟩ := h
    have : v ∈ l := by
      have := List.getElem_mem hi
      have e : l[i] = v := by simpa using h1
      rw [← e]; exact this
    simp [this]
set_option maxRecDepth 100000 in
theorem indexB_any (A : Option Addr) (n c : Nat) (l : List Bool) (v : Bool) (w : World) (hn : n ≤ 1000000) (hr : Rd w w.heap.size 1 A n (l.map Value.bool)) :
    Calls Tryz.prog 91 #[.slice A n c, .bool v] w (QW (.int .i64 (ixB l v)) w) := by
  have hl : l.length = n := by have := hr.1; simpa using this
  have HL := Lib.hid hl; have HR := Lib.hid hr
  obtain ⟨R, hR⟩ : ∃ R, R = ixB l v := ⟨_, rfl⟩
  have HRE := Lib.hid hR
  rw [← hR]
  clear hl hr hR
  go_enter Tryz.func91, Tryz.ntmps91
  go_wp2_with fail
  go_loopw [5, 8] (fun _ i wr => ∃ k : Nat, k ≤ n ∧ i = .int .i64 k ∧ Qw w wr ∧ ∀ i x, i < k → l[i]? = some x → x ≠ v) (fun _ i _ => n - (intOf i).toNat)
  case atStart => exact ⟨0, Nat.zero_le _, rfl, ⟨0, rfl⟩, fun j x hj => absurd hj (Nat.not_lt_zero _)⟩
  case round =>
    obtain ⟨k, hk, rfl, ⟨q, rfl⟩, hne⟩ := hrel
    have HNE := Lib.hid hne
    clear hne
    by_cases hkl : k < n
    · have hki : (k : Int) < (n : Int) := by omega
      obtain ⟨b, off, hA, hlt, hc⟩ := HR.out.2 (by omega)
      subst hA
      have hkl2 : k < l.length := by rw [HL.out]; exact hkl
      have hx : l[k]? = some l[k] := List.getElem?_eq_getElem hkl2
      have c0 : w.cell? ⟨b, off + k, none⟩ = some (.bool l[k]) := hc k _ (by rw [List.getElem?_map, hx]; rfl)
      clear hc
      generalize l[k] = x at hx c0
      have HX := Lib.hid hx
      clear hx hkl2
      have hbx : (v == x) = decide (v = x) := by cases v <;> cases x <;> rfl
      by_cases hv : x = v
      · subst hv
        have e1 : (x == x) = true := by simp
        go_wp2_with fail
        go_ret
        exact ⟨by rw [HRE.out, ixB_some HX.out HNE.out]; rfl, ⟨q, rfl⟩⟩
      · have e1 : (v == x) = false := by cases v <;> cases x <;> simp_all
        have HN : Hid (∀ i y, i < k + 1 → l[i]? = some y → y ≠ v) := Lib.hid fun i y hi hy => by
          rcases Nat.lt_or_ge i k with h2 | h2
          · exact HNE.out i y h2 hy
          · obtain rfl : i = k := by omega
            rw [HX.out] at hy
            injection hy with hy
            subst hy
            exact hv
        clear hv hbx
        go_wp2_with fail
        go_roundw
        case rel => exact ⟨k + 1, by omega, by go_num, ⟨q, rfl⟩, HN.out⟩
        case measure => simp [intOf]; omega
    · have hki : ¬ (k : Int) < (n : Int) := by omega
      obtain rfl : k = n := by omega
      go_wp2_with fail
      go_ret
      exact ⟨by rw [HRE.out, ixB_none fun i x hi => HNE.out i x (by have := (List.getElem?_eq_some_iff.1 hi).1; rw [HL.out] at this; exact this) hi]; rfl, ⟨q, rfl⟩⟩
set_option maxRecDepth 100000 in
theorem contB_any (A : Option Addr) (n c : Nat) (l : List Bool) (v : Bool) (w : World) (hn : n ≤ 1000000) (hr : Rd w w.heap.size 1 A n (l.map Value.bool)) :
    Calls Tryz.prog 64 #[.slice A n c, .bool v] w (QW (.bool (decide (v ∈ l))) w) := by
  have HI := Lib.hid (indexB_any A n c l v w hn hr)
  have HG := Lib.hid (ixB_ge l v)
  generalize ixB l v = z at HI HG
  generalize decide (v ∈ l) = b at HG ⊢
  clear hr
  go_enter Tryz.func64, Tryz.ntmps64
  go_wp2_with fail
  refine HI.out.mono ?_
  rintro e w1 ⟨rfl, hq⟩
  have HQ := Lib.hid hq
  have hg := HG.out
  clear hq
  go_wp2_with fail
  go_ret
  exact ⟨by rw [← hg]; rfl, HQ.out⟩
end Go.Proofs.YtdgmjedkhjeadaaGreat
