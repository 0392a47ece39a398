/- The contract of New of the cascades. Conditions: as each statement says. -/
import Derived.Test.YtfinjdkcgmepfaaRecSearch
import Derived.Carry
import Derived.Test.YtfinjdkcgmepfaaPerm2
import Derived.Test.YtfinjdkcgmepfaaDrawMath
import Derived.Test.YtfinjdkcgmepfaaOpen
import Derived.Test.YtfinjdkcgmepfaaBits2
namespace Go.Proofs.Ytfinjdkcgmepfaa
open Go.RowKit
set_option linter.unusedVariables false
set_option maxRecDepth 100000 in
theorem Clone_bool (A : Option Addr) (n c : Nat) (l : List Bool) (w : World) (hn : n ≤ 1073741824) (h : Rd w w.heap.size 1 A n (l.map (Value.bool))) :
    Calls Try.prog 33 #[.slice A n c] w fun e w' => ∃ A' c', e = .returned (.slice A' n c') ∧ n ≤ c' ∧ w'.ownsRow w.heap.size 4 1 (.slice A' n c') n (l.map (Value.bool)) ∧ Below w.heap.size w w' := by
  have H := Lib.hid h; clear h
  obtain ⟨i0, hi0, hz0, hz1, hz2⟩ := info_parts info_bool
  have HI0 := Lib.hid hi0; have HZ0 := Lib.hid hz0; have HZ1 := Lib.hid hz1; have HZ2 := Lib.hid hz2
  clear hi0 hz0 hz1 hz2
  have q : ∀ (w : World) (a : Option Addr) (n c n' c' : Nat), (binOp .eql 23 (.slice a n c) (.slice none n' c')).run Try.prog w = .ok (.bool a.isNone) w := fun w a n c n' c' => Lib.run_eql_slice_nil w _ _ a n c n' c' Try.underlying23
  cases A with
  | none =>
    have hn0 : n = 0 := by
      rcases Nat.eq_zero_or_pos n with h | h
      · exact h
      · obtain ⟨_, _, h1, _⟩ := H.out.2 h; cases h1
    subst hn0
    have hl : l = [] := by have := H.out.1; simpa using this
    subst hl
    clear H
    go_enter Try.func33, Try.ntmps33
    go_wp2_with fail
    go_ret
    exact ⟨none, 0, rfl, Nat.le_refl _, World.ownsRow_nil _ _ _ _, Below.refl _ _⟩
  | some a =>
    go_enter Try.func33, Try.ntmps33
    go_wp2_with (at_builtin; refine wpList_append_rd _ rfl (.tmp 5) (.tmp 6) _ rfl w.heap.size 4 i0 _ 1 1 Try.underlying23 HI0.out HZ0.out HZ1.out HZ2.out rfl (by decide) _ 0 [] rfl (World.ownsRow_made w #[] 0 (Nat.le_refl _) (by simp [maxLen]) (by simp)) _ (some a) n c _ rfl (H.out.alloc (Nat.le_refl _) _) (by intro u hu; obtain ⟨_, _, rfl⟩ := List.mem_map.1 hu; rfl) (by unfold maxLen; omega) (by omega) (by simp) ?_; intro v1 w1 hown1 hg1)
    rw [Nat.zero_add, List.nil_append] at hown1
    obtain ⟨A', c', rfl, hc⟩ := own_form hown1
    go_ret
    exact ⟨A', c', rfl, hc, hown1, (((Below.refl _ _).alloc (Nat.le_refl _) _).grown hg1 (by simp) (fun g hg => by cases hg; exact Nat.le_refl _))⟩
/-- A machine that is being made: k passes have their orders and blocks. -/
structure NAt (w : World) (base p km n P B s k j : Nat) (Ab : Option Addr) (cbt : Nat) (b : List Bool) (vo vb : Value) (os bs : List (Option Addr × Nat)) : Prop where
  cells : w.heap[p]? = some (.cells #[.bool true, .int .i64 P, .int .i64 B, .int .u64 s, vo, vb, .slice Ab n cbt, .map (some km), .slice none 0 0, .int .i64 0, .bool false, .int .i64 0, .int .i64 0, .bool false, .int .i64 0, .int .i64 0, .int .i64 0, .bool false, .int .i64 0, .int .i64 0, .int .i64 0, .bool false] 83 (0, 0))
  bits : w.ownsRow base 4 1 (.slice Ab n cbt) n (b.map Value.bool)
  known : KnAt w km []
  kmb : base ≤ km
  pb : base ≤ p
  nc : n ≤ cbt
  ol : os.length = k
  bl : bs.length = j
  ord : w.ownsRow base 38 1 vo k (os.map fun a => .slice a.1 n a.2)
  blk : w.ownsRow base 97 1 vb j (bs.mapIdx fun i a => .slice a.1 (cutL B n i).length a.2)
  ordr : ∀ i A c, os[i]? = some (A, c) → n ≤ c ∧ w.ownsRow base 3 1 (.slice A n c) n ((orderL s n i).map (Value.int .i64))
  blkr : ∀ i A c, bs[i]? = some (A, c) → (cutL B n i).length ≤ c ∧ w.ownsRow base 81 3 (.slice A (cutL B n i).length c) (cutL B n i).length (qCells (cutL B n i))
theorem NAt.below {w w' : World} {base p km n P B s k j : Nat} {Ab : Option Addr} {cbt : Nat} {b : List Bool} {vo vb : Value} {os bs : List (Option Addr × Nat)} (h : NAt w base p km n P B s k j Ab cbt b vo vb os bs) (hb : Below w.heap.size w w') : NAt w' base p km n P B s k j Ab cbt b vo vb os bs :=
  { h with
    cells := (hb.block _ (Array.getElem?_eq_some_iff.1 h.cells).1).trans h.cells
    bits := ownsRow_below h.bits hb (Nat.le_refl _)
    known := h.known.keep (hb.block _ h.known.lt)
    ord := ownsRow_below h.ord hb (Nat.le_refl _)
    blk := ownsRow_below h.blk hb (Nat.le_refl _)
    ordr := fun i A c hi => ⟨(h.ordr i A c hi).1, ownsRow_below (h.ordr i A c hi).2 hb (Nat.le_refl _)⟩
    blkr := fun i A c hi => ⟨(h.blkr i A c hi).1, ownsRow_below (h.blkr i A c hi).2 hb (Nat.le_refl _)⟩ }
theorem bcells_n {w w' : World} (h : Below w.heap.size w w') {b o : Nat} {v : Value} (hc : w.cell? ⟨b, o, none⟩ = some v) : w'.cell? ⟨b, o, none⟩ = some v := by
  refine (h.cell (p := ⟨b, o, none⟩) ?_).trans hc
  unfold World.cell? at hc
  split at hc
  · rename_i cc t fz hb; exact (Array.getElem?_eq_some_iff.1 hb).1
  · cases hc
/-- The machine as it is laid. -/
def NewA (w1 : World) (base n P B s : Nat) (b : List Bool) (v7 : Value) (wx : World) : Prop :=
  ∃ (p km cbt : Nat) (Ab : Option Addr), v7 = .pointer (some ⟨p, 0, none⟩) ∧ NAt wx base p km n P B s 0 0 Ab cbt b (.slice none 0 0) (.slice none 0 0) [] [] ∧ Below w1.heap.size w1 wx
abbrev nCells (P B s n : Nat) (Ab : Option Addr) (cbt km : Nat) : Array Value := #[.bool true, .int .i64 P, .int .i64 B, .int .u64 s, .slice none 0 0, .slice none 0 0, .slice Ab n cbt, .map (some km), .slice none 0 0, .int .i64 0, .bool false, .int .i64 0, .int .i64 0, .bool false, .int .i64 0, .int .i64 0, .int .i64 0, .bool false, .int .i64 0, .int .i64 0, .int .i64 0, .bool false]
theorem NewA_one {w1 wd wc : World} {base n P B s cbt : Nat} {Ab : Option Addr} {b : List Bool} (hd : Below w1.heap.size w1 wd) (hb : base ≤ w1.heap.size) (hc : n ≤ cbt) (ho : wc.ownsRow wd.heap.size 4 1 (.slice Ab n cbt) n (b.map Value.bool)) (hw : Below wd.heap.size wd wc) :
    NewA w1 base n P B s b (.pointer (some ⟨wc.heap.size + 1, 0, none⟩)) ((wc.alloc (.map #[] 0)).alloc (.cells (nCells P B s n Ab cbt wc.heap.size) 83)) := by
  have hsd := hd.size
  have hsz := hw.size
  have e1 : (wc.alloc (.map #[] 0)).heap.size = wc.heap.size + 1 := by simp
  have b1 : Below wc.heap.size wc (wc.alloc (.map #[] 0)) := (Below.refl _ _).alloc (Nat.le_refl _) _
  have b2 : Below (wc.alloc (.map #[] 0)).heap.size (wc.alloc (.map #[] 0)) ((wc.alloc (.map #[] 0)).alloc (.cells (nCells P B s n Ab cbt wc.heap.size) 83)) := (Below.refl _ _).alloc (Nat.le_refl _) _
  have b3 := b1.trans (b2.mono (by omega))
  refine ⟨wc.heap.size + 1, wc.heap.size, cbt, Ab, rfl, ⟨?_, ownsRow_below (ownsRow_mono ho (by omega)) b3 (Nat.le_refl _), ?_, by omega, by omega, hc, rfl, rfl, World.ownsRow_nil _ _ _ _, World.ownsRow_nil _ _ _ _, by simp, by simp⟩, hd.trans ((hw.mono hsd).trans (b3.mono (by omega)))⟩
  · rw [← e1]; exact heap_alloc_new _ _
  · exact (KnAt.made wc).keep (b2.block _ (by omega))
theorem NewA_two {w1 wd wc : World} {base n P B s cbt : Nat} {Ab : Option Addr} {b : List Bool} (hd : Below (w1.alloc (.map #[] 0)).heap.size (w1.alloc (.map #[] 0)) wd) (hb : base ≤ w1.heap.size) (hc : n ≤ cbt) (ho : wc.ownsRow wd.heap.size 4 1 (.slice Ab n cbt) n (b.map Value.bool)) (hw : Below wd.heap.size wd wc) :
    NewA w1 base n P B s b (.pointer (some ⟨wc.heap.size, 0, none⟩)) (wc.alloc (.cells (nCells P B s n Ab cbt w1.heap.size) 83)) := by
  have hsd := hd.size
  have hsz := hw.size
  have e1 : (w1.alloc (.map #[] 0)).heap.size = w1.heap.size + 1 := by simp
  have b1 : Below w1.heap.size w1 (w1.alloc (.map #[] 0)) := (Below.refl _ _).alloc (Nat.le_refl _) _
  have b2 : Below wc.heap.size wc (wc.alloc (.cells (nCells P B s n Ab cbt w1.heap.size) 83)) := (Below.refl _ _).alloc (Nat.le_refl _) _
  refine ⟨wc.heap.size, w1.heap.size, cbt, Ab, rfl, ⟨heap_alloc_new _ _, ownsRow_below (ownsRow_mono ho (by omega)) b2 (Nat.le_refl _), ?_, by omega, by omega, hc, rfl, rfl, World.ownsRow_nil _ _ _ _, World.ownsRow_nil _ _ _ _, by simp, by simp⟩, b1.trans ((hd.mono (by omega)).trans ((hw.mono (by omega)).trans (b2.mono (by omega))))⟩
  exact (((KnAt.made w1).keep (hd.block _ (by omega))).keep (hw.block _ (by omega))).keep (b2.block _ (by omega))
def st0 (b : List Bool) : Mst := ⟨b, [], 0, false, 0, 0, false, ⟨0, 0, 0⟩, false, ⟨0, 0, 0⟩, false⟩
/-- What New hands back. -/
def NewP (n P B s : Nat) (b : List Bool) (w : World) (e : Ending) (w' : World) : Prop :=
  ∃ (L : Lay) (vt : Value), e = .returned (.tuple #[ptrV L, .int .i64 0]) ∧ L.n = n ∧ L.P = P ∧ L.B = B ∧ L.s = s ∧ w.heap.size < L.base ∧ MAt w' L vt (advS L (st0 b)) ∧ Below w.heap.size w w'
end Go.Proofs.Ytfinjdkcgmepfaa
/- The memory of New of the cascades. Conditions: as each statement says. -/
namespace Go.Proofs.Ytfinjdkcgmepfaa
open Go.RowKit
set_option linter.unusedVariables false
theorem info_ints : (Try.prog.info? 38).map (fun i => (i.zero, i.size, i.bytes)) = some (some (.slice none 0 0), 1, 24) := by kernel_rfl
theorem elB_ints : ElemB Try.prog 34 38 1 24 := ElemB.of Try.underlying34 info_ints rfl (by decide)
theorem info_qs : (Try.prog.info? 97).map (fun i => (i.zero, i.size, i.bytes)) = some (some (.slice none 0 0), 1, 24) := by kernel_rfl
theorem elB_qs : ElemB Try.prog 78 97 1 24 := ElemB.of Try.underlying78 info_qs rfl (by decide)
/-- A row of another type stays where a row grows and a cell of the machine is set. -/
theorem row_keep {w9 w8 : World} {B B' t te sz sz' n n' p o : Nat} {v vo u : Value} {xs ys : List Value} {cs : Array Value} (h : w9.ownsRow B t sz v n xs) (hg : w9.grownBy w8 vo.ownBlock) (ho : w9.ownsRow B' te sz' vo n' ys) (hp : w8.heap[p]? = some (.cells cs 83 (0, 0))) (h1 : t ≠ te) (h2 : t ≠ 83) :
    (w8.setCell ⟨p, o, none⟩ u).ownsRow B t sz v n xs := by
  have h8 := ownsRow_grown h hg (fun k hk e => type_ne2 h hk ho e.symm h1)
  exact ownsRow_setCell_other h8 (a := ⟨p, o, none⟩) (fun e => type_ne h8 e hp h2) u
theorem NAt.p_ne {w : World} {base p km n P B s k j : Nat} {Ab : Option Addr} {cbt : Nat} {b : List Bool} {vo vb : Value} {os bs : List (Option Addr × Nat)} (h : NAt w base p km n P B s k j Ab cbt b vo vb os bs) : km ≠ p := fun e => map_ne_row (by rw [e]; exact h.cells) h.known
theorem NAt.pushO {w w9 w8 : World} {base p km n P B s k j c : Nat} {A Ab : Option Addr} {cbt : Nat} {b : List Bool} {vo vb v8 : Value} {os bs : List (Option Addr × Nat)} (h : NAt w base p km n P B s k j Ab cbt b vo vb os bs) (hbw : base ≤ w.heap.size) (hb : Below w.heap.size w w9) (hc : n ≤ c) (ho : w9.ownsRow w.heap.size 3 1 (.slice A n c) n ((orderL s n k).map (Value.int .i64)))
    (hown : w8.ownsRow base 38 1 v8 (k + 1) ((os.map fun a => Value.slice a.1 n a.2) ++ [.slice A n c])) (hg : w9.grownBy w8 vo.ownBlock) : NAt (w8.setCell ⟨p, 4, none⟩ v8) base p km n P B s (k + 1) j Ab cbt b v8 vb (os ++ [(A, c)]) bs := by
  have h9 := h.below hb
  have hp8 := (hg.block p (Array.getElem?_eq_some_iff.1 h9.cells).1 (fun e => type_ne h9.ord e.symm h9.cells (by decide))).trans h9.cells
  have hkp := h.p_ne
  refine ⟨?_, row_keep h9.bits hg h9.ord hp8 (by decide) (by decide), (h9.known.keep (hg.block km h9.known.lt (fun e => map_ne h9.ord e.symm h9.known))).keep (Below.heap_setCell _ _ _ _ hkp), h.kmb, h.pb, h.nc, by simp [h.ol], h.bl, ?_, row_keep h9.blk hg h9.ord hp8 (by decide) (by decide), ?_, ?_⟩
  · have := blk_setR hp8 (o := 4) v8
    rw [this]; rfl
  · rw [List.map_append]
    exact ownsRow_setCell_other hown (a := ⟨p, 4, none⟩) (fun e => type_ne hown e hp8 (by decide)) v8
  · intro i A' c' hi
    by_cases hik : i < os.length
    · rw [List.getElem?_append_left hik] at hi
      exact ⟨(h9.ordr i A' c' hi).1, row_keep (h9.ordr i A' c' hi).2 hg h9.ord hp8 (by decide) (by decide)⟩
    · rw [List.getElem?_append_right (by omega)] at hi
      obtain ⟨hl, hv⟩ := List.getElem?_eq_some_iff.1 hi
      simp only [List.length_singleton] at hl
      have hie : i = k := by have := h.ol; omega
      subst hie
      have h0 : i - os.length = 0 := by omega
      simp only [h0, List.getElem_singleton, Prod.mk.injEq] at hv
      obtain ⟨rfl, rfl⟩ := hv
      exact ⟨hc, row_keep (ownsRow_mono ho hbw) hg h9.ord hp8 (by decide) (by decide)⟩
  · intro i A' c' hi
    exact ⟨(h9.blkr i A' c' hi).1, row_keep (h9.blkr i A' c' hi).2 hg h9.ord hp8 (by decide) (by decide)⟩
theorem NAt.pushB {w w9 w8 : World} {base p km n P B s k j c : Nat} {A Ab : Option Addr} {cbt : Nat} {b : List Bool} {vo vb v8 : Value} {os bs : List (Option Addr × Nat)} (h : NAt w base p km n P B s k j Ab cbt b vo vb os bs) (hbw : base ≤ w.heap.size) (hb : Below w.heap.size w w9) (hc : (cutL B n j).length ≤ c) (ho : w9.ownsRow w.heap.size 81 3 (.slice A (cutL B n j).length c) (cutL B n j).length (qCells (cutL B n j)))
    (hown : w8.ownsRow base 97 1 v8 (j + 1) ((bs.mapIdx fun i a => Value.slice a.1 (cutL B n i).length a.2) ++ [.slice A (cutL B n j).length c])) (hg : w9.grownBy w8 vb.ownBlock) : NAt (w8.setCell ⟨p, 5, none⟩ v8) base p km n P B s k (j + 1) Ab cbt b vo v8 os (bs ++ [(A, c)]) := by
  have h9 := h.below hb
  have hp8 := (hg.block p (Array.getElem?_eq_some_iff.1 h9.cells).1 (fun e => type_ne h9.blk e.symm h9.cells (by decide))).trans h9.cells
  have hkp := h.p_ne
  refine ⟨?_, row_keep h9.bits hg h9.blk hp8 (by decide) (by decide), (h9.known.keep (hg.block km h9.known.lt (fun e => map_ne h9.blk e.symm h9.known))).keep (Below.heap_setCell _ _ _ _ hkp), h.kmb, h.pb, h.nc, h.ol, by simp [h.bl], row_keep h9.ord hg h9.blk hp8 (by decide) (by decide), ?_, ?_, ?_⟩
  · have := blk_setR hp8 (o := 5) v8
    rw [this]; rfl
  · rw [List.mapIdx_append]
    have e : (List.mapIdx (fun i (a : Option Addr × Nat) => Value.slice a.1 (cutL B n (i + bs.length)).length a.2) [(A, c)]) = [.slice A (cutL B n j).length c] := by simp [h.bl]
    rw [e]
    exact ownsRow_setCell_other hown (a := ⟨p, 5, none⟩) (fun e => type_ne hown e hp8 (by decide)) v8
  · intro i A' c' hi
    exact ⟨(h9.ordr i A' c' hi).1, row_keep (h9.ordr i A' c' hi).2 hg h9.blk hp8 (by decide) (by decide)⟩
  · intro i A' c' hi
    by_cases hik : i < bs.length
    · rw [List.getElem?_append_left hik] at hi
      exact ⟨(h9.blkr i A' c' hi).1, row_keep (h9.blkr i A' c' hi).2 hg h9.blk hp8 (by decide) (by decide)⟩
    · rw [List.getElem?_append_right (by omega)] at hi
      obtain ⟨hl, hv⟩ := List.getElem?_eq_some_iff.1 hi
      simp only [List.length_singleton] at hl
      have hie : i = j := by have := h.bl; omega
      subst hie
      have h0 : i - bs.length = 0 := by omega
      simp only [h0, List.getElem_singleton, Prod.mk.injEq] at hv
      obtain ⟨rfl, rfl⟩ := hv
      exact ⟨hc, row_keep (ownsRow_mono ho hbw) hg h9.blk hp8 (by decide) (by decide)⟩
/-- A machine all of whose passes are laid. -/
theorem NAt.done {w : World} {base p km n P B s : Nat} {Ab : Option Addr} {cbt : Nat} {b : List Bool} {vo vb : Value} {os bs : List (Option Addr × Nat)} (h : NAt w base p km n P B s P P Ab cbt b vo vb os bs) (hP : 1 ≤ P) (hP6 : P ≤ 6) (hB : 1 ≤ B) (hB5 : B ≤ 512) (hs : s < two64) (hn : n ≤ 512) :
    ∃ L : Lay, L.p = p ∧ L.base = base ∧ L.n = n ∧ L.P = P ∧ L.B = B ∧ L.s = s ∧ MAt w L (.slice none 0 0) (st0 b) ∧ WFm L (st0 b) := by
  obtain ⟨go, co, rfl⟩ := own_head h.ord (by omega)
  obtain ⟨gb, cb, rfl⟩ := own_head h.blk (by omega)
  obtain ⟨_, _, e1, hco⟩ := own_form h.ord
  obtain ⟨_, _, e2, hcb⟩ := own_form h.blk
  cases e1; cases e2
  refine ⟨⟨base, p, km, n, P, B, s, go, co, gb, cb, Ab, cbt, os, bs⟩, rfl, rfl, rfl, rfl, rfl, rfl, ⟨h.cells, World.ownsRow_nil _ _ _ _, h.bits, h.known, h.kmb, h.pb, ⟨⟨hP, hP6⟩, ⟨hB, hB5⟩, hn, hs, ⟨hco, hcb, h.nc⟩, h.ol, h.bl, h.ord, h.blk, h.ordr, h.blkr⟩⟩, ⟨Nat.zero_le _, Nat.zero_le _, Nat.zero_le _, fun e => by cases e⟩⟩
theorem cut_any2 (P : Int) (B s n p : Nat) (w : World) (hB : 1 ≤ B) (hB2 : B ≤ 512) (hn : n ≤ 512) (hp : p ≤ 6) :
    Calls Try.prog 51 #[casV P B s, .int .i64 n, .int .i64 p] w (RetOwn w 81 3 (cutL B n p).length (qCells (cutL B n p)) id) := by
  have h := cut_any P B s n p w hB hB2 hn hp
  rwa [show cutN n (sizeP B p) = (cutL B n p).length by rw [cutL, cutK_len]] at h
/-- k orders and j lists of blocks are laid. -/
def NL (w1 : World) (p n P B s : Nat) (b : List Bool) (k j : Nat) (wx : World) : Prop :=
  ∃ (km cbt : Nat) (Ab : Option Addr) (vo vb : Value) (os bs : List (Option Addr × Nat)), NAt wx w1.heap.size p km n P B s k j Ab cbt b vo vb os bs
theorem MTurn.old {w w' : World} {L : Lay} {vt : Value} {S : Mst} {B : Nat} (hT : MTurn L vt w w') (hm : MAt w L vt S) (hB : B ≤ L.base) : Below B w w' := by
  refine ⟨hT.os, hT.tape, hT.output, hT.size, fun k hk => hT.block k (by have := hm.lt; have := hm.pb; omega) (by have := hm.pb; omega) (by have := hm.kmb; omega) ?_ ?_⟩
  · intro e
    rcases hm.bits.2 with ⟨h1, _⟩ | ⟨g, cap, cur, h1, hg, _⟩
    · injection h1 with h1; rw [e] at h1; cases h1
    · injection h1 with h1; rw [e] at h1; injection h1 with h1; injection h1 with h1; omega
  · intro e
    rcases hm.told.2 with ⟨h1, _⟩ | ⟨g, cap, cur, h1, hg, _⟩
    · rw [h1] at e; cases e
    · rw [h1] at e; simp only [Value.ownBlock, Option.some.injEq] at e; omega
end Go.Proofs.Ytfinjdkcgmepfaa
/- Contracts of the document's Check, lengths, order, blocks, parity of the cascades. Conditions: as each statement says. -/
namespace Go.Proofs.Ytfinjdkcgmepfaa
open Go.RowKit
set_option linter.unusedVariables false
theorem elB_i5 : ElemB Try.prog 38 3 1 8 := ElemB.of Try.underlying38 info_int rfl (by decide)
set_option maxHeartbeats 800000 in
theorem refparity_any (A A' : Option Addr) (n c m c' : Nat) (b : List Bool) (l : List Int) (w : World) (B : Nat) (hn : n ≤ 1073741824) (hm : m ≤ 1073741824) (h : Rd w B 1 A n (b.map Value.bool)) (h' : Rd w B 1 A' m (l.map (Value.int .i64))) (hl : ∀ x ∈ l, 0 ≤ x ∧ x < n) :
    Calls Try.prog 29 #[.slice A n c, .slice A' m c'] w fun e w' => e = .returned (.bool (parL b l)) ∧ w = w' := by
  have hbl : b.length = n := by have := h.1; simpa using this
  have hll : l.length = m := by have := h'.1; simpa using this
  have H := Lib.hid h; have H' := Lib.hid h'; have HB := Lib.hid hbl; have HLL := Lib.hid hll; have HL := Lib.hid hl
  clear h h' hbl hll hl
  go_enter Try.func29, Try.ntmps29
  go_wp2_with fail
  go_loop [5, 6] (fun o i => ∃ (k : Nat) (v : Bool), k ≤ m ∧ i = .int .i64 k ∧ o = .bool v ∧ v = parL b (l.take k)) (fun _ i => m - (intOf i).toNat)
  case atStart => exact ⟨0, false, Nat.zero_le _, rfl, rfl, rfl⟩
  case round =>
    obtain ⟨k, v, hk, rfl, rfl, hv⟩ := hrel
    have HV := Lib.hid hv
    clear hv
    by_cases hlt : k < m
    · have hlt' : (k : Int) < (m : Int) := by omega
      have hkl : k < l.length := by rw [HLL.out]; exact hlt
      obtain ⟨g', off', rfl, hg', hc'⟩ := H'.out.2 (by omega)
      have c0 : w.cell? ⟨g', off' + k, none⟩ = some (.int .i64 l[k]) := hc' k _ (by simp [hkl])
      have hx := HL.out _ (List.getElem_mem hkl)
      have HS : Hid (parL b (l.take (k + 1)) = (parL b (l.take k) != b.getD (l[k]).toNat false)) := Lib.hid (by rw [take_snoc _ _ hkl, parL_snoc])
      generalize l[k] = x at c0 hx HS
      obtain ⟨q, rfl⟩ := Int.eq_ofNat_of_zero_le hx.1
      have hqn : q < n := by omega
      obtain ⟨g, off, rfl, hg, hc⟩ := H.out.2 (by omega)
      have hqb : q < b.length := by rw [HB.out]; exact hqn
      have c1 : w.cell? ⟨g, off + q, none⟩ = some (.bool b[q]) := hc q _ (by simp [hqb])
      have HQ : Hid (b.getD ((q : Nat) : Int).toNat false = b[q]) := Lib.hid (by simp [hqb])
      generalize b[q] = y at c1 HQ
      have hqn' : (q : Int) < (n : Int) := by omega
      clear hc hc' hkl hqb hx
      go_wp2_with fail
      go_round
      case rel => exact ⟨k + 1, v != y, hlt, by go_num, rfl, by rw [HS.out, HQ.out, ← HV.out]⟩
      case measure => simp [intOf]; omega
    · have hlt' : ¬ (k : Int) < (m : Int) := by omega
      go_wp2_with fail
      go_ret
      have hv := HV.out
      rw [List.take_of_length_le (by rw [HLL.out]; omega)] at hv
      exact ⟨by rw [hv]; rfl, rfl⟩
set_option maxHeartbeats 800000 in
theorem refNewD_any (s : Nat) (w : World) :
    Calls Try.prog 27 #[.int .u64 s] w fun e w' => e = .returned (.pointer (some ⟨w.heap.size, 0, none⟩)) ∧ w.alloc (.cells #[.int .u64 s] 86) = w' := by
  go_enter Try.func27, Try.ntmps27
  go_wp2_with fail
  go_ret
  exact ⟨rfl, rfl⟩
/-- The size of the blocks of a pass, by doubling. -/
theorem sizeP_succ (B p : Nat) : sizeP B (p + 1) = min (2 * sizeP B p) 512 := by
  unfold sizeP
  rw [Nat.pow_succ]
  generalize hx : B * 2 ^ p = X
  rw [← Nat.mul_assoc, hx]
  omega
theorem sizeP_zero {B : Nat} (h : B ≤ 512) : sizeP B 0 = B := by unfold sizeP; omega
set_option maxHeartbeats 1000000 in
theorem Ints_eq (A A' : Option Addr) (n c c' : Nat) (xs : List Int) (w : World) (hn : n ≤ 1073741824) (h : Rd w w.heap.size 1 A n (xs.map (Value.int .i64))) (h' : Rd w w.heap.size 1 A' n (xs.map (Value.int .i64))) :
    Calls Try.prog 16 #[.slice A n c, .slice A' n c'] w fun e w' => e = .returned (.bool true) ∧ Qw w w' := by
  have hl : xs.length = n := by have := h.1; simpa using this
  have H := Lib.hid h; have H' := Lib.hid h'; have HL := Lib.hid hl; clear h h' hl
  have hne : ((n : Int) != (n : Int)) = false := by simp
  go_enter Try.func16, Try.ntmps16
  go_wp2_with fail
  go_loopw [5] (fun i wr => ∃ k : Nat, k ≤ n ∧ i = .int .i64 k ∧ Qw w wr) (fun i _ => n - (intOf i).toNat)
  case atStart => exact ⟨0, Nat.zero_le _, rfl, Qw.refl _⟩
  case round =>
    obtain ⟨k, hk, rfl, hq⟩ := hrel
    by_cases hlt : k < n
    · have hki : (k : Int) < (n : Int) := by omega
      obtain ⟨b, off, rfl, hb, hc⟩ := H.out.2 (by omega)
      obtain ⟨b', off', rfl, hb', hc'⟩ := H'.out.2 (by omega)
      have hlk : k < xs.length := by rw [HL.out]; exact hlt
      have h1 : wr.cell? ⟨b, off + k, none⟩ = some (.int .i64 xs[k]) := (hq.cell _).trans (hc k _ (by simp [hlk]))
      have h2 : wr.cell? ⟨b', off' + k, none⟩ = some (.int .i64 xs[k]) := (hq.cell _).trans (hc' k _ (by simp [hlk]))
      generalize xs[k] = x at h1 h2
      have HQ := Lib.hid hq
      clear hc hc' hlk hq
      go_wp2_with fail
      go_quiet (fail)
      go_wp2_with fail
      go_roundw
      case rel => exact ⟨k + 1, by omega, by go_num, HQ.out.drewN _⟩
      case measure => simp [intOf]; omega
    · have hki : ¬ (k : Int) < (n : Int) := by omega
      go_wp2_with fail
      go_ret
      exact ⟨rfl, hq⟩
end Go.Proofs.Ytfinjdkcgmepfaa
/- CheckCode on both sides, fits and sizes. Conditions: as each statement says. -/
namespace Go.Proofs.Ytfinjdkcgmepfaa
open Go.RowKit
set_option linter.unusedVariables false
abbrev codV (N C D : Int) (s : Nat) : Value := .agg #[.int .i64 N, .int .i64 C, .int .i64 D, .int .u64 s]
abbrev codC (N C D : Int) (s : Nat) : Array Value := #[.int .i64 N, .int .i64 C, .int .i64 D, .int .u64 s]
/-- The error of a code. -/
def codeE (N C D : Int) : Int := if N < 1 ∨ 512 < N ∨ C < 1 ∨ 256 < C ∨ D < 1 ∨ 4 < D ∨ C < D then 2 else 0
theorem codeE_ok {N C D : Int} : codeE N C D = 0 ↔ 1 ≤ N ∧ N ≤ 512 ∧ 1 ≤ C ∧ C ≤ 256 ∧ 1 ≤ D ∧ D ≤ 4 ∧ D ≤ C := by unfold codeE; split <;> omega
theorem codeE_ne {N C D : Int} (h : codeE N C D ≠ 0) : codeE N C D = 2 := by unfold codeE at *; split <;> simp_all
/-- The error of a code and its strings. -/
def fitE (N C D : Int) (n m : Nat) : Int := if codeE N C D ≠ 0 then 2 else if (n : Int) ≠ N ∨ (m : Int) ≠ C then 22 else 0
theorem fitE_ok {N C D : Int} {n m : Nat} : fitE N C D n m = 0 ↔ codeE N C D = 0 ∧ (n : Int) = N ∧ (m : Int) = C := by
  unfold fitE
  by_cases h : codeE N C D = 0
  · rw [if_neg (by simpa using h)]; split <;> omega
  · rw [if_pos h]; simp [h]
/-- The cells of a code in its box. -/
structure CodeAt (w : World) (H : Nat) (N C D : Int) (s : Nat) : Prop where
  blk : w.heap[H]? = some (.cells (codC N C D s) 25 (0, 0))
theorem CodeAt.c0 {w : World} {H : Nat} {N C D : Int} {s : Nat} (h : CodeAt w H N C D s) : w.cell? ⟨H, 0, none⟩ = some (.int .i64 N) := by rw [cell_of_row _ _ _ _ _ _ h.blk]; rfl
theorem CodeAt.c1 {w : World} {H : Nat} {N C D : Int} {s : Nat} (h : CodeAt w H N C D s) : w.cell? ⟨H, 1, none⟩ = some (.int .i64 C) := by rw [cell_of_row _ _ _ _ _ _ h.blk]; rfl
theorem CodeAt.c2 {w : World} {H : Nat} {N C D : Int} {s : Nat} (h : CodeAt w H N C D s) : w.cell? ⟨H, 2, none⟩ = some (.int .i64 D) := by rw [cell_of_row _ _ _ _ _ _ h.blk]; rfl
theorem CodeAt.c3 {w : World} {H : Nat} {N C D : Int} {s : Nat} (h : CodeAt w H N C D s) : w.cell? ⟨H, 3, none⟩ = some (.int .u64 s) := by rw [cell_of_row _ _ _ _ _ _ h.blk]; rfl
theorem CodeAt.lt {w : World} {H : Nat} {N C D : Int} {s : Nat} (h : CodeAt w H N C D s) : H < w.heap.size := (Array.getElem?_eq_some_iff.1 h.blk).1
theorem CodeAt.below {w w' : World} {H n : Nat} {N C D : Int} {s : Nat} (h : CodeAt w H N C D s) (hb : Below n w w') (hn : w.heap.size ≤ n) : CodeAt w' H N C D s := ⟨(hb.block _ (Nat.lt_of_lt_of_le h.lt hn)).trans h.blk⟩
theorem CodeAt.past {w w' : World} {H n : Nat} {N C D : Int} {s : Nat} (h : CodeAt w H N C D s) (hb : Below n w w') (hn : H < n) : CodeAt w' H N C D s := ⟨(hb.block _ hn).trans h.blk⟩
theorem CodeAt.q {w w' : World} {H : Nat} {N C D : Int} {s : Nat} (h : CodeAt w H N C D s) (hq : Qw w w') : CodeAt w' H N C D s := ⟨by rw [hq.heap]; exact h.blk⟩
theorem CodeAt.new (w : World) (N C D : Int) (s : Nat) : CodeAt (w.alloc (.cells (codC N C D s) 25)) w.heap.size N C D s := ⟨heap_alloc_new w _⟩
set_option maxHeartbeats 1000000 in
theorem CheckCode_any (N C D : Int) (s : Nat) (w : World) :
    Calls Try.prog 12 #[codV N C D s] w fun e w' => e = .returned (.int .i64 (codeE N C D)) ∧ w.alloc (.cells (codC N C D s) 25) = w' := by
  by_cases h0 : N < 1
  · have HE : Hid (codeE N C D = 2) := Lib.hid (by unfold codeE; rw [if_pos (by omega)])
    go_enter Try.func12, Try.ntmps12
    go_wp2_with fail
    go_ret
    exact ⟨by rw [HE.out]; rfl, rfl⟩
  · skip
    by_cases h1 : 512 < N
    · have HE : Hid (codeE N C D = 2) := Lib.hid (by unfold codeE; rw [if_pos (by omega)])
      go_enter Try.func12, Try.ntmps12
      go_wp2_with fail
      go_ret
      exact ⟨by rw [HE.out]; rfl, rfl⟩
    · skip
      by_cases h2 : C < 1
      · have HE : Hid (codeE N C D = 2) := Lib.hid (by unfold codeE; rw [if_pos (by omega)])
        go_enter Try.func12, Try.ntmps12
        go_wp2_with fail
        go_ret
        exact ⟨by rw [HE.out]; rfl, rfl⟩
      · skip
        by_cases h3 : 256 < C
        · have HE : Hid (codeE N C D = 2) := Lib.hid (by unfold codeE; rw [if_pos (by omega)])
          go_enter Try.func12, Try.ntmps12
          go_wp2_with fail
          go_ret
          exact ⟨by rw [HE.out]; rfl, rfl⟩
        · skip
          by_cases h4 : D < 1
          · have HE : Hid (codeE N C D = 2) := Lib.hid (by unfold codeE; rw [if_pos (by omega)])
            go_enter Try.func12, Try.ntmps12
            go_wp2_with fail
            go_ret
            exact ⟨by rw [HE.out]; rfl, rfl⟩
          · skip
            by_cases h5 : 4 < D
            · have HE : Hid (codeE N C D = 2) := Lib.hid (by unfold codeE; rw [if_pos (by omega)])
              have hm : min 4 C < D := by omega
              go_enter Try.func12, Try.ntmps12
              go_wp2_with fail
              go_ret
              exact ⟨by rw [HE.out]; rfl, rfl⟩
            · skip
              by_cases h6 : C < D
              · have HE : Hid (codeE N C D = 2) := Lib.hid (by unfold codeE; rw [if_pos (by omega)])
                have hm : min 4 C < D := by omega
                go_enter Try.func12, Try.ntmps12
                go_wp2_with fail
                go_ret
                exact ⟨by rw [HE.out]; rfl, rfl⟩
              · skip
                have HE : Hid (codeE N C D = 0) := Lib.hid (by unfold codeE; rw [if_neg (by omega)])
                have hm : ¬ min 4 C < D := by omega
                go_enter Try.func12, Try.ntmps12
                go_wp2_with fail
                go_ret
                exact ⟨by rw [HE.out]; rfl, rfl⟩
theorem CheckCode_ex (N C D : Int) (s : Nat) (w : World) :
    Calls Try.prog 12 #[codV N C D s] w fun e w' => (∃ E, E = codeE N C D ∧ e = .returned (.int .i64 E)) ∧ Below w.heap.size w w' :=
  (CheckCode_any N C D s w).mono fun e w' ⟨he, hw⟩ => ⟨⟨_, rfl, he⟩, by subst hw; exact (Below.refl _ _).alloc (Nat.le_refl _) _⟩
set_option maxHeartbeats 1000000 in
theorem refCheckCode_any (N C D : Int) (s : Nat) (w : World) :
    Calls Try.prog 13 #[codV N C D s] w fun e w' => e = .returned (.int .i64 (codeE N C D)) ∧ w.alloc (.cells (codC N C D s) 25) = w' := by
  by_cases h0 : N < 1
  · have HE : Hid (codeE N C D = 2) := Lib.hid (by unfold codeE; rw [if_pos (by omega)])
    go_enter Try.func13, Try.ntmps13
    go_wp2_with fail
    go_ret
    exact ⟨by rw [HE.out]; rfl, rfl⟩
  · skip
    by_cases h1 : 512 < N
    · have HE : Hid (codeE N C D = 2) := Lib.hid (by unfold codeE; rw [if_pos (by omega)])
      go_enter Try.func13, Try.ntmps13
      go_wp2_with fail
      go_ret
      exact ⟨by rw [HE.out]; rfl, rfl⟩
    · skip
      by_cases h2 : C < 1
      · have HE : Hid (codeE N C D = 2) := Lib.hid (by unfold codeE; rw [if_pos (by omega)])
        go_enter Try.func13, Try.ntmps13
        go_wp2_with fail
        go_ret
        exact ⟨by rw [HE.out]; rfl, rfl⟩
      · skip
        by_cases h3 : 256 < C
        · have HE : Hid (codeE N C D = 2) := Lib.hid (by unfold codeE; rw [if_pos (by omega)])
          go_enter Try.func13, Try.ntmps13
          go_wp2_with fail
          go_ret
          exact ⟨by rw [HE.out]; rfl, rfl⟩
        · skip
          by_cases h4 : D < 1
          · have HE : Hid (codeE N C D = 2) := Lib.hid (by unfold codeE; rw [if_pos (by omega)])
            go_enter Try.func13, Try.ntmps13
            go_wp2_with fail
            go_ret
            exact ⟨by rw [HE.out]; rfl, rfl⟩
          · skip
            by_cases h5 : 4 < D
            · have HE : Hid (codeE N C D = 2) := Lib.hid (by unfold codeE; rw [if_pos (by omega)])
              go_enter Try.func13, Try.ntmps13
              go_wp2_with fail
              go_ret
              exact ⟨by rw [HE.out]; rfl, rfl⟩
            · skip
              by_cases h6 : C < D
              · have HE : Hid (codeE N C D = 2) := Lib.hid (by unfold codeE; rw [if_pos (by omega)])
                go_enter Try.func13, Try.ntmps13
                go_wp2_with fail
                go_ret
                exact ⟨by rw [HE.out]; rfl, rfl⟩
              · skip
                have HE : Hid (codeE N C D = 0) := Lib.hid (by unfold codeE; rw [if_neg (by omega)])
                go_enter Try.func13, Try.ntmps13
                go_wp2_with fail
                go_ret
                exact ⟨by rw [HE.out]; rfl, rfl⟩
theorem refCheckCode_ex (N C D : Int) (s : Nat) (w : World) :
    Calls Try.prog 13 #[codV N C D s] w fun e w' => (∃ E, E = codeE N C D ∧ e = .returned (.int .i64 E)) ∧ Below w.heap.size w w' :=
  (refCheckCode_any N C D s w).mono fun e w' ⟨he, hw⟩ => ⟨⟨_, rfl, he⟩, by subst hw; exact (Below.refl _ _).alloc (Nat.le_refl _) _⟩
set_option maxHeartbeats 1000000 in
theorem fits5_any (N C D : Int) (s : Nat) (A A' : Option Addr) (n c m c' : Nat) (w : World) :
    Calls Try.prog 30 #[codV N C D s, .slice A n c, .slice A' m c'] w fun e w' => (∃ E, E = fitE N C D n m ∧ e = .returned (.int .i64 E)) ∧ Below w.heap.size w w' := by
  by_cases h0 : codeE N C D = 0
  · by_cases h1 : (n : Int) = N
    · by_cases h2 : (m : Int) = C
      · have HE : Hid (fitE N C D n m = 0) := Lib.hid (by unfold fitE; rw [if_neg (by omega), if_neg (by omega)])
        have g1 : ((n : Int) != N) = false := by simpa using h1
        have g2 : ((m : Int) != C) = false := by simpa using h2
        have H0 := Lib.hid h0
        clear h0 h1 h2
        go_enter Try.func30, Try.ntmps30
        go_wp2_with fail
        refine (CheckCode_ex _ _ _ _ _).mono ?_
        rintro e w1 ⟨⟨E, hE, rfl⟩, hb⟩
        obtain rfl : E = 0 := by rw [hE]; exact H0.out
        clear hE
        have HB : Hid (Below w.heap.size w w1) := Lib.hid (((Below.refl _ _).alloc (Nat.le_refl _) _).trans (hb.mono (by simp)))
        have hcc := (CodeAt.new w N C D s).below hb (Nat.le_refl _)
        have c0 := hcc.c0; have c1 := hcc.c1
        clear hb hcc
        go_wp2_with fail
        go_ret
        exact ⟨⟨_, HE.out.symm, rfl⟩, HB.out⟩
      · have HE : Hid (fitE N C D n m = 22) := Lib.hid (by unfold fitE; rw [if_neg (by omega), if_pos (by omega)])
        have g1 : ((n : Int) != N) = false := by simpa using h1
        have g2 : ((m : Int) != C) = true := by simpa using h2
        have H0 := Lib.hid h0
        clear h0 h1 h2
        go_enter Try.func30, Try.ntmps30
        go_wp2_with fail
        refine (CheckCode_ex _ _ _ _ _).mono ?_
        rintro e w1 ⟨⟨E, hE, rfl⟩, hb⟩
        obtain rfl : E = 0 := by rw [hE]; exact H0.out
        clear hE
        have HB : Hid (Below w.heap.size w w1) := Lib.hid (((Below.refl _ _).alloc (Nat.le_refl _) _).trans (hb.mono (by simp)))
        have hcc := (CodeAt.new w N C D s).below hb (Nat.le_refl _)
        have c0 := hcc.c0; have c1 := hcc.c1
        clear hb hcc
        go_wp2_with fail
        go_ret
        exact ⟨⟨_, HE.out.symm, rfl⟩, HB.out⟩
    · have HE : Hid (fitE N C D n m = 22) := Lib.hid (by unfold fitE; rw [if_neg (by omega), if_pos (by omega)])
      have g1 : ((n : Int) != N) = true := by simpa using h1
      have H0 := Lib.hid h0
      clear h0 h1
      go_enter Try.func30, Try.ntmps30
      go_wp2_with fail
      refine (CheckCode_ex _ _ _ _ _).mono ?_
      rintro e w1 ⟨⟨E, hE, rfl⟩, hb⟩
      obtain rfl : E = 0 := by rw [hE]; exact H0.out
      clear hE
      have HB : Hid (Below w.heap.size w w1) := Lib.hid (((Below.refl _ _).alloc (Nat.le_refl _) _).trans (hb.mono (by simp)))
      have hcc := (CodeAt.new w N C D s).below hb (Nat.le_refl _)
      have c0 := hcc.c0; have c1 := hcc.c1
      clear hb hcc
      go_wp2_with fail
      go_ret
      exact ⟨⟨_, HE.out.symm, rfl⟩, HB.out⟩
  · have HE : Hid (fitE N C D n m = 2) := Lib.hid (by unfold fitE; rw [if_pos h0])
    have H0 := Lib.hid h0
    clear h0
    go_enter Try.func30, Try.ntmps30
    go_wp2_with fail
    refine (CheckCode_ex _ _ _ _ _).mono ?_
    rintro e w1 ⟨⟨E, hE, rfl⟩, hb⟩
    obtain rfl : E = 2 := by rw [hE]; exact codeE_ne H0.out
    clear hE
    have HB : Hid (Below w.heap.size w w1) := Lib.hid (((Below.refl _ _).alloc (Nat.le_refl _) _).trans (hb.mono (by simp)))
    have hcc := (CodeAt.new w N C D s).below hb (Nat.le_refl _)
    have c0 := hcc.c0; have c1 := hcc.c1
    clear hb hcc
    go_wp2_with fail
    go_ret
    exact ⟨⟨_, HE.out.symm, rfl⟩, HB.out⟩
set_option maxHeartbeats 1000000 in
theorem refsizes_any (N C D : Int) (s : Nat) (A A' : Option Addr) (n c m c' : Nat) (w : World) :
    Calls Try.prog 34 #[codV N C D s, .slice A n c, .slice A' m c'] w fun e w' => (∃ E, E = fitE N C D n m ∧ e = .returned (.int .i64 E)) ∧ Below w.heap.size w w' := by
  by_cases h0 : codeE N C D = 0
  · by_cases h1 : (n : Int) = N
    · by_cases h2 : (m : Int) = C
      · have HE : Hid (fitE N C D n m = 0) := Lib.hid (by unfold fitE; rw [if_neg (by omega), if_neg (by omega)])
        have g1 : ((n : Int) != N) = false := by simpa using h1
        have g2 : ((m : Int) != C) = false := by simpa using h2
        have H0 := Lib.hid h0
        clear h0 h1 h2
        go_enter Try.func34, Try.ntmps34
        go_wp2_with fail
        refine (refCheckCode_ex _ _ _ _ _).mono ?_
        rintro e w1 ⟨⟨E, hE, rfl⟩, hb⟩
        obtain rfl : E = 0 := by rw [hE]; exact H0.out
        clear hE
        have HB : Hid (Below w.heap.size w w1) := Lib.hid (((Below.refl _ _).alloc (Nat.le_refl _) _).trans (hb.mono (by simp)))
        have hcc := (CodeAt.new w N C D s).below hb (Nat.le_refl _)
        have c0 := hcc.c0; have c1 := hcc.c1
        clear hb hcc
        go_wp2_with fail
        go_ret
        exact ⟨⟨_, HE.out.symm, rfl⟩, HB.out⟩
      · have HE : Hid (fitE N C D n m = 22) := Lib.hid (by unfold fitE; rw [if_neg (by omega), if_pos (by omega)])
        have g1 : ((n : Int) != N) = false := by simpa using h1
        have g2 : ((m : Int) != C) = true := by simpa using h2
        have H0 := Lib.hid h0
        clear h0 h1 h2
        go_enter Try.func34, Try.ntmps34
        go_wp2_with fail
        refine (refCheckCode_ex _ _ _ _ _).mono ?_
        rintro e w1 ⟨⟨E, hE, rfl⟩, hb⟩
        obtain rfl : E = 0 := by rw [hE]; exact H0.out
        clear hE
        have HB : Hid (Below w.heap.size w w1) := Lib.hid (((Below.refl _ _).alloc (Nat.le_refl _) _).trans (hb.mono (by simp)))
        have hcc := (CodeAt.new w N C D s).below hb (Nat.le_refl _)
        have c0 := hcc.c0; have c1 := hcc.c1
        clear hb hcc
        go_wp2_with fail
        go_ret
        exact ⟨⟨_, HE.out.symm, rfl⟩, HB.out⟩
    · have HE : Hid (fitE N C D n m = 22) := Lib.hid (by unfold fitE; rw [if_neg (by omega), if_pos (by omega)])
      have g1 : ((n : Int) != N) = true := by simpa using h1
      have H0 := Lib.hid h0
      clear h0 h1
      go_enter Try.func34, Try.ntmps34
      go_wp2_with fail
      refine (refCheckCode_ex _ _ _ _ _).mono ?_
      rintro e w1 ⟨⟨E, hE, rfl⟩, hb⟩
      obtain rfl : E = 0 := by rw [hE]; exact H0.out
      clear hE
      have HB : Hid (Below w.heap.size w w1) := Lib.hid (((Below.refl _ _).alloc (Nat.le_refl _) _).trans (hb.mono (by simp)))
      have hcc := (CodeAt.new w N C D s).below hb (Nat.le_refl _)
      have c0 := hcc.c0; have c1 := hcc.c1
      clear hb hcc
      go_wp2_with fail
      go_ret
      exact ⟨⟨_, HE.out.symm, rfl⟩, HB.out⟩
  · have HE : Hid (fitE N C D n m = 2) := Lib.hid (by unfold fitE; rw [if_pos h0])
    have H0 := Lib.hid h0
    clear h0
    go_enter Try.func34, Try.ntmps34
    go_wp2_with fail
    refine (refCheckCode_ex _ _ _ _ _).mono ?_
    rintro e w1 ⟨⟨E, hE, rfl⟩, hb⟩
    obtain rfl : E = 2 := by rw [hE]; exact codeE_ne H0.out
    clear hE
    have HB : Hid (Below w.heap.size w w1) := Lib.hid (((Below.refl _ _).alloc (Nat.le_refl _) _).trans (hb.mono (by simp)))
    have hcc := (CodeAt.new w N C D s).below hb (Nat.le_refl _)
    have c0 := hcc.c0; have c1 := hcc.c1
    clear hb hcc
    go_wp2_with fail
    go_ret
    exact ⟨⟨_, HE.out.symm, rfl⟩, HB.out⟩
end Go.Proofs.Ytfinjdkcgmepfaa
/- New of the cascades. Conditions: as each statement says. -/
namespace Go.Proofs.Ytfinjdkcgmepfaa
open Go.RowKit
set_option linter.unusedVariables false
set_option maxRecDepth 100000 in
set_option maxHeartbeats 4000000 in
theorem New_ok (A : Option Addr) (n c P B s : Nat) (b : List Bool) (w : World) (hP : 1 ≤ P) (hP6 : P ≤ 6) (hB : 1 ≤ B) (hB5 : B ≤ 512) (hs : s < two64) (hn : n ≤ 512) (h : Rd w w.heap.size 1 A n (b.map Value.bool)) :
    Calls Try.prog 41 #[casV P B s, .slice A n c] w (NewP n P B s b w) := by
  have hsn : saneE P B n = 0 := saneE_ok.2 ⟨by omega, by omega, by omega, by omega, by omega, by omega⟩
  obtain ⟨w0, hw0⟩ : ∃ w0, w0 = w.alloc (.cells (casC P B s) 54) := ⟨_, rfl⟩
  have Bw0 : Below w.heap.size w w0 := by rw [hw0]; exact (Below.refl _ _).alloc (Nat.le_refl _) _
  have hbk0 : w0.heap[w.heap.size]? = some (.cells (casC P B s) 54 (0, 0)) := by rw [hw0]; exact heap_alloc_new w _
  have hs0 : w0.heap.size = w.heap.size + 1 := by rw [hw0]; simp
  have R0 := Lib.hid ((h.below Bw0).mono (by omega) : Rd w0 w0.heap.size 1 A n (b.map Value.bool))
  have HW0 := Lib.hid hw0; have HSN := Lib.hid hsn
  clear h hw0 hsn
  go_enter Try.func41, Try.ntmps41
  go_wp2_with fail
  rw [← HW0.out]
  clear HW0
  refine (sane_any _ _ s _ _).mono ?_
  rintro e w1 ⟨rfl, hb1⟩
  rw [HSN.out]
  have hs1 := hb1.size
  have hbk1 := (hb1.block w.heap.size (by omega)).trans hbk0
  have R1 := Lib.hid ((R0.out.below hb1).mono hs1)
  have B1 : Below w.heap.size w w1 := Bw0.trans (hb1.mono (by omega))
  have x0 : w1.cell? ⟨w.heap.size, 0, none⟩ = some (.int .i64 P) := by rw [cell_of_row _ _ _ _ _ _ hbk1]; rfl
  have x1 : w1.cell? ⟨w.heap.size, 1, none⟩ = some (.int .i64 B) := by rw [cell_of_row _ _ _ _ _ _ hbk1]; rfl
  have x2 : w1.cell? ⟨w.heap.size, 2, none⟩ = some (.int .u64 s) := by rw [cell_of_row _ _ _ _ _ _ hbk1]; rfl
  have HBK1 := Lib.hid hbk1
  have hmm := @run_makeMap Try.prog
  have hlt1 : w.heap.size < w1.heap.size := by omega
  clear hbk0 hbk1 hb1 R0 HSN Bw0 hs0 hs1
  go_wp2_with fail
  go_cut [7] (fun s7 wx => NewA w1 w1.heap.size n P B s b s7 wx)
  case first =>
    refine wp_region_held_drew (S := fun w' => Below w1.heap.size w1 w') (by kernel_rfl) ?_ (fun hHeld => ?_)
    · (try dsimp only); first | exact Below.refl _ _ | exact (Qw.refl w1).drew.below _ | exact hHeld.alloc hHeld.size _ | exact hHeld.trans (hbc.mono hHeld.size)
    refine wpAnyH_take (i := 0) (oi := ⟨some 16, _, _, _, _, _⟩) (v := .agg #[.int .i64 P, .int .i64 B, .int .u64 s]) rfl (by kernel_rfl) (by kernel_rfl) (by kernel_rfl) (fun _ _ _ h => h) (Or.inl ⟨by rfl, ?_⟩) (by assumption) ?_
    · (intro w hSw; (try dsimp only at hSw); have h0 := bcells_n hSw x0; have h1 := bcells_n hSw x1; have h2 := bcells_n hSw x2; go_simp)
    try simp only [Act.put, List.setIfInBounds_toArray, List.set_cons_zero, List.set_cons_succ]
    refine wpAnyH_take (i := 1) (oi := ⟨some 17, _, _, _, _, _⟩) (v := ?_) rfl (by kernel_rfl) (by kernel_rfl) (by kernel_rfl) (fun _ _ _ h => h) (Or.inl ⟨by rfl, ?_⟩) (by assumption) ?_
    rotate_left
    · (intro w hSw; (try dsimp only at hSw); go_simp; try with_reducible rfl)
    try simp only [Act.put, List.setIfInBounds_toArray, List.set_cons_zero, List.set_cons_succ]
    refine wpAnyH_ready (rs := [2, 3]) (by kernel_rfl) (by simp) ?_
    refine AllReadyH.cons (o := ⟨some 18, _, _, _, _, _⟩) rfl (fun K hK => ?_) ?_
    · skip
      go_simp
      refine (Clone_bool _ _ _ b _ (by omega) ((R1.out.below hHeld).mono hHeld.size)).mono ?_
      rintro e wc ⟨Ab, cbt, rfl, hcb, hob, hbc⟩
      go_wp2_with fail
      refine hK.out _ _ ?_ (fun hHeld => ?_)
      · (try dsimp only); first | exact Below.refl _ _ | exact (Qw.refl w1).drew.below _ | exact hHeld.alloc hHeld.size _ | exact hHeld.trans (hbc.mono hHeld.size)
      clear hK K
      try simp only [Act.put, List.setIfInBounds_toArray, List.set_cons_zero, List.set_cons_succ]
      refine wpAnyH_ready (rs := [3]) (by kernel_rfl) (by simp) ?_
      refine AllReadyH.cons (o := ⟨some 19, _, _, _, _, _⟩) rfl (fun K hK => ?_) AllReadyH.nil
      go_simp
      refine hK.out _ _ ?_ (fun hHeld => ?_)
      · (try dsimp only); first | exact Below.refl _ _ | exact (Qw.refl w1).drew.below _ | exact hHeld.alloc hHeld.size _ | exact hHeld.trans (hbc.mono hHeld.size)
      clear hK K
      try simp only [Act.put, List.setIfInBounds_toArray, List.set_cons_zero, List.set_cons_succ]
      refine wpAnyH_take (i := 4) (oi := ⟨some 20, _, _, _, _, _⟩) (v := ?_) rfl (by kernel_rfl) (by kernel_rfl) (by kernel_rfl) (fun _ _ _ h => h) (Or.inl ⟨by rfl, ?_⟩) (by assumption) ?_
      rotate_left
      · (intro w hSw; (try dsimp only at hSw); go_simp; try with_reducible rfl)
      try simp only [Act.put, List.setIfInBounds_toArray, List.set_cons_zero, List.set_cons_succ]
      refine wpAnyH_ready (rs := [5]) (by kernel_rfl) (by simp) ?_
      refine AllReadyH.cons (o := ⟨some 21, _, _, _, _, _⟩) rfl (fun K hK => ?_) AllReadyH.nil
      go_simp
      refine hK.out _ _ ?_ (fun hHeld => ?_)
      · (try dsimp only); first | exact Below.refl _ _ | exact (Qw.refl w1).drew.below _ | exact hHeld.alloc hHeld.size _ | exact hHeld.trans (hbc.mono hHeld.size)
      clear hK K
      try simp only [Act.put, List.setIfInBounds_toArray, List.set_cons_zero, List.set_cons_succ]
      refine wpAnyH_take (i := 6) (oi := ⟨some 7, _, _, _, _, _⟩) (v := ?_) rfl (by kernel_rfl) (by kernel_rfl) (by kernel_rfl) (fun _ _ _ h => h) (Or.inl ⟨by rfl, ?_⟩) (by assumption) ?_
      rotate_left
      · (intro w hSw; (try dsimp only at hSw); go_simp; try with_reducible rfl)
      try simp only [Act.put, List.setIfInBounds_toArray, List.set_cons_zero, List.set_cons_succ]
      refine wpAnyH_done (by kernel_rfl) ?_ _
      go_wp2_with fail
      go_meet
      exact NewA_one ((Qw.refl _).drew.below _) (by omega) hcb hob hbc
    refine AllReadyH.cons (o := ⟨some 19, _, _, _, _, _⟩) rfl (fun K hK => ?_) AllReadyH.nil
    go_simp
    refine hK.out _ _ ?_ (fun hHeld => ?_)
    · (try dsimp only); first | exact Below.refl _ _ | exact (Qw.refl w1).drew.below _ | exact hHeld.alloc hHeld.size _ | exact hHeld.trans (hbc.mono hHeld.size)
    clear hK K
    try simp only [Act.put, List.setIfInBounds_toArray, List.set_cons_zero, List.set_cons_succ]
    refine wpAnyH_ready (rs := [2]) (by kernel_rfl) (by simp) ?_
    refine AllReadyH.cons (o := ⟨some 18, _, _, _, _, _⟩) rfl (fun K hK => ?_) AllReadyH.nil
    go_simp
    refine (Clone_bool _ _ _ b _ (by omega) ((R1.out.below hHeld).mono hHeld.size)).mono ?_
    rintro e wc ⟨Ab, cbt, rfl, hcb, hob, hbc⟩
    go_wp2_with fail
    refine hK.out _ _ ?_ (fun hHeld => ?_)
    · (try dsimp only); first | exact Below.refl _ _ | exact (Qw.refl w1).drew.below _ | exact hHeld.alloc hHeld.size _ | exact hHeld.trans (hbc.mono hHeld.size)
    clear hK K
    try simp only [Act.put, List.setIfInBounds_toArray, List.set_cons_zero, List.set_cons_succ]
    refine wpAnyH_take (i := 4) (oi := ⟨some 20, _, _, _, _, _⟩) (v := ?_) rfl (by kernel_rfl) (by kernel_rfl) (by kernel_rfl) (fun _ _ _ h => h) (Or.inl ⟨by rfl, ?_⟩) (by assumption) ?_
    rotate_left
    · (intro w hSw; (try dsimp only at hSw); go_simp; try with_reducible rfl)
    try simp only [Act.put, List.setIfInBounds_toArray, List.set_cons_zero, List.set_cons_succ]
    refine wpAnyH_ready (rs := [5]) (by kernel_rfl) (by simp) ?_
    refine AllReadyH.cons (o := ⟨some 21, _, _, _, _, _⟩) rfl (fun K hK => ?_) AllReadyH.nil
    go_simp
    refine hK.out _ _ ?_ (fun hHeld => ?_)
    · (try dsimp only); first | exact Below.refl _ _ | exact (Qw.refl w1).drew.below _ | exact hHeld.alloc hHeld.size _ | exact hHeld.trans (hbc.mono hHeld.size)
    clear hK K
    try simp only [Act.put, List.setIfInBounds_toArray, List.set_cons_zero, List.set_cons_succ]
    refine wpAnyH_take (i := 6) (oi := ⟨some 7, _, _, _, _, _⟩) (v := ?_) rfl (by kernel_rfl) (by kernel_rfl) (by kernel_rfl) (fun _ _ _ h => h) (Or.inl ⟨by rfl, ?_⟩) (by assumption) ?_
    rotate_left
    · (intro w hSw; (try dsimp only at hSw); go_simp; try with_reducible rfl)
    try simp only [Act.put, List.setIfInBounds_toArray, List.set_cons_zero, List.set_cons_succ]
    refine wpAnyH_done (by kernel_rfl) ?_ _
    go_wp2_with fail
    go_meet
    exact NewA_two ((Qw.refl _).drew.below _) (by omega) hcb hob hbc
  case rest => as_aux_lemma =>
    obtain ⟨w2, hw2⟩ : ∃ x, x = wc := ⟨_, rfl⟩
    subst hw2
    obtain ⟨p, km, cbt, Ab, rfl, hna, hb2⟩ := hcut
    have y0 := bcells_n hb2 x0
    clear HBK1 R1 hmm
    go_wp2_with fail
    go_loopw [24] (fun v wr => ∃ k : Nat, k ≤ P ∧ v = .int .i64 k ∧ NL w1 p n P B s b k k wr ∧ Below w1.heap.size w1 wr) (fun v _ => P - (intOf v).toNat)
    case atStart => exact ⟨0, Nat.zero_le _, rfl, ⟨km, cbt, Ab, _, _, _, _, hna⟩, hb2⟩
    case round =>
      obtain ⟨wa, rfl⟩ : ∃ wa : World, wa = wr := ⟨_, rfl⟩
      clear hna y0
      obtain ⟨k, hk, rfl, ⟨km, cbt, Ab, vo, vb, os, bs, hna⟩, hbw⟩ := hrel
      have hsz := hbw.size
      by_cases hkP : k < P
      · have i1 : (k : Int) < (P : Int) := by omega
        obtain ⟨Ao, co, rfl, hco⟩ := own_form hna.ord
        have c4 : wa.cell? ⟨p, 4, none⟩ = some (.slice Ao k co) := by rw [cell_of_row _ _ _ _ _ _ hna.cells]; rfl
        have hpl : p < wa.heap.size := (Array.getElem?_eq_some_iff.1 hna.cells).1
        have HNA := Lib.hid hna; clear hna
        go_wp2_with fail
        go_cut [] (fun wx => NL w1 p n P B s b (k + 1) k wx ∧ Below w1.heap.size w1 wx)
        case first =>
          refine wp_region_held_drew (S := fun w' => Below w1.heap.size w1 w') (by kernel_rfl) ?_ (fun hHeld => ?_)
          · (try dsimp only); first | exact hbw | exact hbw.drew | exact hHeld | exact hbw.trans (HB9.out.mono hsz) | exact hHeld.alloc hHeld.size _ | exact (hbw.trans (HB9.out.mono hsz)).trans HB8.out | exact hHeld.setCell HNA.out.pb _
          refine wpAnyH_take (i := 0) (oi := ⟨some 27, _, _, _, _, _⟩) (v := ?_) rfl (by kernel_rfl) (by kernel_rfl) (by kernel_rfl) (fun _ _ _ h => h) (Or.inl ⟨by rfl, ?_⟩) (by assumption) ?_
          rotate_left
          · (intro w hSw; (try dsimp only at hSw); go_simp; try with_reducible rfl)
          try simp only [Act.put, List.setIfInBounds_toArray, List.set_cons_zero, List.set_cons_succ]
          refine wpAnyH_take (i := 1) (oi := ⟨some 28, _, _, _, _, _⟩) (v := ?_) rfl (by kernel_rfl) (by kernel_rfl) (by kernel_rfl) (fun _ _ _ h => h) (Or.inl ⟨by rfl, ?_⟩) (by assumption) ?_
          rotate_left
          · (intro w hSw; (try dsimp only at hSw); go_simp; try with_reducible rfl)
          try simp only [Act.put, List.setIfInBounds_toArray, List.set_cons_zero, List.set_cons_succ]
          refine wpAnyH_take (i := 2) (oi := ⟨some 29, _, _, _, _, _⟩) (v := ?_) rfl (by kernel_rfl) (by kernel_rfl) (by kernel_rfl) (fun _ _ _ h => h) (Or.inl ⟨by rfl, ?_⟩) (by assumption) ?_
          rotate_left
          · (intro w hSw; (try dsimp only at hSw); go_simp; try with_reducible rfl)
          try simp only [Act.put, List.setIfInBounds_toArray, List.set_cons_zero, List.set_cons_succ]
          refine wpAnyH_take (i := 3) (oi := ⟨some 30, _, _, _, _, _⟩) (v := ?_) rfl (by kernel_rfl) (by kernel_rfl) (by kernel_rfl) (fun _ _ _ h => h) (Or.inl ⟨by rfl, ?_⟩) (by assumption) ?_
          rotate_left
          · (intro w hSw; (try dsimp only at hSw); go_simp; try with_reducible rfl)
          try simp only [Act.put, List.setIfInBounds_toArray, List.set_cons_zero, List.set_cons_succ]
          refine wpAnyH_take (i := 5) (oi := ⟨some 32, _, _, _, _, _⟩) (v := .agg #[.int .i64 P, .int .i64 B, .int .u64 s]) rfl (by kernel_rfl) (by kernel_rfl) (by kernel_rfl) (fun _ _ _ h => h) (Or.inl ⟨by rfl, ?_⟩) (by assumption) ?_
          · (intro w hSw; (try dsimp only at hSw); have h0 := bcells_n hSw x0; have h1 := bcells_n hSw x1; have h2 := bcells_n hSw x2; go_simp)
          try simp only [Act.put, List.setIfInBounds_toArray, List.set_cons_zero, List.set_cons_succ]
          refine wpAnyH_take (i := 6) (oi := ⟨some 33, _, _, _, _, _⟩) (v := ?_) rfl (by kernel_rfl) (by kernel_rfl) (by kernel_rfl) (fun _ _ _ h => h) (Or.inl ⟨by rfl, ?_⟩) (by assumption) ?_
          rotate_left
          · (intro w hSw; (try dsimp only at hSw); go_simp; try with_reducible rfl)
          try simp only [Act.put, List.setIfInBounds_toArray, List.set_cons_zero, List.set_cons_succ]
          refine wpAnyH_take (i := 7) (oi := ⟨some 34, _, _, _, _, _⟩) (v := ?_) rfl (by kernel_rfl) (by kernel_rfl) (by kernel_rfl) (fun _ _ _ h => h) (Or.inl ⟨by rfl, ?_⟩) (by assumption) ?_
          rotate_left
          · (intro w hSw; (try dsimp only at hSw); go_simp; try with_reducible rfl)
          try simp only [Act.put, List.setIfInBounds_toArray, List.set_cons_zero, List.set_cons_succ]
          refine wpAnyH_take (i := 8) (oi := ⟨some 35, _, _, _, _, _⟩) (v := ?_) rfl (by kernel_rfl) (by kernel_rfl) (by kernel_rfl) (fun _ _ _ h => h) (Or.inl ⟨by rfl, ?_⟩) (by assumption) ?_
          rotate_left
          · (intro w hSw; (try dsimp only at hSw); go_simp; try with_reducible rfl)
          try simp only [Act.put, List.setIfInBounds_toArray, List.set_cons_zero, List.set_cons_succ]
          refine wpAnyH_ready (rs := [4, 9]) (by kernel_rfl) (by simp) ?_
          refine AllReadyH.cons (o := ⟨some 31, _, _, _, _, _⟩) rfl (fun K hK => ?_) ?_
          · skip
            go_simp
            refine hK.out _ _ ?_ (fun hHeld => ?_)
            · (try dsimp only); first | exact hbw | exact hbw.drew | exact hHeld | exact hbw.trans (HB9.out.mono hsz) | exact hHeld.alloc hHeld.size _ | exact (hbw.trans (HB9.out.mono hsz)).trans HB8.out | exact hHeld.setCell HNA.out.pb _
            clear hK K
            try simp only [Act.put, List.setIfInBounds_toArray, List.set_cons_zero, List.set_cons_succ]
            refine wpAnyH_ready (rs := [9]) (by kernel_rfl) (by simp) ?_
            refine AllReadyH.cons (o := ⟨some 36, _, _, _, _, _⟩) rfl (fun K hK => ?_) AllReadyH.nil
            go_simp
            refine (order_any _ _ s n k _ hs hn (by omega)).mono ?_
            rintro e w9 ⟨A9, c9, he9, hc9, ho9, hb9⟩
            obtain rfl : e = .returned (.slice A9 n c9) := he9
            have hb9' : Below wa.heap.size wa w9 := ((Qw.refl wa).drew.below _).trans hb9
            have d4 : w9.cell? ⟨p, 4, none⟩ = some (.slice Ao k co) := by rw [cell_of_row _ _ _ _ _ _ ((hb9'.block p hpl).trans HNA.out.cells)]; rfl
            have hpl9 : p < w9.heap.size := by have := hb9'.size; omega
            have HO9 := Lib.hid ho9; have HB9 := Lib.hid hb9'
            clear ho9 hb9 hb9'
            go_wp2_with fail
            refine hK.out _ _ ?_ (fun hHeld => ?_)
            · (try dsimp only); first | exact hbw | exact hbw.drew | exact hHeld | exact hbw.trans (HB9.out.mono hsz) | exact hHeld.alloc hHeld.size _ | exact (hbw.trans (HB9.out.mono hsz)).trans HB8.out | exact hHeld.setCell HNA.out.pb _
            clear hK K
            try simp only [Act.put, List.setIfInBounds_toArray, List.set_cons_zero, List.set_cons_succ]
            refine wpAnyH_ready (rs := [10]) (by kernel_rfl) (by simp) ?_
            refine AllReadyH.cons (o := ⟨some 37, _, _, _, _, _⟩) rfl (fun K hK => ?_) AllReadyH.nil
            go_simp
            refine hK.out _ _ ?_ (fun hHeld => ?_)
            · (try dsimp only); first | exact hbw | exact hbw.drew | exact hHeld | exact hbw.trans (HB9.out.mono hsz) | exact hHeld.alloc hHeld.size _ | exact (hbw.trans (HB9.out.mono hsz)).trans HB8.out | exact hHeld.setCell HNA.out.pb _
            clear hK K
            try simp only [Act.put, List.setIfInBounds_toArray, List.set_cons_zero, List.set_cons_succ]
            refine wpAnyH_ready (rs := [11]) (by kernel_rfl) (by simp) ?_
            refine AllReadyH.cons (o := ⟨some 38, _, _, _, _, _⟩) rfl (fun K hK => ?_) AllReadyH.nil
            refine step_pushL elB_ints (.tmp 31) (.tmp 37) (by rfl) (by rfl) w1.heap.size k _ (by rfl) (ownsRow_below HNA.out.ord HB9.out (Nat.le_refl _)) (by rfl) (by rfl) (by intro u hu; simp at hu; subst hu; rfl) (by omega) (by decide) (by have := HB9.out.size; omega) ?_
            intro v8 w8 hown8 hb8 hg8 hL8
            obtain ⟨A8, c8, rfl, hc8⟩ := own_form hown8
            have hp8 := (hg8.block p hpl9 (fun e => type_ne (ownsRow_below HNA.out.ord HB9.out (Nat.le_refl _)) e.symm ((HB9.out.block p hpl).trans HNA.out.cells) (by decide))).trans ((HB9.out.block p hpl).trans HNA.out.cells)
            have e4 : w8.cell? ⟨p, 4, none⟩ = some (.slice Ao k co) := by rw [cell_of_row _ _ _ _ _ _ hp8]; rfl
            have f4 : w8.frozen? ⟨p, 4, none⟩ = false := by simp [World.frozen?, hp8]
            have HW8 := Lib.hid hown8; have HG8 := Lib.hid hg8; have HB8 := Lib.hid hb8
            clear hp8 hown8 hg8 hb8 hL8
            refine hK.out _ _ ?_ (fun hHeld => ?_)
            · (try dsimp only); first | exact hbw | exact hbw.drew | exact hHeld | exact hbw.trans (HB9.out.mono hsz) | exact hHeld.alloc hHeld.size _ | exact (hbw.trans (HB9.out.mono hsz)).trans HB8.out | exact hHeld.setCell HNA.out.pb _
            clear hK K
            try simp only [Act.put, List.setIfInBounds_toArray, List.set_cons_zero, List.set_cons_succ]
            refine wpAnyH_take (i := 12) (oi := ⟨some 39, _, _, _, _, _⟩) (v := ?_) rfl (by kernel_rfl) (by kernel_rfl) (by kernel_rfl) (fun _ _ _ h => h) (Or.inl ⟨by rfl, ?_⟩) (by assumption) ?_
            rotate_left
            · (intro w hSw; (try dsimp only at hSw); go_simp; try with_reducible rfl)
            try simp only [Act.put, List.setIfInBounds_toArray, List.set_cons_zero, List.set_cons_succ]
            refine wpAnyH_take (i := 13) (oi := ⟨some 40, _, _, _, _, _⟩) (v := ?_) rfl (by kernel_rfl) (by kernel_rfl) (by kernel_rfl) (fun _ _ _ h => h) (Or.inl ⟨by rfl, ?_⟩) (by assumption) ?_
            rotate_left
            · (intro w hSw; (try dsimp only at hSw); go_simp; try with_reducible rfl)
            try simp only [Act.put, List.setIfInBounds_toArray, List.set_cons_zero, List.set_cons_succ]
            refine wpAnyH_ready (rs := [14]) (by kernel_rfl) (by simp) ?_
            refine AllReadyH.cons (o := ⟨none, _, _, _, _, _⟩) rfl (fun K hK => ?_) AllReadyH.nil
            go_simp
            refine hK.out _ _ ?_ (fun hHeld => ?_)
            · (try dsimp only); first | exact hbw | exact hbw.drew | exact hHeld | exact hbw.trans (HB9.out.mono hsz) | exact hHeld.alloc hHeld.size _ | exact (hbw.trans (HB9.out.mono hsz)).trans HB8.out | exact hHeld.setCell HNA.out.pb _
            clear hK K
            try simp only [Act.put, List.setIfInBounds_toArray, List.set_cons_zero, List.set_cons_succ]
            refine wpAnyH_done (by kernel_rfl) ?_ _
            go_wp2_with fail
            go_meet
            exact ⟨⟨km, cbt, Ab, _, _, _, _, HNA.out.pushO hsz HB9.out hc9 HO9.out HW8.out HG8.out⟩, hHeld⟩
          refine AllReadyH.cons (o := ⟨some 36, _, _, _, _, _⟩) rfl (fun K hK => ?_) AllReadyH.nil
          go_simp
          refine (order_any _ _ s n k _ hs hn (by omega)).mono ?_
          rintro e w9 ⟨A9, c9, he9, hc9, ho9, hb9⟩
          obtain rfl : e = .returned (.slice A9 n c9) := he9
          have hb9' : Below wa.heap.size wa w9 := ((Qw.refl wa).drew.below _).trans hb9
          have d4 : w9.cell? ⟨p, 4, none⟩ = some (.slice Ao k co) := by rw [cell_of_row _ _ _ _ _ _ ((hb9'.block p hpl).trans HNA.out.cells)]; rfl
          have hpl9 : p < w9.heap.size := by have := hb9'.size; omega
          have HO9 := Lib.hid ho9; have HB9 := Lib.hid hb9'
          clear ho9 hb9 hb9'
          go_wp2_with fail
          refine hK.out _ _ ?_ (fun hHeld => ?_)
          · (try dsimp only); first | exact hbw | exact hbw.drew | exact hHeld | exact hbw.trans (HB9.out.mono hsz) | exact hHeld.alloc hHeld.size _ | exact (hbw.trans (HB9.out.mono hsz)).trans HB8.out | exact hHeld.setCell HNA.out.pb _
          clear hK K
          try simp only [Act.put, List.setIfInBounds_toArray, List.set_cons_zero, List.set_cons_succ]
          refine wpAnyH_ready (rs := [4, 10]) (by kernel_rfl) (by simp) ?_
          refine AllReadyH.cons (o := ⟨some 31, _, _, _, _, _⟩) rfl (fun K hK => ?_) ?_
          · skip
            go_simp
            refine hK.out _ _ ?_ (fun hHeld => ?_)
            · (try dsimp only); first | exact hbw | exact hbw.drew | exact hHeld | exact hbw.trans (HB9.out.mono hsz) | exact hHeld.alloc hHeld.size _ | exact (hbw.trans (HB9.out.mono hsz)).trans HB8.out | exact hHeld.setCell HNA.out.pb _
            clear hK K
            try simp only [Act.put, List.setIfInBounds_toArray, List.set_cons_zero, List.set_cons_succ]
            refine wpAnyH_ready (rs := [10]) (by kernel_rfl) (by simp) ?_
            refine AllReadyH.cons (o := ⟨some 37, _, _, _, _, _⟩) rfl (fun K hK => ?_) AllReadyH.nil
            go_simp
            refine hK.out _ _ ?_ (fun hHeld => ?_)
            · (try dsimp only); first | exact hbw | exact hbw.drew | exact hHeld | exact hbw.trans (HB9.out.mono hsz) | exact hHeld.alloc hHeld.size _ | exact (hbw.trans (HB9.out.mono hsz)).trans HB8.out | exact hHeld.setCell HNA.out.pb _
            clear hK K
            try simp only [Act.put, List.setIfInBounds_toArray, List.set_cons_zero, List.set_cons_succ]
            refine wpAnyH_ready (rs := [11]) (by kernel_rfl) (by simp) ?_
            refine AllReadyH.cons (o := ⟨some 38, _, _, _, _, _⟩) rfl (fun K hK => ?_) AllReadyH.nil
            refine step_pushL elB_ints (.tmp 31) (.tmp 37) (by rfl) (by rfl) w1.heap.size k _ (by rfl) (ownsRow_below HNA.out.ord HB9.out (Nat.le_refl _)) (by rfl) (by rfl) (by intro u hu; simp at hu; subst hu; rfl) (by omega) (by decide) (by have := HB9.out.size; omega) ?_
            intro v8 w8 hown8 hb8 hg8 hL8
            obtain ⟨A8, c8, rfl, hc8⟩ := own_form hown8
            have hp8 := (hg8.block p hpl9 (fun e => type_ne (ownsRow_below HNA.out.ord HB9.out (Nat.le_refl _)) e.symm ((HB9.out.block p hpl).trans HNA.out.cells) (by decide))).trans ((HB9.out.block p hpl).trans HNA.out.cells)
            have e4 : w8.cell? ⟨p, 4, none⟩ = some (.slice Ao k co) := by rw [cell_of_row _ _ _ _ _ _ hp8]; rfl
            have f4 : w8.frozen? ⟨p, 4, none⟩ = false := by simp [World.frozen?, hp8]
            have HW8 := Lib.hid hown8; have HG8 := Lib.hid hg8; have HB8 := Lib.hid hb8
            clear hp8 hown8 hg8 hb8 hL8
            refine hK.out _ _ ?_ (fun hHeld => ?_)
            · (try dsimp only); first | exact hbw | exact hbw.drew | exact hHeld | exact hbw.trans (HB9.out.mono hsz) | exact hHeld.alloc hHeld.size _ | exact (hbw.trans (HB9.out.mono hsz)).trans HB8.out | exact hHeld.setCell HNA.out.pb _
            clear hK K
            try simp only [Act.put, List.setIfInBounds_toArray, List.set_cons_zero, List.set_cons_succ]
            refine wpAnyH_take (i := 12) (oi := ⟨some 39, _, _, _, _, _⟩) (v := ?_) rfl (by kernel_rfl) (by kernel_rfl) (by kernel_rfl) (fun _ _ _ h => h) (Or.inl ⟨by rfl, ?_⟩) (by assumption) ?_
            rotate_left
            · (intro w hSw; (try dsimp only at hSw); go_simp; try with_reducible rfl)
            try simp only [Act.put, List.setIfInBounds_toArray, List.set_cons_zero, List.set_cons_succ]
            refine wpAnyH_take (i := 13) (oi := ⟨some 40, _, _, _, _, _⟩) (v := ?_) rfl (by kernel_rfl) (by kernel_rfl) (by kernel_rfl) (fun _ _ _ h => h) (Or.inl ⟨by rfl, ?_⟩) (by assumption) ?_
            rotate_left
            · (intro w hSw; (try dsimp only at hSw); go_simp; try with_reducible rfl)
            try simp only [Act.put, List.setIfInBounds_toArray, List.set_cons_zero, List.set_cons_succ]
            refine wpAnyH_ready (rs := [14]) (by kernel_rfl) (by simp) ?_
            refine AllReadyH.cons (o := ⟨none, _, _, _, _, _⟩) rfl (fun K hK => ?_) AllReadyH.nil
            go_simp
            refine hK.out _ _ ?_ (fun hHeld => ?_)
            · (try dsimp only); first | exact hbw | exact hbw.drew | exact hHeld | exact hbw.trans (HB9.out.mono hsz) | exact hHeld.alloc hHeld.size _ | exact (hbw.trans (HB9.out.mono hsz)).trans HB8.out | exact hHeld.setCell HNA.out.pb _
            clear hK K
            try simp only [Act.put, List.setIfInBounds_toArray, List.set_cons_zero, List.set_cons_succ]
            refine wpAnyH_done (by kernel_rfl) ?_ _
            go_wp2_with fail
            go_meet
            exact ⟨⟨km, cbt, Ab, _, _, _, _, HNA.out.pushO hsz HB9.out hc9 HO9.out HW8.out HG8.out⟩, hHeld⟩
          refine AllReadyH.cons (o := ⟨some 37, _, _, _, _, _⟩) rfl (fun K hK => ?_) AllReadyH.nil
          go_simp
          refine hK.out _ _ ?_ (fun hHeld => ?_)
          · (try dsimp only); first | exact hbw | exact hbw.drew | exact hHeld | exact hbw.trans (HB9.out.mono hsz) | exact hHeld.alloc hHeld.size _ | exact (hbw.trans (HB9.out.mono hsz)).trans HB8.out | exact hHeld.setCell HNA.out.pb _
          clear hK K
          try simp only [Act.put, List.setIfInBounds_toArray, List.set_cons_zero, List.set_cons_succ]
          refine wpAnyH_ready (rs := [4]) (by kernel_rfl) (by simp) ?_
          refine AllReadyH.cons (o := ⟨some 31, _, _, _, _, _⟩) rfl (fun K hK => ?_) AllReadyH.nil
          go_simp
          refine hK.out _ _ ?_ (fun hHeld => ?_)
          · (try dsimp only); first | exact hbw | exact hbw.drew | exact hHeld | exact hbw.trans (HB9.out.mono hsz) | exact hHeld.alloc hHeld.size _ | exact (hbw.trans (HB9.out.mono hsz)).trans HB8.out | exact hHeld.setCell HNA.out.pb _
          clear hK K
          try simp only [Act.put, List.setIfInBounds_toArray, List.set_cons_zero, List.set_cons_succ]
          refine wpAnyH_ready (rs := [11]) (by kernel_rfl) (by simp) ?_
          refine AllReadyH.cons (o := ⟨some 38, _, _, _, _, _⟩) rfl (fun K hK => ?_) AllReadyH.nil
          refine step_pushL elB_ints (.tmp 31) (.tmp 37) (by rfl) (by rfl) w1.heap.size k _ (by rfl) (ownsRow_below HNA.out.ord HB9.out (Nat.le_refl _)) (by rfl) (by rfl) (by intro u hu; simp at hu; subst hu; rfl) (by omega) (by decide) (by have := HB9.out.size; omega) ?_
          intro v8 w8 hown8 hb8 hg8 hL8
          obtain ⟨A8, c8, rfl, hc8⟩ := own_form hown8
          have hp8 := (hg8.block p hpl9 (fun e => type_ne (ownsRow_below HNA.out.ord HB9.out (Nat.le_refl _)) e.symm ((HB9.out.block p hpl).trans HNA.out.cells) (by decide))).trans ((HB9.out.block p hpl).trans HNA.out.cells)
          have e4 : w8.cell? ⟨p, 4, none⟩ = some (.slice Ao k co) := by rw [cell_of_row _ _ _ _ _ _ hp8]; rfl
          have f4 : w8.frozen? ⟨p, 4, none⟩ = false := by simp [World.frozen?, hp8]
          have HW8 := Lib.hid hown8; have HG8 := Lib.hid hg8; have HB8 := Lib.hid hb8
          clear hp8 hown8 hg8 hb8 hL8
          refine hK.out _ _ ?_ (fun hHeld => ?_)
          · (try dsimp only); first | exact hbw | exact hbw.drew | exact hHeld | exact hbw.trans (HB9.out.mono hsz) | exact hHeld.alloc hHeld.size _ | exact (hbw.trans (HB9.out.mono hsz)).trans HB8.out | exact hHeld.setCell HNA.out.pb _
          clear hK K
          try simp only [Act.put, List.setIfInBounds_toArray, List.set_cons_zero, List.set_cons_succ]
          refine wpAnyH_take (i := 12) (oi := ⟨some 39, _, _, _, _, _⟩) (v := ?_) rfl (by kernel_rfl) (by kernel_rfl) (by kernel_rfl) (fun _ _ _ h => h) (Or.inl ⟨by rfl, ?_⟩) (by assumption) ?_
          rotate_left
          · (intro w hSw; (try dsimp only at hSw); go_simp; try with_reducible rfl)
          try simp only [Act.put, List.setIfInBounds_toArray, List.set_cons_zero, List.set_cons_succ]
          refine wpAnyH_take (i := 13) (oi := ⟨some 40, _, _, _, _, _⟩) (v := ?_) rfl (by kernel_rfl) (by kernel_rfl) (by kernel_rfl) (fun _ _ _ h => h) (Or.inl ⟨by rfl, ?_⟩) (by assumption) ?_
          rotate_left
          · (intro w hSw; (try dsimp only at hSw); go_simp; try with_reducible rfl)
          try simp only [Act.put, List.setIfInBounds_toArray, List.set_cons_zero, List.set_cons_succ]
          refine wpAnyH_ready (rs := [14]) (by kernel_rfl) (by simp) ?_
          refine AllReadyH.cons (o := ⟨none, _, _, _, _, _⟩) rfl (fun K hK => ?_) AllReadyH.nil
          go_simp
          refine hK.out _ _ ?_ (fun hHeld => ?_)
          · (try dsimp only); first | exact hbw | exact hbw.drew | exact hHeld | exact hbw.trans (HB9.out.mono hsz) | exact hHeld.alloc hHeld.size _ | exact (hbw.trans (HB9.out.mono hsz)).trans HB8.out | exact hHeld.setCell HNA.out.pb _
          clear hK K
          try simp only [Act.put, List.setIfInBounds_toArray, List.set_cons_zero, List.set_cons_succ]
          refine wpAnyH_done (by kernel_rfl) ?_ _
          go_wp2_with fail
          go_meet
          exact ⟨⟨km, cbt, Ab, _, _, _, _, HNA.out.pushO hsz HB9.out hc9 HO9.out HW8.out HG8.out⟩, hHeld⟩
        case rest => as_aux_lemma =>
          obtain ⟨w3, hw3⟩ : ∃ x, x = wc := ⟨_, rfl⟩
          subst hw3
          clear c4 hpl HNA hbw hsz
          obtain ⟨wa, rfl⟩ : ∃ x : World, x = w3 := ⟨_, rfl⟩
          obtain ⟨⟨km, cbt, Ab, vo, vb, os, bs, hna⟩, hbw⟩ := hcut
          have hsz := hbw.size
          obtain ⟨Ao, co, rfl, hco⟩ := own_form hna.blk
          have c4 : wa.cell? ⟨p, 5, none⟩ = some (.slice Ao k co) := by rw [cell_of_row _ _ _ _ _ _ hna.cells]; rfl
          have hpl : p < wa.heap.size := (Array.getElem?_eq_some_iff.1 hna.cells).1
          have HNA := Lib.hid hna; clear hna
          go_wp2_with fail
          have hk6 : (k : Int) ≤ 6 := by omega
          refine wp_region_held_drew (S := fun w' => Below w1.heap.size w1 w') (by kernel_rfl) ?_ (fun hHeld => ?_)
          · (try dsimp only); first | exact hbw | exact hbw.drew | exact hHeld | exact hbw.trans (HB9.out.mono hsz) | exact hHeld.alloc hHeld.size _ | exact (hbw.trans (HB9.out.mono hsz)).trans HB8.out | exact hHeld.setCell HNA.out.pb _
          refine wpAnyH_take (i := 0) (oi := ⟨some 41, _, _, _, _, _⟩) (v := ?_) rfl (by kernel_rfl) (by kernel_rfl) (by kernel_rfl) (fun _ _ _ h => h) (Or.inl ⟨by rfl, ?_⟩) (by assumption) ?_
          rotate_left
          · (intro w hSw; (try dsimp only at hSw); go_simp; try with_reducible rfl)
          try simp only [Act.put, List.setIfInBounds_toArray, List.set_cons_zero, List.set_cons_succ]
          refine wpAnyH_take (i := 1) (oi := ⟨some 42, _, _, _, _, _⟩) (v := ?_) rfl (by kernel_rfl) (by kernel_rfl) (by kernel_rfl) (fun _ _ _ h => h) (Or.inl ⟨by rfl, ?_⟩) (by assumption) ?_
          rotate_left
          · (intro w hSw; (try dsimp only at hSw); go_simp; try with_reducible rfl)
          try simp only [Act.put, List.setIfInBounds_toArray, List.set_cons_zero, List.set_cons_succ]
          refine wpAnyH_take (i := 2) (oi := ⟨some 43, _, _, _, _, _⟩) (v := ?_) rfl (by kernel_rfl) (by kernel_rfl) (by kernel_rfl) (fun _ _ _ h => h) (Or.inl ⟨by rfl, ?_⟩) (by assumption) ?_
          rotate_left
          · (intro w hSw; (try dsimp only at hSw); go_simp; try with_reducible rfl)
          try simp only [Act.put, List.setIfInBounds_toArray, List.set_cons_zero, List.set_cons_succ]
          refine wpAnyH_take (i := 3) (oi := ⟨some 44, _, _, _, _, _⟩) (v := ?_) rfl (by kernel_rfl) (by kernel_rfl) (by kernel_rfl) (fun _ _ _ h => h) (Or.inl ⟨by rfl, ?_⟩) (by assumption) ?_
          rotate_left
          · (intro w hSw; (try dsimp only at hSw); go_simp; try with_reducible rfl)
          try simp only [Act.put, List.setIfInBounds_toArray, List.set_cons_zero, List.set_cons_succ]
          refine wpAnyH_take (i := 5) (oi := ⟨some 46, _, _, _, _, _⟩) (v := .agg #[.int .i64 P, .int .i64 B, .int .u64 s]) rfl (by kernel_rfl) (by kernel_rfl) (by kernel_rfl) (fun _ _ _ h => h) (Or.inl ⟨by rfl, ?_⟩) (by assumption) ?_
          · (intro w hSw; (try dsimp only at hSw); have h0 := bcells_n hSw x0; have h1 := bcells_n hSw x1; have h2 := bcells_n hSw x2; go_simp)
          try simp only [Act.put, List.setIfInBounds_toArray, List.set_cons_zero, List.set_cons_succ]
          refine wpAnyH_take (i := 6) (oi := ⟨some 47, _, _, _, _, _⟩) (v := ?_) rfl (by kernel_rfl) (by kernel_rfl) (by kernel_rfl) (fun _ _ _ h => h) (Or.inl ⟨by rfl, ?_⟩) (by assumption) ?_
          rotate_left
          · (intro w hSw; (try dsimp only at hSw); go_simp; try with_reducible rfl)
          try simp only [Act.put, List.setIfInBounds_toArray, List.set_cons_zero, List.set_cons_succ]
          refine wpAnyH_take (i := 7) (oi := ⟨some 48, _, _, _, _, _⟩) (v := ?_) rfl (by kernel_rfl) (by kernel_rfl) (by kernel_rfl) (fun _ _ _ h => h) (Or.inl ⟨by rfl, ?_⟩) (by assumption) ?_
          rotate_left
          · (intro w hSw; (try dsimp only at hSw); go_simp; try with_reducible rfl)
          try simp only [Act.put, List.setIfInBounds_toArray, List.set_cons_zero, List.set_cons_succ]
          refine wpAnyH_take (i := 8) (oi := ⟨some 49, _, _, _, _, _⟩) (v := ?_) rfl (by kernel_rfl) (by kernel_rfl) (by kernel_rfl) (fun _ _ _ h => h) (Or.inl ⟨by rfl, ?_⟩) (by assumption) ?_
          rotate_left
          · (intro w hSw; (try dsimp only at hSw); go_simp; try with_reducible rfl)
          try simp only [Act.put, List.setIfInBounds_toArray, List.set_cons_zero, List.set_cons_succ]
          refine wpAnyH_ready (rs := [4, 9]) (by kernel_rfl) (by simp) ?_
          refine AllReadyH.cons (o := ⟨some 45, _, _, _, _, _⟩) rfl (fun K hK => ?_) ?_
          · skip
            go_simp
            refine hK.out _ _ ?_ (fun hHeld => ?_)
            · (try dsimp only); first | exact hbw | exact hbw.drew | exact hHeld | exact hbw.trans (HB9.out.mono hsz) | exact hHeld.alloc hHeld.size _ | exact (hbw.trans (HB9.out.mono hsz)).trans HB8.out | exact hHeld.setCell HNA.out.pb _
            clear hK K
            try simp only [Act.put, List.setIfInBounds_toArray, List.set_cons_zero, List.set_cons_succ]
            refine wpAnyH_ready (rs := [9]) (by kernel_rfl) (by simp) ?_
            refine AllReadyH.cons (o := ⟨some 50, _, _, _, _, _⟩) rfl (fun K hK => ?_) AllReadyH.nil
            go_simp
            refine (cut_any2 _ B s n k _ hB hB5 hn (by omega)).mono ?_
            rintro e w9 ⟨A9, c9, he9, hc9, ho9, hb9⟩
            obtain rfl : e = .returned (.slice A9 (cutL B n k).length c9) := he9
            have hb9' : Below wa.heap.size wa w9 := ((Qw.refl wa).drew.below _).trans hb9
            have d4 : w9.cell? ⟨p, 5, none⟩ = some (.slice Ao k co) := by rw [cell_of_row _ _ _ _ _ _ ((hb9'.block p hpl).trans HNA.out.cells)]; rfl
            have hpl9 : p < w9.heap.size := by have := hb9'.size; omega
            have HO9 := Lib.hid ho9; have HB9 := Lib.hid hb9'
            clear ho9 hb9 hb9'
            go_wp2_with fail
            refine hK.out _ _ ?_ (fun hHeld => ?_)
            · (try dsimp only); first | exact hbw | exact hbw.drew | exact hHeld | exact hbw.trans (HB9.out.mono hsz) | exact hHeld.alloc hHeld.size _ | exact (hbw.trans (HB9.out.mono hsz)).trans HB8.out | exact hHeld.setCell HNA.out.pb _
            clear hK K
            try simp only [Act.put, List.setIfInBounds_toArray, List.set_cons_zero, List.set_cons_succ]
            refine wpAnyH_ready (rs := [10]) (by kernel_rfl) (by simp) ?_
            refine AllReadyH.cons (o := ⟨some 51, _, _, _, _, _⟩) rfl (fun K hK => ?_) AllReadyH.nil
            go_simp
            refine hK.out _ _ ?_ (fun hHeld => ?_)
            · (try dsimp only); first | exact hbw | exact hbw.drew | exact hHeld | exact hbw.trans (HB9.out.mono hsz) | exact hHeld.alloc hHeld.size _ | exact (hbw.trans (HB9.out.mono hsz)).trans HB8.out | exact hHeld.setCell HNA.out.pb _
            clear hK K
            try simp only [Act.put, List.setIfInBounds_toArray, List.set_cons_zero, List.set_cons_succ]
            refine wpAnyH_ready (rs := [11]) (by kernel_rfl) (by simp) ?_
            refine AllReadyH.cons (o := ⟨some 52, _, _, _, _, _⟩) rfl (fun K hK => ?_) AllReadyH.nil
            refine step_pushL elB_qs (.tmp 45) (.tmp 51) (by rfl) (by rfl) w1.heap.size k _ (by rfl) (ownsRow_below HNA.out.blk HB9.out (Nat.le_refl _)) (by rfl) (by rfl) (by intro u hu; simp at hu; subst hu; rfl) (by omega) (by decide) (by have := HB9.out.size; omega) ?_
            intro v8 w8 hown8 hb8 hg8 hL8
            obtain ⟨A8, c8, rfl, hc8⟩ := own_form hown8
            have hp8 := (hg8.block p hpl9 (fun e => type_ne (ownsRow_below HNA.out.blk HB9.out (Nat.le_refl _)) e.symm ((HB9.out.block p hpl).trans HNA.out.cells) (by decide))).trans ((HB9.out.block p hpl).trans HNA.out.cells)
            have e4 : w8.cell? ⟨p, 5, none⟩ = some (.slice Ao k co) := by rw [cell_of_row _ _ _ _ _ _ hp8]; rfl
            have f4 : w8.frozen? ⟨p, 5, none⟩ = false := by simp [World.frozen?, hp8]
            have HW8 := Lib.hid hown8; have HG8 := Lib.hid hg8; have HB8 := Lib.hid hb8
            clear hp8 hown8 hg8 hb8 hL8
            refine hK.out _ _ ?_ (fun hHeld => ?_)
            · (try dsimp only); first | exact hbw | exact hbw.drew | exact hHeld | exact hbw.trans (HB9.out.mono hsz) | exact hHeld.alloc hHeld.size _ | exact (hbw.trans (HB9.out.mono hsz)).trans HB8.out | exact hHeld.setCell HNA.out.pb _
            clear hK K
            try simp only [Act.put, List.setIfInBounds_toArray, List.set_cons_zero, List.set_cons_succ]
            refine wpAnyH_take (i := 12) (oi := ⟨some 53, _, _, _, _, _⟩) (v := ?_) rfl (by kernel_rfl) (by kernel_rfl) (by kernel_rfl) (fun _ _ _ h => h) (Or.inl ⟨by rfl, ?_⟩) (by assumption) ?_
            rotate_left
            · (intro w hSw; (try dsimp only at hSw); go_simp; try with_reducible rfl)
            try simp only [Act.put, List.setIfInBounds_toArray, List.set_cons_zero, List.set_cons_succ]
            refine wpAnyH_take (i := 13) (oi := ⟨some 54, _, _, _, _, _⟩) (v := ?_) rfl (by kernel_rfl) (by kernel_rfl) (by kernel_rfl) (fun _ _ _ h => h) (Or.inl ⟨by rfl, ?_⟩) (by assumption) ?_
            rotate_left
            · (intro w hSw; (try dsimp only at hSw); go_simp; try with_reducible rfl)
            try simp only [Act.put, List.setIfInBounds_toArray, List.set_cons_zero, List.set_cons_succ]
            refine wpAnyH_ready (rs := [14]) (by kernel_rfl) (by simp) ?_
            refine AllReadyH.cons (o := ⟨none, _, _, _, _, _⟩) rfl (fun K hK => ?_) AllReadyH.nil
            go_simp
            refine hK.out _ _ ?_ (fun hHeld => ?_)
            · (try dsimp only); first | exact hbw | exact hbw.drew | exact hHeld | exact hbw.trans (HB9.out.mono hsz) | exact hHeld.alloc hHeld.size _ | exact (hbw.trans (HB9.out.mono hsz)).trans HB8.out | exact hHeld.setCell HNA.out.pb _
            clear hK K
            try simp only [Act.put, List.setIfInBounds_toArray, List.set_cons_zero, List.set_cons_succ]
            refine wpAnyH_done (by kernel_rfl) ?_ _
            go_wp2_with fail
            go_roundw
            case rel => exact ⟨k + 1, by omega, by go_num, ⟨km, cbt, Ab, _, _, _, _, HNA.out.pushB hsz HB9.out hc9 HO9.out HW8.out HG8.out⟩, hHeld⟩
            case measure => simp [intOf]; omega
          refine AllReadyH.cons (o := ⟨some 50, _, _, _, _, _⟩) rfl (fun K hK => ?_) AllReadyH.nil
          go_simp
          refine (cut_any2 _ B s n k _ hB hB5 hn (by omega)).mono ?_
          rintro e w9 ⟨A9, c9, he9, hc9, ho9, hb9⟩
          obtain rfl : e = .returned (.slice A9 (cutL B n k).length c9) := he9
          have hb9' : Below wa.heap.size wa w9 := ((Qw.refl wa).drew.below _).trans hb9
          have d4 : w9.cell? ⟨p, 5, none⟩ = some (.slice Ao k co) := by rw [cell_of_row _ _ _ _ _ _ ((hb9'.block p hpl).trans HNA.out.cells)]; rfl
          have hpl9 : p < w9.heap.size := by have := hb9'.size; omega
          have HO9 := Lib.hid ho9; have HB9 := Lib.hid hb9'
          clear ho9 hb9 hb9'
          go_wp2_with fail
          refine hK.out _ _ ?_ (fun hHeld => ?_)
          · (try dsimp only); first | exact hbw | exact hbw.drew | exact hHeld | exact hbw.trans (HB9.out.mono hsz) | exact hHeld.alloc hHeld.size _ | exact (hbw.trans (HB9.out.mono hsz)).trans HB8.out | exact hHeld.setCell HNA.out.pb _
          clear hK K
          try simp only [Act.put, List.setIfInBounds_toArray, List.set_cons_zero, List.set_cons_succ]
          refine wpAnyH_ready (rs := [4, 10]) (by kernel_rfl) (by simp) ?_
          refine AllReadyH.cons (o := ⟨some 45, _, _, _, _, _⟩) rfl (fun K hK => ?_) ?_
          · skip
            go_simp
            refine hK.out _ _ ?_ (fun hHeld => ?_)
            · (try dsimp only); first | exact hbw | exact hbw.drew | exact hHeld | exact hbw.trans (HB9.out.mono hsz) | exact hHeld.alloc hHeld.size _ | exact (hbw.trans (HB9.out.mono hsz)).trans HB8.out | exact hHeld.setCell HNA.out.pb _
            clear hK K
            try simp only [Act.put, List.setIfInBounds_toArray, List.set_cons_zero, List.set_cons_succ]
            refine wpAnyH_ready (rs := [10]) (by kernel_rfl) (by simp) ?_
            refine AllReadyH.cons (o := ⟨some 51, _, _, _, _, _⟩) rfl (fun K hK => ?_) AllReadyH.nil
            go_simp
            refine hK.out _ _ ?_ (fun hHeld => ?_)
            · (try dsimp only); first | exact hbw | exact hbw.drew | exact hHeld | exact hbw.trans (HB9.out.mono hsz) | exact hHeld.alloc hHeld.size _ | exact (hbw.trans (HB9.out.mono hsz)).trans HB8.out | exact hHeld.setCell HNA.out.pb _
            clear hK K
            try simp only [Act.put, List.setIfInBounds_toArray, List.set_cons_zero, List.set_cons_succ]
            refine wpAnyH_ready (rs := [11]) (by kernel_rfl) (by simp) ?_
            refine AllReadyH.cons (o := ⟨some 52, _, _, _, _, _⟩) rfl (fun K hK => ?_) AllReadyH.nil
            refine step_pushL elB_qs (.tmp 45) (.tmp 51) (by rfl) (by rfl) w1.heap.size k _ (by rfl) (ownsRow_below HNA.out.blk HB9.out (Nat.le_refl _)) (by rfl) (by rfl) (by intro u hu; simp at hu; subst hu; rfl) (by omega) (by decide) (by have := HB9.out.size; omega) ?_
            intro v8 w8 hown8 hb8 hg8 hL8
            obtain ⟨A8, c8, rfl, hc8⟩ := own_form hown8
            have hp8 := (hg8.block p hpl9 (fun e => type_ne (ownsRow_below HNA.out.blk HB9.out (Nat.le_refl _)) e.symm ((HB9.out.block p hpl).trans HNA.out.cells) (by decide))).trans ((HB9.out.block p hpl).trans HNA.out.cells)
            have e4 : w8.cell? ⟨p, 5, none⟩ = some (.slice Ao k co) := by rw [cell_of_row _ _ _ _ _ _ hp8]; rfl
            have f4 : w8.frozen? ⟨p, 5, none⟩ = false := by simp [World.frozen?, hp8]
            have HW8 := Lib.hid hown8; have HG8 := Lib.hid hg8; have HB8 := Lib.hid hb8
            clear hp8 hown8 hg8 hb8 hL8
            refine hK.out _ _ ?_ (fun hHeld => ?_)
            · (try dsimp only); first | exact hbw | exact hbw.drew | exact hHeld | exact hbw.trans (HB9.out.mono hsz) | exact hHeld.alloc hHeld.size _ | exact (hbw.trans (HB9.out.mono hsz)).trans HB8.out | exact hHeld.setCell HNA.out.pb _
            clear hK K
            try simp only [Act.put, List.setIfInBounds_toArray, List.set_cons_zero, List.set_cons_succ]
            refine wpAnyH_take (i := 12) (oi := ⟨some 53, _, _, _, _, _⟩) (v := ?_) rfl (by kernel_rfl) (by kernel_rfl) (by kernel_rfl) (fun _ _ _ h => h) (Or.inl ⟨by rfl, ?_⟩) (by assumption) ?_
            rotate_left
            · (intro w hSw; (try dsimp only at hSw); go_simp; try with_reducible rfl)
            try simp only [Act.put, List.setIfInBounds_toArray, List.set_cons_zero, List.set_cons_succ]
            refine wpAnyH_take (i := 13) (oi := ⟨some 54, _, _, _, _, _⟩) (v := ?_) rfl (by kernel_rfl) (by kernel_rfl) (by kernel_rfl) (fun _ _ _ h => h) (Or.inl ⟨by rfl, ?_⟩) (by assumption) ?_
            rotate_left
            · (intro w hSw; (try dsimp only at hSw); go_simp; try with_reducible rfl)
            try simp only [Act.put, List.setIfInBounds_toArray, List.set_cons_zero, List.set_cons_succ]
            refine wpAnyH_ready (rs := [14]) (by kernel_rfl) (by simp) ?_
            refine AllReadyH.cons (o := ⟨none, _, _, _, _, _⟩) rfl (fun K hK => ?_) AllReadyH.nil
            go_simp
            refine hK.out _ _ ?_ (fun hHeld => ?_)
            · (try dsimp only); first | exact hbw | exact hbw.drew | exact hHeld | exact hbw.trans (HB9.out.mono hsz) | exact hHeld.alloc hHeld.size _ | exact (hbw.trans (HB9.out.mono hsz)).trans HB8.out | exact hHeld.setCell HNA.out.pb _
            clear hK K
            try simp only [Act.put, List.setIfInBounds_toArray, List.set_cons_zero, List.set_cons_succ]
            refine wpAnyH_done (by kernel_rfl) ?_ _
            go_wp2_with fail
            go_roundw
            case rel => exact ⟨k + 1, by omega, by go_num, ⟨km, cbt, Ab, _, _, _, _, HNA.out.pushB hsz HB9.out hc9 HO9.out HW8.out HG8.out⟩, hHeld⟩
            case measure => simp [intOf]; omega
          refine AllReadyH.cons (o := ⟨some 51, _, _, _, _, _⟩) rfl (fun K hK => ?_) AllReadyH.nil
          go_simp
          refine hK.out _ _ ?_ (fun hHeld => ?_)
          · (try dsimp only); first | exact hbw | exact hbw.drew | exact hHeld | exact hbw.trans (HB9.out.mono hsz) | exact hHeld.alloc hHeld.size _ | exact (hbw.trans (HB9.out.mono hsz)).trans HB8.out | exact hHeld.setCell HNA.out.pb _
          clear hK K
          try simp only [Act.put, List.setIfInBounds_toArray, List.set_cons_zero, List.set_cons_succ]
          refine wpAnyH_ready (rs := [4]) (by kernel_rfl) (by simp) ?_
          refine AllReadyH.cons (o := ⟨some 45, _, _, _, _, _⟩) rfl (fun K hK => ?_) AllReadyH.nil
          go_simp
          refine hK.out _ _ ?_ (fun hHeld => ?_)
          · (try dsimp only); first | exact hbw | exact hbw.drew | exact hHeld | exact hbw.trans (HB9.out.mono hsz) | exact hHeld.alloc hHeld.size _ | exact (hbw.trans (HB9.out.mono hsz)).trans HB8.out | exact hHeld.setCell HNA.out.pb _
          clear hK K
          try simp only [Act.put, List.setIfInBounds_toArray, List.set_cons_zero, List.set_cons_succ]
          refine wpAnyH_ready (rs := [11]) (by kernel_rfl) (by simp) ?_
          refine AllReadyH.cons (o := ⟨some 52, _, _, _, _, _⟩) rfl (fun K hK => ?_) AllReadyH.nil
          refine step_pushL elB_qs (.tmp 45) (.tmp 51) (by rfl) (by rfl) w1.heap.size k _ (by rfl) (ownsRow_below HNA.out.blk HB9.out (Nat.le_refl _)) (by rfl) (by rfl) (by intro u hu; simp at hu; subst hu; rfl) (by omega) (by decide) (by have := HB9.out.size; omega) ?_
          intro v8 w8 hown8 hb8 hg8 hL8
          obtain ⟨A8, c8, rfl, hc8⟩ := own_form hown8
          have hp8 := (hg8.block p hpl9 (fun e => type_ne (ownsRow_below HNA.out.blk HB9.out (Nat.le_refl _)) e.symm ((HB9.out.block p hpl).trans HNA.out.cells) (by decide))).trans ((HB9.out.block p hpl).trans HNA.out.cells)
          have e4 : w8.cell? ⟨p, 5, none⟩ = some (.slice Ao k co) := by rw [cell_of_row _ _ _ _ _ _ hp8]; rfl
          have f4 : w8.frozen? ⟨p, 5, none⟩ = false := by simp [World.frozen?, hp8]
          have HW8 := Lib.hid hown8; have HG8 := Lib.hid hg8; have HB8 := Lib.hid hb8
          clear hp8 hown8 hg8 hb8 hL8
          refine hK.out _ _ ?_ (fun hHeld => ?_)
          · (try dsimp only); first | exact hbw | exact hbw.drew | exact hHeld | exact hbw.trans (HB9.out.mono hsz) | exact hHeld.alloc hHeld.size _ | exact (hbw.trans (HB9.out.mono hsz)).trans HB8.out | exact hHeld.setCell HNA.out.pb _
          clear hK K
          try simp only [Act.put, List.setIfInBounds_toArray, List.set_cons_zero, List.set_cons_succ]
          refine wpAnyH_take (i := 12) (oi := ⟨some 53, _, _, _, _, _⟩) (v := ?_) rfl (by kernel_rfl) (by kernel_rfl) (by kernel_rfl) (fun _ _ _ h => h) (Or.inl ⟨by rfl, ?_⟩) (by assumption) ?_
          rotate_left
          · (intro w hSw; (try dsimp only at hSw); go_simp; try with_reducible rfl)
          try simp only [Act.put, List.setIfInBounds_toArray, List.set_cons_zero, List.set_cons_succ]
          refine wpAnyH_take (i := 13) (oi := ⟨some 54, _, _, _, _, _⟩) (v := ?_) rfl (by kernel_rfl) (by kernel_rfl) (by kernel_rfl) (fun _ _ _ h => h) (Or.inl ⟨by rfl, ?_⟩) (by assumption) ?_
          rotate_left
          · (intro w hSw; (try dsimp only at hSw); go_simp; try with_reducible rfl)
          try simp only [Act.put, List.setIfInBounds_toArray, List.set_cons_zero, List.set_cons_succ]
          refine wpAnyH_ready (rs := [14]) (by kernel_rfl) (by simp) ?_
          refine AllReadyH.cons (o := ⟨none, _, _, _, _, _⟩) rfl (fun K hK => ?_) AllReadyH.nil
          go_simp
          refine hK.out _ _ ?_ (fun hHeld => ?_)
          · (try dsimp only); first | exact hbw | exact hbw.drew | exact hHeld | exact hbw.trans (HB9.out.mono hsz) | exact hHeld.alloc hHeld.size _ | exact (hbw.trans (HB9.out.mono hsz)).trans HB8.out | exact hHeld.setCell HNA.out.pb _
          clear hK K
          try simp only [Act.put, List.setIfInBounds_toArray, List.set_cons_zero, List.set_cons_succ]
          refine wpAnyH_done (by kernel_rfl) ?_ _
          go_wp2_with fail
          go_roundw
          case rel => exact ⟨k + 1, by omega, by go_num, ⟨km, cbt, Ab, _, _, _, _, HNA.out.pushB hsz HB9.out hc9 HO9.out HW8.out HG8.out⟩, hHeld⟩
          case measure => simp [intOf]; omega
      · have i1 : (P : Int) ≤ (k : Int) := by omega
        obtain rfl : k = P := by omega
        obtain ⟨L, rfl, hLb, hLn, hLP, hLB, hLs, hm, hwf⟩ := hna.done hP hP6 hB hB5 hs hn
        have HM := Lib.hid hm; have HWF := Lib.hid hwf
        clear hna hm hwf
        go_wp2_with fail
        refine (advance_any L _ (st0 b) _ HM.out HWF.out).mono ?_
        rintro e w9 ⟨rfl, hm9, hT9⟩
        have HM9 := Lib.hid hm9; have HT9 := Lib.hid hT9
        clear hm9 hT9
        go_wp2_with fail
        try simp only [Exit.inBlock, Exit.then]
        refine bodyPost_ret (results_tmp2 rfl _ _ _) rfl ?_
        exact ⟨L, _, rfl, hLn, hLP, hLB, hLs, by rw [hLb]; exact hlt1, HM9.out, (B1.trans (hbw.mono (by omega))).trans (HT9.out.old HM.out (by rw [hLb]; omega))⟩
end Go.Proofs.Ytfinjdkcgmepfaa
/- The contract of Run of the cascades. Conditions: as each statement says. -/
namespace Go.Proofs.Ytfinjdkcgmepfaa
open Go.RowKit
set_option linter.unusedVariables false
/-- What Run hands back. -/
def RunP (n P B s : Nat) (x y : List Bool) (w : World) (e : Ending) (w' : World) : Prop :=
  ∃ (Az : Option Addr) (cz : Nat) (At : Option Addr) (ct : Nat) (S : Mst), e = .returned (.tuple #[.slice Az n cz, .slice At S.told.length ct, .int .i64 0]) ∧
    GoT (pl n P B s) (oT (pl n P B s) y) (1, st0 x) (0, S) ∧ S.opn = false ∧ S.told.length ≤ 787968 ∧ n ≤ cz ∧ S.told.length ≤ ct ∧
    w'.ownsRow w.heap.size 4 1 (.slice Az n cz) n (S.b.map Value.bool) ∧ w'.ownsRow w.heap.size 100 4 (.slice At S.told.length ct) S.told.length (aCells S.told) ∧ Below w.heap.size w w'
/-- What holds at each round. -/
def RunI (x y : List Bool) (w : World) (L : Lay) (vt : Value) (S : Mst) (wr : World) : Prop :=
  GoT L (oT L y) (1, st0 x) (0, S) ∧ Inv L 0 S ∧ MAt wr L vt S ∧ Below w.heap.size w wr
theorem RunI.told {x y : List Bool} {w wr w' : World} {L : Lay} {vt vt' : Value} {S : Mst} (h : RunI x y w L vt S wr) (hb : w.heap.size ≤ L.base) (ho : S.opn = true)
    (hm : MAt w' L vt' (advS L { S with told := S.told ++ [(S.next, parL y (placesL L.s L.n S.next))] })) (hT : MTurn L vt wr w') :
    RunI x y w L vt' (advS L { S with told := S.told ++ [(S.next, parL y (placesL L.s L.n S.next))] }) w' ∧ 1000000 - (advS L { S with told := S.told ++ [(S.next, parL y (placesL L.s L.n S.next))] }).told.length < 1000000 - S.told.length := by
  obtain ⟨h1, h2, h3, h4⟩ := h
  have hst := h3.st
  obtain ⟨g1, g2⟩ := tell_go (o := oT L y) (a := parL y (placesL L.s L.n S.next)) hst.hB.1 hst.hn h2 ho rfl
  refine ⟨⟨h1.trans g1, g2, hm, h4.trans (hT.old h3 hb)⟩, ?_⟩
  have hl := h2.len hst.hP.2 hst.hn
  rw [advS_told, List.length_append]
  simp
  omega
theorem QOk.ok {L : Lay} {q : Qn} (h : QOk L q) (hP : L.P ≤ 6) (hn : L.n ≤ 512) : q.ok := by
  obtain ⟨⟨h1, h2, h3⟩, h4⟩ := h
  exact ⟨by omega, by omega, by omega⟩
set_option maxRecDepth 100000 in
set_option maxHeartbeats 4000000 in
theorem Run_ok (A A' : Option Addr) (n c c' P B s : Nat) (x y : List Bool) (w : World) (hP : 1 ≤ P) (hP6 : P ≤ 6) (hB : 1 ≤ B) (hB5 : B ≤ 512) (hs : s < two64) (hn : n ≤ 512) (h : Rd w w.heap.size 1 A n (x.map Value.bool)) (h' : Rd w w.heap.size 1 A' n (y.map Value.bool)) :
    Calls Try.prog 26 #[casV P B s, .slice A n c, .slice A' n c'] w (RunP n P B s x y w) := by
  have hsn : checkE P B = 0 := checkE_ok.2 ⟨by omega, by omega, by omega, by omega⟩
  have hxl : x.length = n := by have := h.1; simpa using this
  have hyl : y.length = n := by have := h'.1; simpa using this
  have H := Lib.hid h; have H' := Lib.hid h'; have HS := Lib.hid hsn
  clear h h' hsn
  have hne : ((n : Int) != (n : Int)) = false := by simp
  have hn5 : (n : Int) ≤ 512 := by omega
  go_enter Try.func26, Try.ntmps26
  go_wp2_with fail
  refine (Check_ex _ _ _ _).mono ?_
  rintro e w1 ⟨⟨E, hE, rfl⟩, hs1, hb1⟩
  obtain rfl : E = 0 := hE.trans HS.out
  have B1 : Below w.heap.size w w1 := ((Below.refl _ _).alloc (Nat.le_refl _) _).trans (hb1.mono (by simp))
  have hbk : w1.heap[w.heap.size]? = some (.cells (casC P B s) 54 (0, 0)) := by
    rw [hb1.block _ (by simp)]
    exact heap_alloc_new w _
  have k0 : w1.cell? ⟨w.heap.size, 0, none⟩ = some (.int .i64 P) := by rw [cell_of_row _ _ _ _ _ _ hbk]; rfl
  have k1 : w1.cell? ⟨w.heap.size, 1, none⟩ = some (.int .i64 B) := by rw [cell_of_row _ _ _ _ _ _ hbk]; rfl
  have k2 : w1.cell? ⟨w.heap.size, 2, none⟩ = some (.int .u64 s) := by rw [cell_of_row _ _ _ _ _ _ hbk]; rfl
  have HB1 := Lib.hid B1
  have HX := Lib.hid hxl; have HY := Lib.hid hyl
  clear hE hs1 hb1 B1 hbk HS hxl hyl
  go_wp2_with fail
  refine (New_ok A n c P B s x _ hP hP6 hB hB5 hs hn ((H.out.below HB1.out).mono HB1.out.size)).mono ?_
  rintro e w2 ⟨L, vt, rfl, hLn, hLP, hLB, hLs, hbase, hm, hb2⟩
  subst hLn hLP hLB hLs
  have hb2' := HB1.out.trans (hb2.mono HB1.out.size)
  have hI0 := advS_go (L := L) (S := st0 x) (o := oT L y) hB hn (Inv.start (L := L) HX.out)
  have hbs : w.heap.size ≤ L.base := by have := HB1.out.size; omega
  have HI : Hid (RunI x y w L vt (advS L (st0 x)) w2) := Lib.hid ⟨hI0.1, hI0.2, hm, hb2'⟩
  have HH := Lib.hid H'.out
  clear hI0 hm hb2 hb2' k0 k1 k2 hbase H H'
  go_wp2_with fail
  go_loopg [] 1000001 (fun g wr => ∃ (S : Mst) (vt : Value), 1000000 - S.told.length < g ∧ RunI x y w L vt S wr)
  case atStart => exact ⟨_, vt, by omega, HI.out⟩
  case round =>
    obtain ⟨S, vt, hg, hI⟩ := hrel
    obtain ⟨wa, rfl⟩ : ∃ z : World, z = wr := ⟨_, rfl⟩
    have hm := hI.2.2.1
    have hbw := hI.2.2.2
    have c21 : wa.cell? ⟨L.p, 21, none⟩ = some (.bool S.opn) := hm.cell 21
    by_cases ho : S.opn = true
    · rw [ho] at c21
      have c18 : wa.cell? ⟨L.p, 18, none⟩ = some (.int .i64 S.next.p) := hm.cell 18
      have c19 : wa.cell? ⟨L.p, 19, none⟩ = some (.int .i64 S.next.f) := hm.cell 19
      have c20 : wa.cell? ⟨L.p, 20, none⟩ = some (.int .i64 S.next.t) := hm.cell 20
      have hq := hI.2.1.next hB ho
      obtain ⟨⟨hqp, hft, hqt⟩, hlt⟩ := hq
      have hqok : S.next.ok := QOk.ok ⟨⟨hqp, hft, hqt⟩, hlt⟩ hP6 hn
      obtain ⟨wq, hwq⟩ : ∃ z, z = wa.alloc (.cells #[.int .i64 S.next.p, .int .i64 S.next.f, .int .i64 S.next.t] 81) := ⟨_, rfl⟩
      have hbq : Below wa.heap.size wa wq := by rw [hwq]; exact (Below.refl _ _).alloc (Nat.le_refl _) _
      have hmq := hm.below hbq
      have hbk : wq.heap[wa.heap.size]? = some (.cells #[.int .i64 S.next.p, .int .i64 S.next.f, .int .i64 S.next.t] 81 (0, 0)) := by rw [hwq]; exact heap_alloc_new wa _
      have q0 : wq.cell? ⟨wa.heap.size, 0, none⟩ = some (.int .i64 S.next.p) := by rw [cell_of_row _ _ _ _ _ _ hbk]; rfl
      have q1 : wq.cell? ⟨wa.heap.size, 1, none⟩ = some (.int .i64 S.next.f) := by rw [cell_of_row _ _ _ _ _ _ hbk]; rfl
      have q2 : wq.cell? ⟨wa.heap.size, 2, none⟩ = some (.int .i64 S.next.t) := by rw [cell_of_row _ _ _ _ _ _ hbk]; rfl
      have c4 : wq.cell? ⟨L.p, 4, none⟩ = some (.slice (some ⟨L.go, 0, none⟩) L.P L.co) := hmq.cell 4
      have hql : S.next.p < L.os.length := by rw [hmq.st.ol]; exact hqp
      obtain ⟨Ao, co, hA⟩ : ∃ A c, L.os[S.next.p]? = some (A, c) := ⟨_, _, List.getElem?_eq_getElem hql⟩
      have ce : wq.cell? ⟨L.go, S.next.p, none⟩ = some (.slice Ao L.n co) := by
        rw [hmq.st.ord.cellAt S.next.p (by omega), List.getElem?_map, hA]; rfl
      obtain ⟨hnc, hro⟩ := hmq.st.ordr S.next.p Ao co hA
      obtain ⟨A2, hsl, hr2⟩ := slice_cut (P := Try.prog) (t := 38) (sz := 1) Try.underlying38 Try.sizeOf3 (Rd.own hro) S.next.f S.next.t co hft hqt hnc
      have HR : Hid (Rd wq wq.heap.size 1 A2 (S.next.t - S.next.f) ((placesL L.s L.n S.next).map (Value.int .i64))) := Lib.hid (by
        simpa [placesL, List.map_drop, List.map_take] using hr2)
      have hry : Rd wq wq.heap.size 1 A' L.n (y.map Value.bool) := (HH.out.below (hbw.trans (hbq.mono hbw.size))).mono (Nat.le_trans hbw.size hbq.size)
      have HP : Hid (∀ k : Nat, Calls Try.prog 43 #[.slice A' L.n c', .slice A2 (S.next.t - S.next.f) (co - S.next.f)] (wq.drewN k) fun e w' => e = .returned (.bool (parL y (placesL L.s L.n S.next))) ∧ wq.drewN k = w') := Lib.hid fun k =>
        parity_any A' A2 L.n c' (S.next.t - S.next.f) (co - S.next.f) y (placesL L.s L.n S.next) _ _ (by omega) (by omega) (hry.drewN k) (HR.out.drewN k) (fun x hx => placesL_mem hx)
      have i1 : (S.next.p : Int) < (L.P : Int) := by omega
      have HW := Lib.hid hwq; have HMQ := Lib.hid hmq; have HBQ := Lib.hid hbq
      have HII := Lib.hid hI; have HG := Lib.hid hg; have HO := Lib.hid ho; have HQ := Lib.hid hqok
      have hy1 : ∃ yv, yv = parL y (placesL L.s L.n S.next) := ⟨_, rfl⟩
      clear hI hg ho hwq hmq hbq hm hbk hr2 hro hA hql hry hnc hqok
      obtain ⟨yv, hyv⟩ := hy1
      rw [← hyv] at HP
      have HYV := Lib.hid hyv
      clear hyv
      go_wp2_with fail
      rw [← HW.out]
      refine wp_region_quiet_tail 16 (by kernel_rfl) (by kernel_rfl) ?_
      simp only [List.take_succ_cons, List.take_zero, List.drop_succ_cons, List.drop_zero]
      repeat (quiet_step ((go_at_call 43; exact quiet_e (HP.out _))))
      refine wpQuiet_nil ?_
      intro _ hw'
      obtain ⟨nr, hw''⟩ := hw'
      subst hw''
      go_wp2_with fail
      have hinv := HII.out.2.1
      refine (Tell_any L vt S yv _ (HMQ.out.q (⟨nr, rfl⟩ : Qw wq (wq.drewN nr))) hinv.wfm HO.out HQ.out (hinv.wait rfl HO.out).1 (by have := hinv.len hP6 hn; omega)).mono ?_
      rintro e w8 ⟨rfl, vt8, hm8, hT8, hv8⟩
      rw [HYV.out] at hm8
      have hq2 : MTurn L vt wa w8 := (MTurn.below0 HBQ.out).trans ((MTurn.q (⟨nr, rfl⟩ : Qw wq (wq.drewN nr))).trans hT8 (.inl rfl)) (.inl rfl)
      obtain ⟨hR1, hR2⟩ := HII.out.told hbs HO.out hm8 hq2
      have HR1 := Lib.hid hR1; have HR2 := Lib.hid hR2
      clear hm8 hT8 hq2 hR1 hR2 hinv hv8 hbw
      go_wp2_with fail
      have hg := HG.out; have hR2 := HR2.out
      go_roundg (1000000 - S.told.length)
      case measure => omega
      case rel => exact ⟨_, vt8, hR2, HR1.out⟩
    · have ho' : S.opn = false := by simpa using ho
      rw [ho'] at c21
      have c6 : wa.cell? ⟨L.p, 6, none⟩ = some (.slice L.Ab L.n L.cbt) := hm.cell 6
      have c8 : wa.cell? ⟨L.p, 8, none⟩ = some vt := hm.cell 8
      obtain ⟨At, ct, hvt, hct⟩ := own_form hm.told
      have HII := Lib.hid hI; have HO := Lib.hid ho'; have HVT := Lib.hid hvt
      clear hI hm ho ho' hbw hvt
      go_wp2_with fail
      go_region
      go_wp2_with fail
      go_ret3
      obtain ⟨g1, g2, g3', g4'⟩ := HII.out
      have g3 := g3'.q (⟨1, rfl⟩ : Qw wa wa.drew)
      have g4 := g4'.trans (Qw.below (⟨1, rfl⟩ : Qw wa wa.drew) _)
      have hst := g3.st
      refine ⟨L.Ab, L.cbt, At, ct, S, by rw [HVT.out]; rfl, g1.plain, HO.out, g2.len hP6 hn, hst.pc.2.2, hct, ownsRow_mono g3.bits hbs, ?_, g4⟩
      have := ownsRow_mono g3.told hbs
      rw [HVT.out] at this
      exact this
end Go.Proofs.Ytfinjdkcgmepfaa
/- The small example at the end of each statement. Conditions: as each statement says. -/
namespace Go.Proofs.Ytfinjdkcgmepfaa
open Go.RowKit
set_option linter.unusedVariables false
theorem works_end : ((itO (pl 4 1 4 0) (oT (pl 4 1 4 0) [false, true, false, false]) 20 (1, st0 [false, false, false, false])).1, (itO (pl 4 1 4 0) (oT (pl 4 1 4 0) [false, true, false, false]) 20 (1, st0 [false, false, false, false])).2.opn, (itO (pl 4 1 4 0) (oT (pl 4 1 4 0) [false, true, false, false]) 20 (1, st0 [false, false, false, false])).2.b, (itO (pl 4 1 4 0) (oT (pl 4 1 4 0) [false, true, false, false]) 20 (1, st0 [false, false, false, false])).2.told.length) = (0, false, [false, true, false, false], 3) := by
  decide
theorem works_pure {S : Mst} (h : GoT (pl 4 1 4 0) (oT (pl 4 1 4 0) [false, true, false, false]) (1, st0 [false, false, false, false]) (0, S)) (ho : S.opn = false) : S.b = [false, true, false, false] ∧ S.told.length = 3 := by
  have e := works_end
  have hg : GoT (pl 4 1 4 0) (oT (pl 4 1 4 0) [false, true, false, false]) (1, st0 [false, false, false, false]) (itO (pl 4 1 4 0) (oT (pl 4 1 4 0) [false, true, false, false]) 20 (1, st0 [false, false, false, false])) := ⟨20, rfl⟩
  generalize itO (pl 4 1 4 0) (oT (pl 4 1 4 0) [false, true, false, false]) 20 (1, st0 [false, false, false, false]) = t at e hg
  obtain ⟨c, T⟩ := t
  simp only [Prod.mk.injEq] at e
  obtain ⟨rfl, h2, h3, h4⟩ := e
  have := h.same hg ⟨rfl, .inl ho⟩ ⟨rfl, .inl h2⟩
  simp only [Prod.mk.injEq, true_and] at this
  subst this
  exact ⟨h3, h4⟩
set_option maxRecDepth 100000 in
set_option maxHeartbeats 2000000 in
theorem works_any (w : World) : Calls Try.prog 11 #[] w fun e w' => e = .returned (.bool true) ∧ Below w.heap.size w w' := by
  have hmk : ∀ w : World, (Instr.makeSlice 23 (.int .i64 4) (.int .i64 4)).run Try.prog w = .ok (.slice (some ⟨w.heap.size, 0, none⟩) 4 4) (w.alloc (.cells #[.bool false, .bool false, .bool false, .bool false] 4)) := fun w => make_bool w 4 (by decide)
  go_enter Try.func11, Try.ntmps11
  go_wp2_with fail
  clear hmk
  have hb2 : Below w.heap.size w ((w.alloc (.cells #[.bool false, .bool false, .bool false, .bool false] 4)).alloc (.cells #[.bool false, .bool true, .bool false, .bool false] 4)) := ((Below.refl _ _).alloc (Nat.le_refl _) _).alloc (by simp) _
  have h1 : Rd ((w.alloc (.cells #[.bool false, .bool false, .bool false, .bool false] 4)).alloc (.cells #[.bool false, .bool true, .bool false, .bool false] 4)) (w.heap.size + 1) 1 (some ⟨w.heap.size, 0, none⟩) 4 ([false, false, false, false].map Value.bool) :=
    (Rd.new w #[.bool false, .bool false, .bool false, .bool false] 4 1 4 rfl).alloc (by simp) _
  have h2 : Rd ((w.alloc (.cells #[.bool false, .bool false, .bool false, .bool false] 4)).alloc (.cells #[.bool false, .bool true, .bool false, .bool false] 4)) (w.heap.size + 2) 1 (some ⟨w.heap.size + 1, 0, none⟩) 4 ([false, true, false, false].map Value.bool) := by
    have := Rd.new (w.alloc (.cells #[.bool false, .bool false, .bool false, .bool false] 4)) #[.bool false, .bool true, .bool false, .bool false] 4 1 4 rfl
    simpa using this
  refine (Run_ok (some ⟨w.heap.size, 0, none⟩) (some ⟨w.heap.size + 1, 0, none⟩) 4 4 4 1 4 0 [false, false, false, false] [false, true, false, false] _ (by decide) (by decide) (by decide) (by decide) (by decide) (by decide) (h1.mono (by simp)) (h2.mono (by simp))).mono ?_
  clear h1 h2
  rintro e w2 ⟨Az, cz, At, ct, S, rfl, hgo, ho, _, hcz, hct, hz, ht, hb⟩
  obtain ⟨hb1, hb3⟩ := works_pure hgo ho
  have hbb := hb2.trans (hb.mono (by simp; omega))
  rw [hb1] at hz
  have hr := Rd.own hz
  obtain ⟨g, off, rfl, hg, hc⟩ := hr.2 (by decide)
  have c1 : w2.cell? ⟨g, off + 1, none⟩ = some (.bool true) := hc 1 _ rfl
  have hl : S.told.length = 3 := hb3
  have HBB := Lib.hid hbb
  clear hgo ho hz ht hb hb2 hr hc hbb hb3 hb1
  rw [hl]
  go_wp2_with fail
  go_ret
  exact ⟨rfl, HBB.out⟩
end Go.Proofs.Ytfinjdkcgmepfaa
/- Contracts of the small functions of the statements about cascades: plan, short, distance, Bools. Conditions: as each statement says. -/
namespace Go.Proofs.Ytfinjdkcgmepfaa
open Go.RowKit
set_option linter.unusedVariables false
set_option maxHeartbeats 1000000 in
theorem distance_any (A A' : Option Addr) (n c c' : Nat) (xs ys : List Bool) (w : World) (hn : n ≤ 1073741824) (h : Rd w w.heap.size 1 A n (xs.map Value.bool)) (h' : Rd w w.heap.size 1 A' n (ys.map Value.bool)) :
    Calls Try.prog 23 #[.slice A n c, .slice A' n c'] w fun e w' => e = .returned (.int .i64 (distL xs ys : Nat)) ∧ Qw w w' := by
  have hl : xs.length = n := by have := h.1; simpa using this
  have hl' : ys.length = n := by have := h'.1; simpa using this
  have H := Lib.hid h; have H' := Lib.hid h'; have HL := Lib.hid hl; have HL' := Lib.hid hl'; clear h h' hl hl'
  go_enter Try.func23, Try.ntmps23
  go_wp2_with fail
  go_loopw [5, 6] (fun d i wr => ∃ (k dn : Nat), k ≤ n ∧ i = .int .i64 k ∧ d = .int .i64 dn ∧ dn ≤ k ∧ dn + distL (xs.drop k) (ys.drop k) = distL xs ys ∧ Qw w wr) (fun _ i _ => n - (intOf i).toNat)
  case atStart => exact ⟨0, 0, Nat.zero_le _, rfl, rfl, Nat.zero_le _, by simp, Qw.refl _⟩
  case round =>
    obtain ⟨k, dn, hk, rfl, rfl, hdn, hd, hq⟩ := hrel
    have HD := Lib.hid hd; have HQ := Lib.hid hq
    clear hd hq
    by_cases hlt : k < n
    · have hki : (k : Int) < (n : Int) := by omega
      obtain ⟨b, off, rfl, hb, hc⟩ := H.out.2 (by omega)
      obtain ⟨b', off', rfl, hb', hc'⟩ := H'.out.2 (by omega)
      have hlk : k < xs.length := by rw [HL.out]; exact hlt
      have hlk' : k < ys.length := by rw [HL'.out]; exact hlt
      have h1 : wr.cell? ⟨b, off + k, none⟩ = some (.bool xs[k]) := (HQ.out.cell _).trans (hc k _ (by simp [hlk]))
      have h2 : wr.cell? ⟨b', off' + k, none⟩ = some (.bool ys[k]) := (HQ.out.cell _).trans (hc' k _ (by simp [hlk']))
      have HS : Hid (distL (xs.drop k) (ys.drop k) = (if xs[k] != ys[k] then 1 else 0) + distL (xs.drop (k + 1)) (ys.drop (k + 1))) := Lib.hid (by
        rw [List.drop_eq_getElem_cons hlk, List.drop_eq_getElem_cons hlk']; rfl)
      generalize xs[k] = x at h1 HS
      generalize ys[k] = y at h2 HS
      clear hc hc' hlk hlk'
      cases x <;> cases y
      all_goals
        have HT := Lib.hid HS.out
        clear HS
        go_wp2_with fail
        go_quiet (fail)
        go_wp2_with fail
        go_roundw
        case rel =>
          have hd := HD.out; have ht := HT.out
          simp only [bne_self_eq_false, Bool.false_eq_true, if_false, Bool.bne_true, Bool.bne_false, Bool.not_false, if_true] at ht
          first
          | exact ⟨k + 1, dn + 1, hlt, by go_num, by go_num, by omega, by omega, HQ.out.drewN _⟩
          | exact ⟨k + 1, dn, hlt, by go_num, rfl, by omega, by omega, HQ.out.drewN _⟩
        case measure => simp [intOf]; omega
    · have hki : ¬ (k : Int) < (n : Int) := by omega
      obtain rfl : k = n := by omega
      go_wp2_with fail
      go_ret
      have hd := HD.out
      rw [List.drop_of_length_le (by rw [HL.out]; exact Nat.le_refl _)] at hd
      have he : dn = distL xs ys := by simpa [distL] using hd
      exact ⟨by rw [← he]; rfl, HQ.out⟩
set_option maxHeartbeats 1000000 in
theorem Bools_eq (A A' : Option Addr) (n c c' : Nat) (xs : List Bool) (w : World) (hn : n ≤ 1073741824) (h : Rd w w.heap.size 1 A n (xs.map Value.bool)) (h' : Rd w w.heap.size 1 A' n (xs.map Value.bool)) :
    Calls Try.prog 18 #[.slice A n c, .slice A' n c'] w fun e w' => e = .returned (.bool true) ∧ Qw w w' := by
  have hl : xs.length = n := by have := h.1; simpa using this
  have H := Lib.hid h; have H' := Lib.hid h'; have HL := Lib.hid hl; clear h h' hl
  have hne : ((n : Int) != (n : Int)) = false := by simp
  go_enter Try.func18, Try.ntmps18
  go_wp2_with fail
  go_loopw [5] (fun i wr => ∃ k : Nat, k ≤ n ∧ i = .int .i64 k ∧ Qw w wr) (fun i _ => n - (intOf i).toNat)
  case atStart => exact ⟨0, Nat.zero_le _, rfl, Qw.refl _⟩
  case round =>
    obtain ⟨k, hk, rfl, hq⟩ := hrel
    by_cases hlt : k < n
    · have hki : (k : Int) < (n : Int) := by omega
      obtain ⟨b, off, rfl, hb, hc⟩ := H.out.2 (by omega)
      obtain ⟨b', off', rfl, hb', hc'⟩ := H'.out.2 (by omega)
      have hlk : k < xs.length := by rw [HL.out]; exact hlt
      have h1 : wr.cell? ⟨b, off + k, none⟩ = some (.bool xs[k]) := (hq.cell _).trans (hc k _ (by simp [hlk]))
      have h2 : wr.cell? ⟨b', off' + k, none⟩ = some (.bool xs[k]) := (hq.cell _).trans (hc' k _ (by simp [hlk]))
      generalize xs[k] = x at h1 h2
      have HQ := Lib.hid hq
      clear hc hc' hlk hq
      go_wp2_with fail
      go_quiet (fail)
      go_wp2_with fail
      go_roundw
      case rel => exact ⟨k + 1, by omega, by go_num, HQ.out.drewN _⟩
      case measure => simp [intOf]; omega
    · have hki : ¬ (k : Int) < (n : Int) := by omega
      go_wp2_with fail
      go_ret
      exact ⟨rfl, hq⟩
end Go.Proofs.Ytfinjdkcgmepfaa
/- The contract of strings of the statements about cascades. Conditions: as the statement says. -/
namespace Go.Proofs.Ytfinjdkcgmepfaa
open Go.RowKit
set_option linter.unusedVariables false
/-- Two strings of the same length. -/
def TwoP (m : Nat) (x : List Bool) (w : World) (e : Ending) (w' : World) : Prop :=
  ∃ (A1 A2 : Option Addr) (c1 c2 : Nat) (y : List Bool), e = .returned (.tuple #[.slice A1 m c1, .slice A2 m c2]) ∧ y.length = m ∧ m ≤ c1 ∧ m ≤ c2 ∧ w'.ownsRow w.heap.size 4 1 (.slice A1 m c1) m (x.map Value.bool) ∧ w'.ownsRow w.heap.size 4 1 (.slice A2 m c2) m (y.map Value.bool) ∧ Below w.heap.size w w'
end Go.Proofs.Ytfinjdkcgmepfaa
/- Contracts of Blocks, Places, Reply of the cascades, for what is valid. Conditions: as each statement says. -/
namespace Go.Proofs.Ytfinjdkcgmepfaa
open Go.RowKit
set_option linter.unusedVariables false
theorem sane_ok (P B s n : Nat) (w : World) (hP : 1 ≤ P) (hP6 : P ≤ 6) (hB : 1 ≤ B) (hB5 : B ≤ 512) (hn : n ≤ 512) :
    Calls Try.prog 49 #[casV P B s, .int .i64 n] w fun e w' => e = .returned (.int .i64 0) ∧ Below w.heap.size w w' :=
  (sane_any P B s n w).mono fun e w' ⟨he, hb⟩ => ⟨by rw [he, saneE_ok.2 ⟨by omega, by omega, by omega, by omega, by omega, by omega⟩], hb⟩
/-- The cells of a plan in its box. -/
structure PlanAt (w : World) (H P B s : Nat) : Prop where
  blk : w.heap[H]? = some (.cells (casC P B s) 54 (0, 0))
theorem PlanAt.c0 {w : World} {H P B s : Nat} (h : PlanAt w H P B s) : w.cell? ⟨H, 0, none⟩ = some (.int .i64 P) := by rw [cell_of_row _ _ _ _ _ _ h.blk]; rfl
theorem PlanAt.c1 {w : World} {H P B s : Nat} (h : PlanAt w H P B s) : w.cell? ⟨H, 1, none⟩ = some (.int .i64 B) := by rw [cell_of_row _ _ _ _ _ _ h.blk]; rfl
theorem PlanAt.c2 {w : World} {H P B s : Nat} (h : PlanAt w H P B s) : w.cell? ⟨H, 2, none⟩ = some (.int .u64 s) := by rw [cell_of_row _ _ _ _ _ _ h.blk]; rfl
theorem PlanAt.lt {w : World} {H P B s : Nat} (h : PlanAt w H P B s) : H < w.heap.size := (Array.getElem?_eq_some_iff.1 h.blk).1
theorem PlanAt.below {w w' : World} {H P B s n : Nat} (h : PlanAt w H P B s) (hb : Below n w w') (hn : w.heap.size ≤ n) : PlanAt w' H P B s := ⟨(hb.block _ (Nat.lt_of_lt_of_le h.lt hn)).trans h.blk⟩
theorem PlanAt.new (w : World) (P B s : Nat) : PlanAt (w.alloc (.cells (casC P B s) 54)) w.heap.size P B s := ⟨heap_alloc_new w _⟩
/-- The cells of a question in its box. -/
structure QAt (w : World) (H : Nat) (q : Qn) : Prop where
  blk : w.heap[H]? = some (.cells #[.int .i64 q.p, .int .i64 q.f, .int .i64 q.t] 81 (0, 0))
theorem QAt.c0 {w : World} {H : Nat} {q : Qn} (h : QAt w H q) : w.cell? ⟨H, 0, none⟩ = some (.int .i64 q.p) := by rw [cell_of_row _ _ _ _ _ _ h.blk]; rfl
theorem QAt.c1 {w : World} {H : Nat} {q : Qn} (h : QAt w H q) : w.cell? ⟨H, 1, none⟩ = some (.int .i64 q.f) := by rw [cell_of_row _ _ _ _ _ _ h.blk]; rfl
theorem QAt.c2 {w : World} {H : Nat} {q : Qn} (h : QAt w H q) : w.cell? ⟨H, 2, none⟩ = some (.int .i64 q.t) := by rw [cell_of_row _ _ _ _ _ _ h.blk]; rfl
theorem QAt.lt {w : World} {H : Nat} {q : Qn} (h : QAt w H q) : H < w.heap.size := (Array.getElem?_eq_some_iff.1 h.blk).1
theorem QAt.below {w w' : World} {H n : Nat} {q : Qn} (h : QAt w H q) (hb : Below n w w') (hn : w.heap.size ≤ n) : QAt w' H q := ⟨(hb.block _ (Nat.lt_of_lt_of_le h.lt hn)).trans h.blk⟩
theorem QAt.new (w : World) (q : Qn) : QAt (w.alloc (.cells #[.int .i64 q.p, .int .i64 q.f, .int .i64 q.t] 81)) w.heap.size q := ⟨heap_alloc_new w _⟩
end Go.Proofs.Ytfinjdkcgmepfaa
/- Contracts of Reply, Ask, Bits, Flips, Failed of the cascades, for what is valid. Conditions: as each statement says. -/
namespace Go.Proofs.Ytfinjdkcgmepfaa
open Go.RowKit
set_option linter.unusedVariables false
theorem box3 {w : World} {H : Nat} {t : TypeId} {a b c : Value} (h : w.heap[H]? = some (.cells #[a, b, c] t (0, 0))) (x y z : Value) :
    (((w.setCell ⟨H, 0, none⟩ x).setCell ⟨H, 1, none⟩ y).setCell ⟨H, 2, none⟩ z).cell? ⟨H, 0, none⟩ = some x ∧ (((w.setCell ⟨H, 0, none⟩ x).setCell ⟨H, 1, none⟩ y).setCell ⟨H, 2, none⟩ z).cell? ⟨H, 1, none⟩ = some y ∧ (((w.setCell ⟨H, 0, none⟩ x).setCell ⟨H, 1, none⟩ y).setCell ⟨H, 2, none⟩ z).cell? ⟨H, 2, none⟩ = some z := by
  have h1 := blk_setR (o := 0) h x
  have h2 := blk_setR (o := 1) h1 y
  have h3 := blk_setR (o := 2) h2 z
  refine ⟨?_, ?_, ?_⟩ <;> (rw [cell_of_row _ _ _ _ _ _ h3]; rfl)
theorem boxq_cells (w : World) (q : Qn) (k : Nat) : (w.alloc (.cells #[.int .i64 q.p, .int .i64 q.f, .int .i64 q.t] 81)).cell? ⟨w.heap.size, k, none⟩ = (#[Value.int .i64 q.p, .int .i64 q.f, .int .i64 q.t] : Array Value)[k]? := by
  rw [cell_of_row _ _ _ _ _ _ (heap_alloc_new w _)]
end Go.Proofs.Ytfinjdkcgmepfaa
/- What the statements on cascades say of a course that a true string answers. Conditions: as each statement says. -/
namespace Go.Proofs.Ytfinjdkcgmepfaa
open Go.RowKit
set_option linter.unusedVariables false
theorem distL_between : ∀ {x z y : List Bool}, x.length = z.length → z.length = y.length → (∀ i, i < x.length → x.getD i false = y.getD i false → z.getD i false = y.getD i false) → distL x z + distL z y = distL x y
  | [], [], [], _, _, _ => rfl
  | [], [], _ :: _, _, h, _ => by simp at h
  | [], _ :: _, _, h, _, _ => by simp at h
  | _ :: _, [], _, h, _, _ => by simp at h
  | _ :: _, _ :: _, [], _, h, _ => by simp at h
  | a :: x, c :: z, b :: y, h1, h2, h => by
    have ih := distL_between (x := x) (z := z) (y := y) (by simpa using h1) (by simpa using h2) fun i hi he => by simpa using h (i + 1) (by simpa using hi) (by simpa using he)
    have h0 := h 0 (by simp)
    simp only [List.getD_cons_zero] at h0
    simp only [distL]
    cases a <;> cases b <;> cases c <;> simp at h0 ⊢ <;> omega
theorem goT_inv {n P B s : Nat} {x y : List Bool} {z : Nat × Mst} (hB : 1 ≤ B) (hn : n ≤ 512) (hx : x.length = n) (hy : y.length = n) (h : GoT (pl n P B s) (oT (pl n P B s) y) (1, st0 x) z) : InvT (pl n P B s) x y z.1 z.2 :=
  h.inv (I := fun z => InvT (pl n P B s) x y z.1 z.2) (fun z hz => hz.stepO hB hn hx hy z) (InvT.start (L := pl n P B s) hx)
/-- Each block of so many bits has at most one place where two strings differ. -/
def AtMostOne (B n : Nat) (x y : List Bool) : Prop := ∀ i j, i < n → j < n → x.getD i false ≠ y.getD i false → x.getD j false ≠ y.getD j false → i / B = j / B → i = j
theorem places0_mem {s n f t : Nat} {x : Int} (h : x ∈ placesL s n ⟨0, f, t⟩) : (f : Int) ≤ x ∧ x < (t : Int) := by
  unfold placesL orderL idL at h
  simp only [if_true] at h
  obtain ⟨j, hj, rfl⟩ := List.mem_iff_getElem.1 h
  simp at hj ⊢
  omega
theorem places0_one {s n i : Nat} (h : i < n) : placesL s n ⟨0, i, i + 1⟩ = [(i : Int)] := by
  rw [one_place rfl (show i + 1 ≤ n from h)]
  simp [orderL, idL, h]
theorem sparse_end {n P B s : Nat} {x y : List Bool} {S : Mst} (hP : 1 ≤ P) (hB : 1 ≤ B) (hB5 : B ≤ 512) (hn : n ≤ 512) (hx : x.length = n) (hy : y.length = n) (h : InvT (pl n P B s) x y 0 S) (ho : S.opn = false) (ha : AtMostOne B n x y) : S.b = y := by
  obtain ⟨_, _, he⟩ := h.ended (L := pl n P B s) hB hx hy ho
  have hbl : S.b.length = n := h.inv.bl
  refine distL_zero (by rw [hbl, hy]) fun i hi => ?_
  rw [hbl] at hi
  have hs0 : sizeP B 0 = B := by unfold sizeP; omega
  have hm : ∀ j, j < n → S.b.getD j false ≠ y.getD j false → x.getD j false ≠ y.getD j false := fun j hj hne hxy => hne (h.mid j hj hxy)
  by_cases hne : S.b.getD i false = y.getD i false
  · exact hne
  exfalso
  have hBp : 0 < B := hB
  have hkB : i / B * B ≤ i := Nat.div_mul_le_self i B
  have hkB2 : i < i / B * B + B := by have := Nat.lt_div_mul_add hBp (a := i); exact this
  obtain ⟨k, hk⟩ : ∃ k, k = i / B := ⟨_, rfl⟩
  rw [← hk] at hkB hkB2
  obtain ⟨t, ht⟩ : ∃ t, t = min (k * B + B) n := ⟨_, rfl⟩
  have hq : (⟨0, k * B, t⟩ : Qn) ∈ blocksTo (pl n P B s) P := by
    unfold blocksTo
    rw [List.mem_flatMap]
    refine ⟨0, List.mem_range.2 hP, ?_⟩
    show _ ∈ cutL B n 0
    unfold cutL cutK
    rw [hs0, List.mem_map]
    refine ⟨k, List.mem_range.2 ((cutN_lt (n := n) (size := B) (k := k) hB).1 (by omega)), by rw [ht]⟩
  have hev := he _ hq
  change parL S.b (placesL s n ⟨0, k * B, t⟩) = parL y (placesL s n ⟨0, k * B, t⟩) at hev
  rw [places_split (m := i) hkB (by omega), places_split (f := i) (m := i + 1) (by omega) (by omega), places0_one hi, parL_append, parL_append, parL_append, parL_append, parL_one, parL_one] at hev
  have part : ∀ f u : Nat, k * B ≤ f → u ≤ t → (∀ z : Nat, f ≤ z → z < u → z ≠ i) → parL S.b (placesL s n ⟨0, f, u⟩) = parL y (placesL s n ⟨0, f, u⟩) := by
    intro f u hf hu hz
    by_cases e : parL S.b (placesL s n ⟨0, f, u⟩) = parL y (placesL s n ⟨0, f, u⟩)
    · exact e
    exfalso
    obtain ⟨z, hzm, hzn⟩ := parL_ne e
    obtain ⟨z1, z2⟩ := places0_mem hzm
    have z3 : z.toNat < n := by omega
    have z4 : i / B = z.toNat / B := by
      rw [← hk]
      have : k ≤ z.toNat / B := (Nat.le_div_iff_mul_le hBp).2 (by omega)
      have : z.toNat / B < k + 1 := (Nat.div_lt_iff_lt_mul hBp).2 (by rw [Nat.add_mul, Nat.one_mul]; omega)
      omega
    exact hz z.toNat (by omega) (by omega) (ha i z.toNat hi z3 (hm i hi hne) (hm _ z3 hzn) z4).symm
  rw [part (k * B) i (Nat.le_refl _) (by omega) (fun z _ h => by omega), part (i + 1) t (by omega) (Nat.le_refl _) (fun z h _ => by omega)] at hev
  simp only [Int.toNat_natCast] at hev
  revert hev hne
  cases S.b.getD i false <;> cases y.getD i false <;> cases parL y (placesL s n ⟨0, k * B, i⟩) <;> cases parL y (placesL s n ⟨0, i + 1, t⟩) <;> simp
theorem stepO_pre (L : Lay) (o : Mst → Option Bool) (z : Nat × Mst) : z.2.told <+: (stepO L o z).2.told := by
  unfold stepO
  split
  · rw [stepS_told]; exact List.prefix_refl _
  · split
    · split
      · exact List.prefix_append _ _
      · exact List.prefix_refl _
    · exact List.prefix_refl _
theorem itO_pre (L : Lay) (o : Mst → Option Bool) : ∀ (k : Nat) (z : Nat × Mst), z.2.told <+: (itO L o k z).2.told
  | 0, z => List.prefix_refl _
  | k + 1, z => (stepO_pre L o z).trans (itO_pre L o k _)
theorem GoT.pre {L : Lay} {o : Mst → Option Bool} {x z : Nat × Mst} (h : GoT L o x z) : x.2.told <+: z.2.told := by
  obtain ⟨k, rfl⟩ := h; exact itO_pre L o k x
theorem GoT.upto {L : Lay} {o : Mst → Option Bool} {x y z : Nat × Mst} (h : GoT L o x y) (k : GoT L o x z) (hz : Fin o z) : GoT L o y z := by
  obtain ⟨a, rfl⟩ := h
  obtain ⟨b, rfl⟩ := k
  by_cases hab : a ≤ b
  · obtain ⟨c, rfl⟩ : ∃ c, b = a + c := ⟨b - a, by omega⟩
    exact ⟨c, by rw [itO_add]⟩
  · obtain ⟨c, rfl⟩ : ∃ c, a = b + c := ⟨a - b, by omega⟩
    rw [itO_add, hz.stay]
    exact ⟨0, rfl⟩
theorem blind {L : Lay} {y w : List Bool} : ∀ (k : Nat) (z : Nat × Mst), (∀ a ∈ (itO L (oT L y) k z).2.told, a.2 = parL w (placesL L.s L.n a.1)) → itO L (oT L w) k z = itO L (oT L y) k z
  | 0, z, _ => rfl
  | k + 1, z, h => by
    have e : stepO L (oT L w) z = stepO L (oT L y) z := by
      have hp := itO_pre L (oT L y) k (stepO L (oT L y) z)
      change ∀ a ∈ (itO L (oT L y) k (stepO L (oT L y) z)).2.told, _ at h
      revert hp h
      generalize itO L (oT L y) k (stepO L (oT L y) z) = f
      unfold stepO
      split
      · intro _ _; rfl
      · split
        · simp only [oT]
          intro hp h
          have := h (z.2.next, parL y (placesL L.s L.n z.2.next)) (hp.subset (by simp [advS0, tellS]))
          simp only at this
          rw [this]
        · intro _ _; rfl
    show itO L (oT L w) k (stepO L (oT L w) z) = itO L (oT L y) k (stepO L (oT L y) z)
    rw [e]
    exact blind k _ h
theorem blind_go {L : Lay} {y w : List Bool} {x z : Nat × Mst} (h : GoT L (oT L y) x z) (ha : ∀ a ∈ z.2.told, a.2 = parL w (placesL L.s L.n a.1)) : GoT L (oT L w) x z := by
  obtain ⟨k, rfl⟩ := h
  exact ⟨k, blind k x ha⟩
end Go.Proofs.Ytfinjdkcgmepfaa
/- Contracts of Answers and of strings in the forms that the statements use; answers in memory. Conditions: as each statement says. -/
namespace Go.Proofs.Ytfinjdkcgmepfaa
open Go.RowKit
set_option linter.unusedVariables false
theorem aCells_at : ∀ (l : List (Qn × Bool)) (i : Nat) (h : i < l.length), (aCells l)[i * 4]? = some (.int .i64 (l[i]).1.p) ∧ (aCells l)[i * 4 + 1]? = some (.int .i64 (l[i]).1.f) ∧ (aCells l)[i * 4 + 2]? = some (.int .i64 (l[i]).1.t) ∧ (aCells l)[i * 4 + 3]? = some (.bool (l[i]).2)
  | [], _, h => by simp at h
  | a :: l, 0, _ => by simp [aCells]
  | a :: l, i + 1, h => by
    have := aCells_at l i (by simpa using h)
    simp only [aCells, List.getElem_cons_succ, show (i + 1) * 4 = i * 4 + 1 + 1 + 1 + 1 by omega, show i * 4 + 1 + 1 + 1 + 1 + 1 = i * 4 + 1 + 1 + 1 + 1 + 1 by omega, List.getElem?_cons_succ]
    exact this
theorem Rd.past {w w' : World} {sz n : Nat} {A : Option Addr} {xs : List Value} (h : Rd w w.heap.size sz A n xs) (hb : Below w.heap.size w w') : Rd w' w'.heap.size sz A n xs := (h.below hb).mono hb.size
theorem PlanAt.past {w w' : World} {H P B s : Nat} (h : PlanAt w H P B s) (hb : Below w.heap.size w w') : PlanAt w' H P B s := h.below hb (Nat.le_refl _)
theorem bnext {w0 w w' : World} (h : Below w0.heap.size w0 w) (hb : Below w.heap.size w w') : Below w0.heap.size w0 w' := h.trans (hb.mono h.size)
end Go.Proofs.Ytfinjdkcgmepfaa
