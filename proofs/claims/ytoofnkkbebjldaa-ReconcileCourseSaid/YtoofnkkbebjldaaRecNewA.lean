/- The contract of New of the cascades. Conditions: as each statement says. -/
import Derived.Test.YtoofnkkbebjldaaRecSearch
import Derived.Carry
import Derived.Test.YtoofnkkbebjldaaPerm2
import Derived.Test.YtoofnkkbebjldaaOpen
import Derived.Test.YtoofnkkbebjldaaBits2
namespace Go.Proofs.Ytoofnkkbebjldaa
open Go.RowKit
set_option linter.unusedVariables false
set_option maxRecDepth 100000 in
theorem Clone_bool (A : Option Addr) (n c : Nat) (l : List Bool) (w : World) (hn : n ≤ 1073741824) (h : Rd w w.heap.size 1 A n (l.map (Value.bool))) :
    Calls Try.prog 55 #[.slice A n c] w fun e w' => ∃ A' c', e = .returned (.slice A' n c') ∧ n ≤ c' ∧ w'.ownsRow w.heap.size 4 1 (.slice A' n c') n (l.map (Value.bool)) ∧ Below w.heap.size w w' := by
  have H := Lib.hid h; clear h
  obtain ⟨i0, hi0, hz0, hz1, hz2⟩ := info_parts info_bool
  have HI0 := Lib.hid hi0; have HZ0 := Lib.hid hz0; have HZ1 := Lib.hid hz1; have HZ2 := Lib.hid hz2
  clear hi0 hz0 hz1 hz2
  have q : ∀ (w : World) (a : Option Addr) (n c n' c' : Nat), (binOp .eql 25 (.slice a n c) (.slice none n' c')).run Try.prog w = .ok (.bool a.isNone) w := fun w a n c n' c' => Lib.run_eql_slice_nil w _ _ a n c n' c' Try.underlying25
  cases A with
  | none =>
    have hn0 : n = 0 := by
      rcases Nat.eq_zero_or_pos n with h | h
      · exact h
      · obtain ⟨_, _, h1, _⟩ := H.out.2 h; cases h1
    subst hn0
    have hl : l = [] := by have := H.out.1; simpa using this
    subst hl
    clear H
    go_enter Try.func55, Try.ntmps55
    go_wp2_with fail
    go_ret
    exact ⟨none, 0, rfl, Nat.le_refl _, World.ownsRow_nil _ _ _ _, Below.refl _ _⟩
  | some a =>
    go_enter Try.func55, Try.ntmps55
    go_wp2_with (at_builtin; refine wpList_append_rd _ rfl (.tmp 5) (.tmp 6) _ rfl w.heap.size 4 i0 _ 1 1 Try.underlying25 HI0.out HZ0.out HZ1.out HZ2.out rfl (by decide) _ 0 [] rfl (World.ownsRow_made w #[] 0 (Nat.le_refl _) (by simp [maxLen]) (by simp)) _ (some a) n c _ rfl (H.out.alloc (Nat.le_refl _) _) (by intro u hu; obtain ⟨_, _, rfl⟩ := List.mem_map.1 hu; rfl) (by unfold maxLen; omega) (by omega) (by simp) ?_; intro v1 w1 hown1 hg1)
    rw [Nat.zero_add, List.nil_append] at hown1
    obtain ⟨A', c', rfl, hc⟩ := own_form hown1
    go_ret
    exact ⟨A', c', rfl, hc, hown1, (((Below.refl _ _).alloc (Nat.le_refl _) _).grown hg1 (by simp) (fun g hg => by cases hg; exact Nat.le_refl _))⟩
/-- A machine that is being made: k passes have their orders and blocks. -/
structure NAt (w : World) (base p km n P B s k j : Nat) (Ab : Option Addr) (cbt : Nat) (b : List Bool) (vo vb : Value) (os bs : List (Option Addr × Nat)) : Prop where
  cells : w.heap[p]? = some (.cells #[.bool true, .int .i64 P, .int .i64 B, .int .u64 s, vo, vb, .slice Ab n cbt, .map (some km), .slice none 0 0, .int .i64 0, .bool false, .int .i64 0, .int .i64 0, .bool false, .int .i64 0, .int .i64 0, .int .i64 0, .bool false, .int .i64 0, .int .i64 0, .int .i64 0, .bool false] 79 (0, 0))
  bits : w.ownsRow base 4 1 (.slice Ab n cbt) n (b.map Value.bool)
  known : KnAt w km []
  kmb : base ≤ km
  pb : base ≤ p
  nc : n ≤ cbt
  ol : os.length = k
  bl : bs.length = j
  ord : w.ownsRow base 53 1 vo k (os.map fun a => .slice a.1 n a.2)
  blk : w.ownsRow base 48 1 vb j (bs.mapIdx fun i a => .slice a.1 (cutL B n i).length a.2)
  ordr : ∀ i A c, os[i]? = some (A, c) → n ≤ c ∧ w.ownsRow base 3 1 (.slice A n c) n ((orderL s n i).map (Value.int .i64))
  blkr : ∀ i A c, bs[i]? = some (A, c) → (cutL B n i).length ≤ c ∧ w.ownsRow base 44 3 (.slice A (cutL B n i).length c) (cutL B n i).length (qCells (cutL B n i))
theorem NAt.below {w w' : World} {base p km n P B s k j : Nat} {Ab : Option Addr} {cbt : Nat} {b : List Bool} {vo vb : Value} {os bs : List (Option Addr × Nat)} (h : NAt w base p km n P B s k j Ab cbt b vo vb os bs) (hb : Below w.heap.size w w') : NAt w' base p km n P B s k j Ab cbt b vo vb os bs :=
  { h with
    cells := (hb.block _ (Array.getElem?_eq_some_iff.1 h.cells).1).trans h.cells
    bits := ownsRow_below h.bits hb (Nat.le_refl _)
    known := h.known.keep (hb.block _ h.known.lt)
    ord := ownsRow_below h.ord hb (Nat.le_refl _)
    blk := ownsRow_below h.blk hb (Nat.le_refl _)
    ordr := fun i A c hi => ⟨(h.ordr i A c hi).1, ownsRow_below (h.ordr i A c hi).2 hb (Nat.le_refl _)⟩
    blkr := fun i A c hi => ⟨(h.blkr i A c hi).1, ownsRow_below (h.blkr i A c hi).2 hb (Nat.le_refl _)⟩ }
theorem bcells_n {w w' : World} (h : Below w.heap.size w w') {b o : Nat} {v : Value} (hc : w.cell? ⟨b, o, none⟩ = some v) : w'.cell? ⟨b, o, none⟩ = some v := by
  refine (h.cell (p := ⟨b, o, none⟩) ?_).trans hc
  unfold World.cell? at hc
  split at hc
  · rename_i cc t fz hb; exact (Array.getElem?_eq_some_iff.1 hb).1
  · cases hc
/-- The machine as it is laid. -/
def NewA (w1 : World) (base n P B s : Nat) (b : List Bool) (v7 : Value) (wx : World) : Prop :=
  ∃ (p km cbt : Nat) (Ab : Option Addr), v7 = .pointer (some ⟨p, 0, none⟩) ∧ NAt wx base p km n P B s 0 0 Ab cbt b (.slice none 0 0) (.slice none 0 0) [] [] ∧ Below w1.heap.size w1 wx
abbrev nCells (P B s n : Nat) (Ab : Option Addr) (cbt km : Nat) : Array Value := #[.bool true, .int .i64 P, .int .i64 B, .int .u64 s, .slice none 0 0, .slice none 0 0, .slice Ab n cbt, .map (some km), .slice none 0 0, .int .i64 0, .bool false, .int .i64 0, .int .i64 0, .bool false, .int .i64 0, .int .i64 0, .int .i64 0, .bool false, .int .i64 0, .int .i64 0, .int .i64 0, .bool false]
theorem NewA_one {w1 wd wc : World} {base n P B s cbt : Nat} {Ab : Option Addr} {b : List Bool} (hd : Below w1.heap.size w1 wd) (hb : base ≤ w1.heap.size) (hc : n ≤ cbt) (ho : wc.ownsRow wd.heap.size 4 1 (.slice Ab n cbt) n (b.map Value.bool)) (hw : Below wd.heap.size wd wc) :
    NewA w1 base n P B s b (.pointer (some ⟨wc.heap.size + 1, 0, none⟩)) ((wc.alloc (.map #[] 0)).alloc (.cells (nCells P B s n Ab cbt wc.heap.size) 79)) := by
  have hsd := hd.size
  have hsz := hw.size
  have e1 : (wc.alloc (.map #[] 0)).heap.size = wc.heap.size + 1 := by simp
  have b1 : Below wc.heap.size wc (wc.alloc (.map #[] 0)) := (Below.refl _ _).alloc (Nat.le_refl _) _
  have b2 : Below (wc.alloc (.map #[] 0)).heap.size (wc.alloc (.map #[] 0)) ((wc.alloc (.map #[] 0)).alloc (.cells (nCells P B s n Ab cbt wc.heap.size) 79)) := (Below.refl _ _).alloc (Nat.le_refl _) _
  have b3 := b1.trans (b2.mono (by omega))
  refine ⟨wc.heap.size + 1, wc.heap.size, cbt, Ab, rfl, ⟨?_, ownsRow_below (ownsRow_mono ho (by omega)) b3 (Nat.le_refl _), ?_, by omega, by omega, hc, rfl, rfl, World.ownsRow_nil _ _ _ _, World.ownsRow_nil _ _ _ _, by simp, by simp⟩, hd.trans ((hw.mono hsd).trans (b3.mono (by omega)))⟩
  · rw [← e1]; exact heap_alloc_new _ _
  · exact (KnAt.made wc).keep (b2.block _ (by omega))
theorem NewA_two {w1 wd wc : World} {base n P B s cbt : Nat} {Ab : Option Addr} {b : List Bool} (hd : Below (w1.alloc (.map #[] 0)).heap.size (w1.alloc (.map #[] 0)) wd) (hb : base ≤ w1.heap.size) (hc : n ≤ cbt) (ho : wc.ownsRow wd.heap.size 4 1 (.slice Ab n cbt) n (b.map Value.bool)) (hw : Below wd.heap.size wd wc) :
    NewA w1 base n P B s b (.pointer (some ⟨wc.heap.size, 0, none⟩)) (wc.alloc (.cells (nCells P B s n Ab cbt w1.heap.size) 79)) := by
  have hsd := hd.size
  have hsz := hw.size
  have e1 : (w1.alloc (.map #[] 0)).heap.size = w1.heap.size + 1 := by simp
  have b1 : Below w1.heap.size w1 (w1.alloc (.map #[] 0)) := (Below.refl _ _).alloc (Nat.le_refl _) _
  have b2 : Below wc.heap.size wc (wc.alloc (.cells (nCells P B s n Ab cbt w1.heap.size) 79)) := (Below.refl _ _).alloc (Nat.le_refl _) _
  refine ⟨wc.heap.size, w1.heap.size, cbt, Ab, rfl, ⟨heap_alloc_new _ _, ownsRow_below (ownsRow_mono ho (by omega)) b2 (Nat.le_refl _), ?_, by omega, by omega, hc, rfl, rfl, World.ownsRow_nil _ _ _ _, World.ownsRow_nil _ _ _ _, by simp, by simp⟩, b1.trans ((hd.mono (by omega)).trans ((hw.mono (by omega)).trans (b2.mono (by omega))))⟩
  exact (((KnAt.made w1).keep (hd.block _ (by omega))).keep (hw.block _ (by omega))).keep (b2.block _ (by omega))
def st0 (b : List Bool) : Mst := ⟨b, [], 0, false, 0, 0, false, ⟨0, 0, 0⟩, false, ⟨0, 0, 0⟩, false⟩
/-- What New hands back. -/
def NewP (n P B s : Nat) (b : List Bool) (w : World) (e : Ending) (w' : World) : Prop :=
  ∃ (L : Lay) (vt : Value), e = .returned (.tuple #[ptrV L, .int .i64 0]) ∧ L.n = n ∧ L.P = P ∧ L.B = B ∧ L.s = s ∧ w.heap.size < L.base ∧ MAt w' L vt (advS L (st0 b)) ∧ Below w.heap.size w w'
end Go.Proofs.Ytoofnkkbebjldaa
/- The memory of New of the cascades. Conditions: as each statement says. -/
namespace Go.Proofs.Ytoofnkkbebjldaa
open Go.RowKit
set_option linter.unusedVariables false
theorem info_ints : (Try.prog.info? 53).map (fun i => (i.zero, i.size, i.bytes)) = some (some (.slice none 0 0), 1, 24) := by kernel_rfl
theorem elB_ints : ElemB Try.prog 71 53 1 24 := ElemB.of Try.underlying71 info_ints rfl (by decide)
theorem info_qs : (Try.prog.info? 48).map (fun i => (i.zero, i.size, i.bytes)) = some (some (.slice none 0 0), 1, 24) := by kernel_rfl
theorem elB_qs : ElemB Try.prog 76 48 1 24 := ElemB.of Try.underlying76 info_qs rfl (by decide)
/-- A row of another type stays where a row grows and a cell of the machine is set. -/
theorem row_keep {w9 w8 : World} {B B' t te sz sz' n n' p o : Nat} {v vo u : Value} {xs ys : List Value} {cs : Array Value} (h : w9.ownsRow B t sz v n xs) (hg : w9.grownBy w8 vo.ownBlock) (ho : w9.ownsRow B' te sz' vo n' ys) (hp : w8.heap[p]? = some (.cells cs 79 (0, 0))) (h1 : t ≠ te) (h2 : t ≠ 79) :
    (w8.setCell ⟨p, o, none⟩ u).ownsRow B t sz v n xs := by
  have h8 := ownsRow_grown h hg (fun k hk e => type_ne2 h hk ho e.symm h1)
  exact ownsRow_setCell_other h8 (a := ⟨p, o, none⟩) (fun e => type_ne h8 e hp h2) u
theorem NAt.p_ne {w : World} {base p km n P B s k j : Nat} {Ab : Option Addr} {cbt : Nat} {b : List Bool} {vo vb : Value} {os bs : List (Option Addr × Nat)} (h : NAt w base p km n P B s k j Ab cbt b vo vb os bs) : km ≠ p := fun e => map_ne_row (by rw [e]; exact h.cells) h.known
theorem NAt.pushO {w w9 w8 : World} {base p km n P B s k j c : Nat} {A Ab : Option Addr} {cbt : Nat} {b : List Bool} {vo vb v8 : Value} {os bs : List (Option Addr × Nat)} (h : NAt w base p km n P B s k j Ab cbt b vo vb os bs) (hbw : base ≤ w.heap.size) (hb : Below w.heap.size w w9) (hc : n ≤ c) (ho : w9.ownsRow w.heap.size 3 1 (.slice A n c) n ((orderL s n k).map (Value.int .i64)))
    (hown : w8.ownsRow base 53 1 v8 (k + 1) ((os.map fun a => Value.slice a.1 n a.2) ++ [.slice A n c])) (hg : w9.grownBy w8 vo.ownBlock) : NAt (w8.setCell ⟨p, 4, none⟩ v8) base p km n P B s (k + 1) j Ab cbt b v8 vb (os ++ [(A, c)]) bs := by
  have h9 := h.below hb
  have hp8 := (hg.block p (Array.getElem?_eq_some_iff.1 h9.cells).1 (fun e => type_ne h9.ord e.symm h9.cells (by decide))).trans h9.cells
  have hkp := h.p_ne
  refine ⟨?_, row_keep h9.bits hg h9.ord hp8 (by decide) (by decide), (h9.known.keep (hg.block km h9.known.lt (fun e => map_ne h9.ord e.symm h9.known))).keep (Below.heap_setCell _ _ _ _ hkp), h.kmb, h.pb, h.nc, by simp [h.ol], h.bl, ?_, row_keep h9.blk hg h9.ord hp8 (by decide) (by decide), ?_, ?_⟩
  · have := blk_setR hp8 (o := 4) v8
    rw [this]; rfl
  · rw [List.map_append]
    exact ownsRow_setCell_other hown (a := ⟨p, 4, none⟩) (fun e => type_ne hown e hp8 (by decide)) v8
  · intro i A' c' hi
    by_cases hik : i < os.length
    · rw [List.getElem?_append_left hik] at hi
      exact ⟨(h9.ordr i A' c' hi).1, row_keep (h9.ordr i A' c' hi).2 hg h9.ord hp8 (by decide) (by decide)⟩
    · rw [List.getElem?_append_right (by omega)] at hi
      obtain ⟨hl, hv⟩ := List.getElem?_eq_some_iff.1 hi
      simp only [List.length_singleton] at hl
      have hie : i = k := by have := h.ol; omega
      subst hie
      have h0 : i - os.length = 0 := by omega
      simp only [h0, List.getElem_singleton, Prod.mk.injEq] at hv
      obtain ⟨rfl, rfl⟩ := hv
      exact ⟨hc, row_keep (ownsRow_mono ho hbw) hg h9.ord hp8 (by decide) (by decide)⟩
  · intro i A' c' hi
    exact ⟨(h9.blkr i A' c' hi).1, row_keep (h9.blkr i A' c' hi).2 hg h9.ord hp8 (by decide) (by decide)⟩
theorem NAt.pushB {w w9 w8 : World} {base p km n P B s k j c : Nat} {A Ab : Option Addr} {cbt : Nat} {b : List Bool} {vo vb v8 : Value} {os bs : List (Option Addr × Nat)} (h : NAt w base p km n P B s k j Ab cbt b vo vb os bs) (hbw : base ≤ w.heap.size) (hb : Below w.heap.size w w9) (hc : (cutL B n j).length ≤ c) (ho : w9.ownsRow w.heap.size 44 3 (.slice A (cutL B n j).length c) (cutL B n j).length (qCells (cutL B n j)))
    (hown : w8.ownsRow base 48 1 v8 (j + 1) ((bs.mapIdx fun i a => Value.slice a.1 (cutL B n i).length a.2) ++ [.slice A (cutL B n j).length c])) (hg : w9.grownBy w8 vb.ownBlock) : NAt (w8.setCell ⟨p, 5, none⟩ v8) base p km n P B s k (j + 1) Ab cbt b vo v8 os (bs ++ [(A, c)]) := by
  have h9 := h.below hb
  have hp8 := (hg.block p (Array.getElem?_eq_some_iff.1 h9.cells).1 (fun e => type_ne h9.blk e.symm h9.cells (by decide))).trans h9.cells
  have hkp := h.p_ne
  refine ⟨?_, row_keep h9.bits hg h9.blk hp8 (by decide) (by decide), (h9.known.keep (hg.block km h9.known.lt (fun e => map_ne h9.blk e.symm h9.known))).keep (Below.heap_setCell _ _ _ _ hkp), h.kmb, h.pb, h.nc, h.ol, by simp [h.bl], row_keep h9.ord hg h9.blk hp8 (by decide) (by decide), ?_, ?_, ?_⟩
  · have := blk_setR hp8 (o := 5) v8
    rw [this]; rfl
  · rw [List.mapIdx_append]
    have e : (List.mapIdx (fun i (a : Option Addr × Nat) => Value.slice a.1 (cutL B n (i + bs.length)).length a.2) [(A, c)]) = [.slice A (cutL B n j).length c] := by simp [h.bl]
    rw [e]
    exact ownsRow_setCell_other hown (a := ⟨p, 5, none⟩) (fun e => type_ne hown e hp8 (by decide)) v8
  · intro i A' c' hi
    exact ⟨(h9.ordr i A' c' hi).1, row_keep (h9.ordr i A' c' hi).2 hg h9.blk hp8 (by decide) (by decide)⟩
  · intro i A' c' hi
    by_cases hik : i < bs.length
    · rw [List.getElem?_append_left hik] at hi
      exact ⟨(h9.blkr i A' c' hi).1, row_keep (h9.blkr i A' c' hi).2 hg h9.blk hp8 (by decide) (by decide)⟩
    · rw [List.getElem?_append_right (by omega)] at hi
      obtain ⟨hl, hv⟩ := List.getElem?_eq_some_iff.1 hi
      simp only [List.length_singleton] at hl
      have hie : i = j := by have := h.bl; omega
      subst hie
      have h0 : i - bs.length = 0 := by omega
      simp only [h0, List.getElem_singleton, Prod.mk.injEq] at hv
      obtain ⟨rfl, rfl⟩ := hv
      exact ⟨hc, row_keep (ownsRow_mono ho hbw) hg h9.blk hp8 (by decide) (by decide)⟩
/-- A machine all of whose passes are laid. -/
theorem NAt.done {w : World} {base p km n P B s : Nat} {Ab : Option Addr} {cbt : Nat} {b : List Bool} {vo vb : Value} {os bs : List (Option Addr × Nat)} (h : NAt w base p km n P B s P P Ab cbt b vo vb os bs) (hP : 1 ≤ P) (hP6 : P ≤ 6) (hB : 1 ≤ B) (hB5 : B ≤ 512) (hs : s < two64) (hn : n ≤ 512) :
    ∃ L : Lay, L.p = p ∧ L.base = base ∧ L.n = n ∧ L.P = P ∧ L.B = B ∧ L.s = s ∧ MAt w L (.slice none 0 0) (st0 b) ∧ WFm L (st0 b) := by
  obtain ⟨go, co, rfl⟩ := own_head h.ord (by omega)
  obtain ⟨gb, cb, rfl⟩ := own_head h.blk (by omega)
  obtain ⟨_, _, e1, hco⟩ := own_form h.ord
  obtain ⟨_, _, e2, hcb⟩ := own_form h.blk
  cases e1; cases e2
  refine ⟨⟨base, p, km, n, P, B, s, go, co, gb, cb, Ab, cbt, os, bs⟩, rfl, rfl, rfl, rfl, rfl, rfl, ⟨h.cells, World.ownsRow_nil _ _ _ _, h.bits, h.known, h.kmb, h.pb, ⟨⟨hP, hP6⟩, ⟨hB, hB5⟩, hn, hs, ⟨hco, hcb, h.nc⟩, h.ol, h.bl, h.ord, h.blk, h.ordr, h.blkr⟩⟩, ⟨Nat.zero_le _, Nat.zero_le _, Nat.zero_le _, fun e => by cases e⟩⟩
theorem cut_any2 (P : Int) (B s n p : Nat) (w : World) (hB : 1 ≤ B) (hB2 : B ≤ 512) (hn : n ≤ 512) (hp : p ≤ 6) :
    Calls Try.prog 48 #[casV P B s, .int .i64 n, .int .i64 p] w (RetOwn w 44 3 (cutL B n p).length (qCells (cutL B n p)) id) := by
  have h := cut_any P B s n p w hB hB2 hn hp
  rwa [show cutN n (sizeP B p) = (cutL B n p).length by rw [cutL, cutK_len]] at h
/-- k orders and j lists of blocks are laid. -/
def NL (w1 : World) (p n P B s : Nat) (b : List Bool) (k j : Nat) (wx : World) : Prop :=
  ∃ (km cbt : Nat) (Ab : Option Addr) (vo vb : Value) (os bs : List (Option Addr × Nat)), NAt wx w1.heap.size p km n P B s k j Ab cbt b vo vb os bs
theorem MTurn.old {w w' : World} {L : Lay} {vt : Value} {S : Mst} {B : Nat} (hT : MTurn L vt w w') (hm : MAt w L vt S) (hB : B ≤ L.base) : Below B w w' := by
  refine ⟨hT.os, hT.tape, hT.output, hT.size, fun k hk => hT.block k (by have := hm.lt; have := hm.pb; omega) (by have := hm.pb; omega) (by have := hm.kmb; omega) ?_ ?_⟩
  · intro e
    rcases hm.bits.2 with ⟨h1, _⟩ | ⟨g, cap, cur, h1, hg, _⟩
    · injection h1 with h1; rw [e] at h1; cases h1
    · injection h1 with h1; rw [e] at h1; injection h1 with h1; injection h1 with h1; omega
  · intro e
    rcases hm.told.2 with ⟨h1, _⟩ | ⟨g, cap, cur, h1, hg, _⟩
    · rw [h1] at e; cases e
    · rw [h1] at e; simp only [Value.ownBlock, Option.some.injEq] at e; omega
end Go.Proofs.Ytoofnkkbebjldaa
/- New of the cascades. Conditions: as each statement says. -/
namespace Go.Proofs.Ytoofnkkbebjldaa
open Go.RowKit
set_option linter.unusedVariables false
set_option maxRecDepth 100000 in
set_option maxHeartbeats 4000000 in
theorem New_ok (A : Option Addr) (n c P B s : Nat) (b : List Bool) (w : World) (hP : 1 ≤ P) (hP6 : P ≤ 6) (hB : 1 ≤ B) (hB5 : B ≤ 512) (hs : s < two64) (hn : n ≤ 512) (h : Rd w w.heap.size 1 A n (b.map Value.bool)) :
    Calls Try.prog 33 #[casV P B s, .slice A n c] w (NewP n P B s b w) := by
  have hsn : saneE P B n = 0 := saneE_ok.2 ⟨by omega, by omega, by omega, by omega, by omega, by omega⟩
  obtain ⟨w0, hw0⟩ : ∃ w0, w0 = w.alloc (.cells (casC P B s) 24) := ⟨_, rfl⟩
  have Bw0 : Below w.heap.size w w0 := by rw [hw0]; exact (Below.refl _ _).alloc (Nat.le_refl _) _
  have hbk0 : w0.heap[w.heap.size]? = some (.cells (casC P B s) 24 (0, 0)) := by rw [hw0]; exact heap_alloc_new w _
  have hs0 : w0.heap.size = w.heap.size + 1 := by rw [hw0]; simp
  have R0 := Lib.hid ((h.below Bw0).mono (by omega) : Rd w0 w0.heap.size 1 A n (b.map Value.bool))
  have HW0 := Lib.hid hw0; have HSN := Lib.hid hsn
  clear h hw0 hsn
  go_enter Try.func33, Try.ntmps33
  go_wp2_with fail
  rw [← HW0.out]
  clear HW0
  refine (sane_any _ _ s _ _).mono ?_
  rintro e w1 ⟨rfl, hb1⟩
  rw [HSN.out]
  have hs1 := hb1.size
  have hbk1 := (hb1.block w.heap.size (by omega)).trans hbk0
  have R1 := Lib.hid ((R0.out.below hb1).mono hs1)
  have B1 : Below w.heap.size w w1 := Bw0.trans (hb1.mono (by omega))
  have x0 : w1.cell? ⟨w.heap.size, 0, none⟩ = some (.int .i64 P) := by rw [cell_of_row _ _ _ _ _ _ hbk1]; rfl
  have x1 : w1.cell? ⟨w.heap.size, 1, none⟩ = some (.int .i64 B) := by rw [cell_of_row _ _ _ _ _ _ hbk1]; rfl
  have x2 : w1.cell? ⟨w.heap.size, 2, none⟩ = some (.int .u64 s) := by rw [cell_of_row _ _ _ _ _ _ hbk1]; rfl
  have HBK1 := Lib.hid hbk1
  have hmm := @run_makeMap Try.prog
  have hlt1 : w.heap.size < w1.heap.size := by omega
  clear hbk0 hbk1 hb1 R0 HSN Bw0 hs0 hs1
  go_wp2_with fail
  go_cut [7] (fun s7 wx => NewA w1 w1.heap.size n P B s b s7 wx)
  case first =>
    refine wp_region_held_drew (S := fun w' => Below w1.heap.size w1 w') (by kernel_rfl) ?_ (fun hHeld => ?_)
    · (try dsimp only); first | exact Below.refl _ _ | exact (Qw.refl w1).drew.below _ | exact hHeld.alloc hHeld.size _ | exact hHeld.trans (hbc.mono hHeld.size)
    refine wpAnyH_take (i := 0) (oi := ⟨some 16, _, _, _, _, _⟩) (v := .agg #[.int .i64 P, .int .i64 B, .int .u64 s]) rfl (by kernel_rfl) (by kernel_rfl) (by kernel_rfl) (fun _ _ _ h => h) (Or.inl ⟨by rfl, ?_⟩) (by assumption) ?_
    · (intro w hSw; (try dsimp only at hSw); have h0 := bcells_n hSw x0; have h1 := bcells_n hSw x1; have h2 := bcells_n hSw x2; go_simp)
    try simp only [Act.put, List.setIfInBounds_toArray, List.set_cons_zero, List.set_cons_succ]
    refine wpAnyH_take (i := 1) (oi := ⟨some 17, _, _, _, _, _⟩) (v := ?_) rfl (by kernel_rfl) (by kernel_rfl) (by kernel_rfl) (fun _ _ _ h => h) (Or.inl ⟨by rfl, ?_⟩) (by assumption) ?_
    rotate_left
    · (intro w hSw; (try dsimp only at hSw); go_simp; try with_reducible rfl)
    try simp only [Act.put, List.setIfInBounds_toArray, List.set_cons_zero, List.set_cons_succ]
    refine wpAnyH_ready (rs := [2, 3]) (by kernel_rfl) (by simp) ?_
    refine AllReadyH.cons (o := ⟨some 18, _, _, _, _, _⟩) rfl (fun K hK => ?_) ?_
    · skip
      go_simp
      refine (Clone_bool _ _ _ b _ (by omega) ((R1.out.below hHeld).mono hHeld.size)).mono ?_
      rintro e wc ⟨Ab, cbt, rfl, hcb, hob, hbc⟩
      go_wp2_with fail
      refine hK.out _ _ ?_ (fun hHeld => ?_)
      · (try dsimp only); first | exact Below.refl _ _ | exact (Qw.refl w1).drew.below _ | exact hHeld.alloc hHeld.size _ | exact hHeld.trans (hbc.mono hHeld.size)
      clear hK K
      try simp only [Act.put, List.setIfInBounds_toArray, List.set_cons_zero, List.set_cons_succ]
      refine wpAnyH_ready (rs := [3]) (by kernel_rfl) (by simp) ?_
      refine AllReadyH.cons (o := ⟨some 19, _, _, _, _, _⟩) rfl (fun K hK => ?_) AllReadyH.nil
      go_simp
      refine hK.out _ _ ?_ (fun hHeld => ?_)
      · (try dsimp only); first | exact Below.refl _ _ | exact (Qw.refl w1).drew.below _ | exact hHeld.alloc hHeld.size _ | exact hHeld.trans (hbc.mono hHeld.size)
      clear hK K
      try simp only [Act.put, List.setIfInBounds_toArray, List.set_cons_zero, List.set_cons_succ]
      refine wpAnyH_take (i := 4) (oi := ⟨some 20, _, _, _, _, _⟩) (v := ?_) rfl (by kernel_rfl) (by kernel_rfl) (by kernel_rfl) (fun _ _ _ h => h) (Or.inl ⟨by rfl, ?_⟩) (by assumption) ?_
      rotate_left
      · (intro w hSw; (try dsimp only at hSw); go_simp; try with_reducible rfl)
      try simp only [Act.put, List.setIfInBounds_toArray, List.set_cons_zero, List.set_cons_succ]
      refine wpAnyH_ready (rs := [5]) (by kernel_rfl) (by simp) ?_
      refine AllReadyH.cons (o := ⟨some 21, _, _, _, _, _⟩) rfl (fun K hK => ?_) AllReadyH.nil
      go_simp
      refine hK.out _ _ ?_ (fun hHeld => ?_)
      · (try dsimp only); first | exact Below.refl _ _ | exact (Qw.refl w1).drew.below _ | exact hHeld.alloc hHeld.size _ | exact hHeld.trans (hbc.mono hHeld.size)
      clear hK K
      try simp only [Act.put, List.setIfInBounds_toArray, List.set_cons_zero, List.set_cons_succ]
      refine wpAnyH_take (i := 6) (oi := ⟨some 7, _, _, _, _, _⟩) (v := ?_) rfl (by kernel_rfl) (by kernel_rfl) (by kernel_rfl) (fun _ _ _ h => h) (Or.inl ⟨by rfl, ?_⟩) (by assumption) ?_
      rotate_left
      · (intro w hSw; (try dsimp only at hSw); go_simp; try with_reducible rfl)
      try simp only [Act.put, List.setIfInBounds_toArray, List.set_cons_zero, List.set_cons_succ]
      refine wpAnyH_done (by kernel_rfl) ?_ _
      go_wp2_with fail
      go_meet
      exact NewA_one ((Qw.refl _).drew.below _) (by omega) hcb hob hbc
    refine AllReadyH.cons (o := ⟨some 19, _, _, _, _, _⟩) rfl (fun K hK => ?_) AllReadyH.nil
    go_simp
    refine hK.out _ _ ?_ (fun hHeld => ?_)
    · (try dsimp only); first | exact Below.refl _ _ | exact (Qw.refl w1).drew.below _ | exact hHeld.alloc hHeld.size _ | exact hHeld.trans (hbc.mono hHeld.size)
    clear hK K
    try simp only [Act.put, List.setIfInBounds_toArray, List.set_cons_zero, List.set_cons_succ]
    refine wpAnyH_ready (rs := [2]) (by kernel_rfl) (by simp) ?_
    refine AllReadyH.cons (o := ⟨some 18, _, _, _, _, _⟩) rfl (fun K hK => ?_) AllReadyH.nil
    go_simp
    refine (Clone_bool _ _ _ b _ (by omega) ((R1.out.below hHeld).mono hHeld.size)).mono ?_
    rintro e wc ⟨Ab, cbt, rfl, hcb, hob, hbc⟩
    go_wp2_with fail
    refine hK.out _ _ ?_ (fun hHeld => ?_)
    · (try dsimp only); first | exact Below.refl _ _ | exact (Qw.refl w1).drew.below _ | exact hHeld.alloc hHeld.size _ | exact hHeld.trans (hbc.mono hHeld.size)
    clear hK K
    try simp only [Act.put, List.setIfInBounds_toArray, List.set_cons_zero, List.set_cons_succ]
    refine wpAnyH_take (i := 4) (oi := ⟨some 20, _, _, _, _, _⟩) (v := ?_) rfl (by kernel_rfl) (by kernel_rfl) (by kernel_rfl) (fun _ _ _ h => h) (Or.inl ⟨by rfl, ?_⟩) (by assumption) ?_
    rotate_left
    · (intro w hSw; (try dsimp only at hSw); go_simp; try with_reducible rfl)
    try simp only [Act.put, List.setIfInBounds_toArray, List.set_cons_zero, List.set_cons_succ]
    refine wpAnyH_ready (rs := [5]) (by kernel_rfl) (by simp) ?_
    refine AllReadyH.cons (o := ⟨some 21, _, _, _, _, _⟩) rfl (fun K hK => ?_) AllReadyH.nil
    go_simp
    refine hK.out _ _ ?_ (fun hHeld => ?_)
    · (try dsimp only); first | exact Below.refl _ _ | exact (Qw.refl w1).drew.below _ | exact hHeld.alloc hHeld.size _ | exact hHeld.trans (hbc.mono hHeld.size)
    clear hK K
    try simp only [Act.put, List.setIfInBounds_toArray, List.set_cons_zero, List.set_cons_succ]
    refine wpAnyH_take (i := 6) (oi := ⟨some 7, _, _, _, _, _⟩) (v := ?_) rfl (by kernel_rfl) (by kernel_rfl) (by kernel_rfl) (fun _ _ _ h => h) (Or.inl ⟨by rfl, ?_⟩) (by assumption) ?_
    rotate_left
    · (intro w hSw; (try dsimp only at hSw); go_simp; try with_reducible rfl)
    try simp only [Act.put, List.setIfInBounds_toArray, List.set_cons_zero, List.set_cons_succ]
    refine wpAnyH_done (by kernel_rfl) ?_ _
    go_wp2_with fail
    go_meet
    exact NewA_two ((Qw.refl _).drew.below _) (by omega) hcb hob hbc
  case rest => as_aux_lemma =>
    obtain ⟨w2, hw2⟩ : ∃ x, x = wc := ⟨_, rfl⟩
    subst hw2
    obtain ⟨p, km, cbt, Ab, rfl, hna, hb2⟩ := hcut
    have y0 := bcells_n hb2 x0
    clear HBK1 R1 hmm
    go_wp2_with fail
    go_loopw [24] (fun v wr => ∃ k : Nat, k ≤ P ∧ v = .int .i64 k ∧ NL w1 p n P B s b k k wr ∧ Below w1.heap.size w1 wr) (fun v _ => P - (intOf v).toNat)
    case atStart => exact ⟨0, Nat.zero_le _, rfl, ⟨km, cbt, Ab, _, _, _, _, hna⟩, hb2⟩
    case round =>
      obtain ⟨wa, rfl⟩ : ∃ wa : World, wa = wr := ⟨_, rfl⟩
      clear hna y0
      obtain ⟨k, hk, rfl, ⟨km, cbt, Ab, vo, vb, os, bs, hna⟩, hbw⟩ := hrel
      have hsz := hbw.size
      by_cases hkP : k < P
      · have i1 : (k : Int) < (P : Int) := by omega
        obtain ⟨Ao, co, rfl, hco⟩ := own_form hna.ord
        have c4 : wa.cell? ⟨p, 4, none⟩ = some (.slice Ao k co) := by rw [cell_of_row _ _ _ _ _ _ hna.cells]; rfl
        have hpl : p < wa.heap.size := (Array.getElem?_eq_some_iff.1 hna.cells).1
        have HNA := Lib.hid hna; clear hna
        go_wp2_with fail
        go_cut [] (fun wx => NL w1 p n P B s b (k + 1) k wx ∧ Below w1.heap.size w1 wx)
        case first =>
          refine wp_region_held_drew (S := fun w' => Below w1.heap.size w1 w') (by kernel_rfl) ?_ (fun hHeld => ?_)
          · (try dsimp only); first | exact hbw | exact hbw.drew | exact hHeld | exact hbw.trans (HB9.out.mono hsz) | exact hHeld.alloc hHeld.size _ | exact (hbw.trans (HB9.out.mono hsz)).trans HB8.out | exact hHeld.setCell HNA.out.pb _
          refine wpAnyH_take (i := 0) (oi := ⟨some 27, _, _, _, _, _⟩) (v := ?_) rfl (by kernel_rfl) (by kernel_rfl) (by kernel_rfl) (fun _ _ _ h => h) (Or.inl ⟨by rfl, ?_⟩) (by assumption) ?_
          rotate_left
          · (intro w hSw; (try dsimp only at hSw); go_simp; try with_reducible rfl)
          try simp only [Act.put, List.setIfInBounds_toArray, List.set_cons_zero, List.set_cons_succ]
          refine wpAnyH_take (i := 1) (oi := ⟨some 28, _, _, _, _, _⟩) (v := ?_) rfl (by kernel_rfl) (by kernel_rfl) (by kernel_rfl) (fun _ _ _ h => h) (Or.inl ⟨by rfl, ?_⟩) (by assumption) ?_
          rotate_left
          · (intro w hSw; (try dsimp only at hSw); go_simp; try with_reducible rfl)
          try simp only [Act.put, List.setIfInBounds_toArray, List.set_cons_zero, List.set_cons_succ]
          refine wpAnyH_take (i := 2) (oi := ⟨some 29, _, _, _, _, _⟩) (v := ?_) rfl (by kernel_rfl) (by kernel_rfl) (by kernel_rfl) (fun _ _ _ h => h) (Or.inl ⟨by rfl, ?_⟩) (by assumption) ?_
          rotate_left
          · (intro w hSw; (try dsimp only at hSw); go_simp; try with_reducible rfl)
          try simp only [Act.put, List.setIfInBounds_toArray, List.set_cons_zero, List.set_cons_succ]
          refine wpAnyH_take (i := 3) (oi := ⟨some 30, _, _, _, _, _⟩) (v := ?_) rfl (by kernel_rfl) (by kernel_rfl) (by kernel_rfl) (fun _ _ _ h => h) (Or.inl ⟨by rfl, ?_⟩) (by assumption) ?_
          rotate_left
          · (intro w hSw; (try dsimp only at hSw); go_simp; try with_reducible rfl)
          try simp only [Act.put, List.setIfInBounds_toArray, List.set_cons_zero, List.set_cons_succ]
          refine wpAnyH_take (i := 5) (oi := ⟨some 32, _, _, _, _, _⟩) (v := .agg #[.int .i64 P, .int .i64 B, .int .u64 s]) rfl (by kernel_rfl) (by kernel_rfl) (by kernel_rfl) (fun _ _ _ h => h) (Or.inl ⟨by rfl, ?_⟩) (by assumption) ?_
          · (intro w hSw; (try dsimp only at hSw); have h0 := bcells_n hSw x0; have h1 := bcells_n hSw x1; have h2 := bcells_n hSw x2; go_simp)
          try simp only [Act.put, List.setIfInBounds_toArray, List.set_cons_zero, List.set_cons_succ]
          refine wpAnyH_take (i := 6) (oi := ⟨some 33, _, _, _, _, _⟩) (v := ?_) rfl (by kernel_rfl) (by kernel_rfl) (by kernel_rfl) (fun _ _ _ h => h) (Or.inl ⟨by rfl, ?_⟩) (by assumption) ?_
          rotate_left
          · (intro w hSw; (try dsimp only at hSw); go_simp; try with_reducible rfl)
          try simp only [Act.put, List.setIfInBounds_toArray, List.set_cons_zero, List.set_cons_succ]
          refine wpAnyH_take (i := 7) (oi := ⟨some 34, _, _, _, _, _⟩) (v := ?_) rfl (by kernel_rfl) (by kernel_rfl) (by kernel_rfl) (fun _ _ _ h => h) (Or.inl ⟨by rfl, ?_⟩) (by assumption) ?_
          rotate_left
          · (intro w hSw; (try dsimp only at hSw); go_simp; try with_reducible rfl)
          try simp only [Act.put, List.setIfInBounds_toArray, List.set_cons_zero, List.set_cons_succ]
          refine wpAnyH_take (i := 8) (oi := ⟨some 35, _, _, _, _, _⟩) (v := ?_) rfl (by kernel_rfl) (by kernel_rfl) (by kernel_rfl) (fun _ _ _ h => h) (Or.inl ⟨by rfl, ?_⟩) (by assumption) ?_
          rotate_left
          · (intro w hSw; (try dsimp only at hSw); go_simp; try with_reducible rfl)
          try simp only [Act.put, List.setIfInBounds_toArray, List.set_cons_zero, List.set_cons_succ]
          refine wpAnyH_ready (rs := [4, 9]) (by kernel_rfl) (by simp) ?_
          refine AllReadyH.cons (o := ⟨some 31, _, _, _, _, _⟩) rfl (fun K hK => ?_) ?_
          · skip
            go_simp
            refine hK.out _ _ ?_ (fun hHeld => ?_)
            · (try dsimp only); first | exact hbw | exact hbw.drew | exact hHeld | exact hbw.trans (HB9.out.mono hsz) | exact hHeld.alloc hHeld.size _ | exact (hbw.trans (HB9.out.mono hsz)).trans HB8.out | exact hHeld.setCell HNA.out.pb _
            clear hK K
            try simp only [Act.put, List.setIfInBounds_toArray, List.set_cons_zero, List.set_cons_succ]
            refine wpAnyH_ready (rs := [9]) (by kernel_rfl) (by simp) ?_
            refine AllReadyH.cons (o := ⟨some 36, _, _, _, _, _⟩) rfl (fun K hK => ?_) AllReadyH.nil
            go_simp
            refine (order_any _ _ s n k _ hs hn (by omega)).mono ?_
            rintro e w9 ⟨A9, c9, he9, hc9, ho9, hb9⟩
            obtain rfl : e = .returned (.slice A9 n c9) := he9
            have hb9' : Below wa.heap.size wa w9 := ((Qw.refl wa).drew.below _).trans hb9
            have d4 : w9.cell? ⟨p, 4, none⟩ = some (.slice Ao k co) := by rw [cell_of_row _ _ _ _ _ _ ((hb9'.block p hpl).trans HNA.out.cells)]; rfl
            have hpl9 : p < w9.heap.size := by have := hb9'.size; omega
            have HO9 := Lib.hid ho9; have HB9 := Lib.hid hb9'
            clear ho9 hb9 hb9'
            go_wp2_with fail
            refine hK.out _ _ ?_ (fun hHeld => ?_)
            · (try dsimp only); first | exact hbw | exact hbw.drew | exact hHeld | exact hbw.trans (HB9.out.mono hsz) | exact hHeld.alloc hHeld.size _ | exact (hbw.trans (HB9.out.mono hsz)).trans HB8.out | exact hHeld.setCell HNA.out.pb _
            clear hK K
            try simp only [Act.put, List.setIfInBounds_toArray, List.set_cons_zero, List.set_cons_succ]
            refine wpAnyH_ready (rs := [10]) (by kernel_rfl) (by simp) ?_
            refine AllReadyH.cons (o := ⟨some 37, _, _, _, _, _⟩) rfl (fun K hK => ?_) AllReadyH.nil
            go_simp
            refine hK.out _ _ ?_ (fun hHeld => ?_)
            · (try dsimp only); first | exact hbw | exact hbw.drew | exact hHeld | exact hbw.trans (HB9.out.mono hsz) | exact hHeld.alloc hHeld.size _ | exact (hbw.trans (HB9.out.mono hsz)).trans HB8.out | exact hHeld.setCell HNA.out.pb _
            clear hK K
            try simp only [Act.put, List.setIfInBounds_toArray, List.set_cons_zero, List.set_cons_succ]
            refine wpAnyH_ready (rs := [11]) (by kernel_rfl) (by simp) ?_
            refine AllReadyH.cons (o := ⟨some 38, _, _, _, _, _⟩) rfl (fun K hK => ?_) AllReadyH.nil
            refine step_pushL elB_ints (.tmp 31) (.tmp 37) (by rfl) (by rfl) w1.heap.size k _ (by rfl) (ownsRow_below HNA.out.ord HB9.out (Nat.le_refl _)) (by rfl) (by rfl) (by intro u hu; simp at hu; subst hu; rfl) (by omega) (by decide) (by have := HB9.out.size; omega) ?_
            intro v8 w8 hown8 hb8 hg8 hL8
            obtain ⟨A8, c8, rfl, hc8⟩ := own_form hown8
            have hp8 := (hg8.block p hpl9 (fun e => type_ne (ownsRow_below HNA.out.ord HB9.out (Nat.le_refl _)) e.symm ((HB9.out.block p hpl).trans HNA.out.cells) (by decide))).trans ((HB9.out.block p hpl).trans HNA.out.cells)
            have e4 : w8.cell? ⟨p, 4, none⟩ = some (.slice Ao k co) := by rw [cell_of_row _ _ _ _ _ _ hp8]; rfl
            have f4 : w8.frozen? ⟨p, 4, none⟩ = false := by simp [World.frozen?, hp8]
            have HW8 := Lib.hid hown8; have HG8 := Lib.hid hg8; have HB8 := Lib.hid hb8
            clear hp8 hown8 hg8 hb8 hL8
            refine hK.out _ _ ?_ (fun hHeld => ?_)
            · (try dsimp only); first | exact hbw | exact hbw.drew | exact hHeld | exact hbw.trans (HB9.out.mono hsz) | exact hHeld.alloc hHeld.size _ | exact (hbw.trans (HB9.out.mono hsz)).trans HB8.out | exact hHeld.setCell HNA.out.pb _
            clear hK K
            try simp only [Act.put, List.setIfInBounds_toArray, List.set_cons_zero, List.set_cons_succ]
            refine wpAnyH_take (i := 12) (oi := ⟨some 39, _, _, _, _, _⟩) (v := ?_) rfl (by kernel_rfl) (by kernel_rfl) (by kernel_rfl) (fun _ _ _ h => h) (Or.inl ⟨by rfl, ?_⟩) (by assumption) ?_
            rotate_left
            · (intro w hSw; (try dsimp only at hSw); go_simp; try with_reducible rfl)
            try simp only [Act.put, List.setIfInBounds_toArray, List.set_cons_zero, List.set_cons_succ]
            refine wpAnyH_take (i := 13) (oi := ⟨some 40, _, _, _, _, _⟩) (v := ?_) rfl (by kernel_rfl) (by kernel_rfl) (by kernel_rfl) (fun _ _ _ h => h) (Or.inl ⟨by rfl, ?_⟩) (by assumption) ?_
            rotate_left
            · (intro w hSw; (try dsimp only at hSw); go_simp; try with_reducible rfl)
            try simp only [Act.put, List.setIfInBounds_toArray, List.set_cons_zero, List.set_cons_succ]
            refine wpAnyH_ready (rs := [14]) (by kernel_rfl) (by simp) ?_
            refine AllReadyH.cons (o := ⟨none, _, _, _, _, _⟩) rfl (fun K hK => ?_) AllReadyH.nil
            go_simp
            refine hK.out _ _ ?_ (fun hHeld => ?_)
            · (try dsimp only); first | exact hbw | exact hbw.drew | exact hHeld | exact hbw.trans (HB9.out.mono hsz) | exact hHeld.alloc hHeld.size _ | exact (hbw.trans (HB9.out.mono hsz)).trans HB8.out | exact hHeld.setCell HNA.out.pb _
            clear hK K
            try simp only [Act.put, List.setIfInBounds_toArray, List.set_cons_zero, List.set_cons_succ]
            refine wpAnyH_done (by kernel_rfl) ?_ _
            go_wp2_with fail
            go_meet
            exact ⟨⟨km, cbt, Ab, _, _, _, _, HNA.out.pushO hsz HB9.out hc9 HO9.out HW8.out HG8.out⟩, hHeld⟩
          refine AllReadyH.cons (o := ⟨some 36, _, _, _, _, _⟩) rfl (fun K hK => ?_) AllReadyH.nil
          go_simp
          refine (order_any _ _ s n k _ hs hn (by omega)).mono ?_
          rintro e w9 ⟨A9, c9, he9, hc9, ho9, hb9⟩
          obtain rfl : e = .returned (.slice A9 n c9) := he9
          have hb9' : Below wa.heap.size wa w9 := ((Qw.refl wa).drew.below _).trans hb9
          have d4 : w9.cell? ⟨p, 4, none⟩ = some (.slice Ao k co) := by rw [cell_of_row _ _ _ _ _ _ ((hb9'.block p hpl).trans HNA.out.cells)]; rfl
          have hpl9 : p < w9.heap.size := by have := hb9'.size; omega
          have HO9 := Lib.hid ho9; have HB9 := Lib.hid hb9'
          clear ho9 hb9 hb9'
          go_wp2_with fail
          refine hK.out _ _ ?_ (fun hHeld => ?_)
          · (try dsimp only); first | exact hbw | exact hbw.drew | exact hHeld | exact hbw.trans (HB9.out.mono hsz) | exact hHeld.alloc hHeld.size _ | exact (hbw.trans (HB9.out.mono hsz)).trans HB8.out | exact hHeld.setCell HNA.out.pb _
          clear hK K
          try simp only [Act.put, List.setIfInBounds_toArray, List.set_cons_zero, List.set_cons_succ]
          refine wpAnyH_ready (rs := [4, 10]) (by kernel_rfl) (by simp) ?_
          refine AllReadyH.cons (o := ⟨some 31, _, _, _, _, _⟩) rfl (fun K hK => ?_) ?_
          · skip
            go_simp
            refine hK.out _ _ ?_ (fun hHeld => ?_)
            · (try dsimp only); first | exact hbw | exact hbw.drew | exact hHeld | exact hbw.trans (HB9.out.mono hsz) | exact hHeld.alloc hHeld.size _ | exact (hbw.trans (HB9.out.mono hsz)).trans HB8.out | exact hHeld.setCell HNA.out.pb _
            clear hK K
            try simp only [Act.put, List.setIfInBounds_toArray, List.set_cons_zero, List.set_cons_succ]
            refine wpAnyH_ready (rs := [10]) (by kernel_rfl) (by simp) ?_
            refine AllReadyH.cons (o := ⟨some 37, _, _, _, _, _⟩) rfl (fun K hK => ?_) AllReadyH.nil
            go_simp
            refine hK.out _ _ ?_ (fun hHeld => ?_)
            · (try dsimp only); first | exact hbw | exact hbw.drew | exact hHeld | exact hbw.trans (HB9.out.mono hsz) | exact hHeld.alloc hHeld.size _ | exact (hbw.trans (HB9.out.mono hsz)).trans HB8.out | exact hHeld.setCell HNA.out.pb _
            clear hK K
            try simp only [Act.put, List.setIfInBounds_toArray, List.set_cons_zero, List.set_cons_succ]
            refine wpAnyH_ready (rs := [11]) (by kernel_rfl) (by simp) ?_
            refine AllReadyH.cons (o := ⟨some 38, _, _, _, _, _⟩) rfl (fun K hK => ?_) AllReadyH.nil
            refine step_pushL elB_ints (.tmp 31) (.tmp 37) (by rfl) (by rfl) w1.heap.size k _ (by rfl) (ownsRow_below HNA.out.ord HB9.out (Nat.le_refl _)) (by rfl) (by rfl) (by intro u hu; simp at hu; subst hu; rfl) (by omega) (by decide) (by have := HB9.out.size; omega) ?_
            intro v8 w8 hown8 hb8 hg8 hL8
            obtain ⟨A8, c8, rfl, hc8⟩ := own_form hown8
            have hp8 := (hg8.block p hpl9 (fun e => type_ne (ownsRow_below HNA.out.ord HB9.out (Nat.le_refl _)) e.symm ((HB9.out.block p hpl).trans HNA.out.cells) (by decide))).trans ((HB9.out.block p hpl).trans HNA.out.cells)
            have e4 : w8.cell? ⟨p, 4, none⟩ = some (.slice Ao k co) := by rw [cell_of_row _ _ _ _ _ _ hp8]; rfl
            have f4 : w8.frozen? ⟨p, 4, none⟩ = false := by simp [World.frozen?, hp8]
            have HW8 := Lib.hid hown8; have HG8 := Lib.hid hg8; have HB8 := Lib.hid hb8
            clear hp8 hown8 hg8 hb8 hL8
            refine hK.out _ _ ?_ (fun hHeld => ?_)
            · (try dsimp only); first | exact hbw | exact hbw.drew | exact hHeld | exact hbw.trans (HB9.out.mono hsz) | exact hHeld.alloc hHeld.size _ | exact (hbw.trans (HB9.out.mono hsz)).trans HB8.out | exact hHeld.setCell HNA.out.pb _
            clear hK K
            try simp only [Act.put, List.setIfInBounds_toArray, List.set_cons_zero, List.set_cons_succ]
            refine wpAnyH_take (i := 12) (oi := ⟨some 39, _, _, _, _, _⟩) (v := ?_) rfl (by kernel_rfl) (by kernel_rfl) (by kernel_rfl) (fun _ _ _ h => h) (Or.inl ⟨by rfl, ?_⟩) (by assumption) ?_
            rotate_left
            · (intro w hSw; (try dsimp only at hSw); go_simp; try with_reducible rfl)
            try simp only [Act.put, List.setIfInBounds_toArray, List.set_cons_zero, List.set_cons_succ]
            refine wpAnyH_take (i := 13) (oi := ⟨some 40, _, _, _, _, _⟩) (v := ?_) rfl (by kernel_rfl) (by kernel_rfl) (by kernel_rfl) (fun _ _ _ h => h) (Or.inl ⟨by rfl, ?_⟩) (by assumption) ?_
            rotate_left
            · (intro w hSw; (try dsimp only at hSw); go_simp; try with_reducible rfl)
            try simp only [Act.put, List.setIfInBounds_toArray, List.set_cons_zero, List.set_cons_succ]
            refine wpAnyH_ready (rs := [14]) (by kernel_rfl) (by simp) ?_
            refine AllReadyH.cons (o := ⟨none, _, _, _, _, _⟩) rfl (fun K hK => ?_) AllReadyH.nil
            go_simp
            refine hK.out _ _ ?_ (fun hHeld => ?_)
            · (try dsimp only); first | exact hbw | exact hbw.drew | exact hHeld | exact hbw.trans (HB9.out.mono hsz) | exact hHeld.alloc hHeld.size _ | exact (hbw.trans (HB9.out.mono hsz)).trans HB8.out | exact hHeld.setCell HNA.out.pb _
            clear hK K
            try simp only [Act.put, List.setIfInBounds_toArray, List.set_cons_zero, List.set_cons_succ]
            refine wpAnyH_done (by kernel_rfl) ?_ _
            go_wp2_with fail
            go_meet
            exact ⟨⟨km, cbt, Ab, _, _, _, _, HNA.out.pushO hsz HB9.out hc9 HO9.out HW8.out HG8.out⟩, hHeld⟩
          refine AllReadyH.cons (o := ⟨some 37, _, _, _, _, _⟩) rfl (fun K hK => ?_) AllReadyH.nil
          go_simp
          refine hK.out _ _ ?_ (fun hHeld => ?_)
          · (try dsimp only); first | exact hbw | exact hbw.drew | exact hHeld | exact hbw.trans (HB9.out.mono hsz) | exact hHeld.alloc hHeld.size _ | exact (hbw.trans (HB9.out.mono hsz)).trans HB8.out | exact hHeld.setCell HNA.out.pb _
          clear hK K
          try simp only [Act.put, List.setIfInBounds_toArray, List.set_cons_zero, List.set_cons_succ]
          refine wpAnyH_ready (rs := [4]) (by kernel_rfl) (by simp) ?_
          refine AllReadyH.cons (o := ⟨some 31, _, _, _, _, _⟩) rfl (fun K hK => ?_) AllReadyH.nil
          go_simp
          refine hK.out _ _ ?_ (fun hHeld => ?_)
          · (try dsimp only); first | exact hbw | exact hbw.drew | exact hHeld | exact hbw.trans (HB9.out.mono hsz) | exact hHeld.alloc hHeld.size _ | exact (hbw.trans (HB9.out.mono hsz)).trans HB8.out | exact hHeld.setCell HNA.out.pb _
          clear hK K
          try simp only [Act.put, List.setIfInBounds_toArray, List.set_cons_zero, List.set_cons_succ]
          refine wpAnyH_ready (rs := [11]) (by kernel_rfl) (by simp) ?_
          refine AllReadyH.cons (o := ⟨some 38, _, _, _, _, _⟩) rfl (fun K hK => ?_) AllReadyH.nil
          refine step_pushL elB_ints (.tmp 31) (.tmp 37) (by rfl) (by rfl) w1.heap.size k _ (by rfl) (ownsRow_below HNA.out.ord HB9.out (Nat.le_refl _)) (by rfl) (by rfl) (by intro u hu; simp at hu; subst hu; rfl) (by omega) (by decide) (by have := HB9.out.size; omega) ?_
          intro v8 w8 hown8 hb8 hg8 hL8
          obtain ⟨A8, c8, rfl, hc8⟩ := own_form hown8
          have hp8 := (hg8.block p hpl9 (fun e => type_ne (ownsRow_below HNA.out.ord HB9.out (Nat.le_refl _)) e.symm ((HB9.out.block p hpl).trans HNA.out.cells) (by decide))).trans ((HB9.out.block p hpl).trans HNA.out.cells)
          have e4 : w8.cell? ⟨p, 4, none⟩ = some (.slice Ao k co) := by rw [cell_of_row _ _ _ _ _ _ hp8]; rfl
          have f4 : w8.frozen? ⟨p, 4, none⟩ = false := by simp [World.frozen?, hp8]
          have HW8 := Lib.hid hown8; have HG8 := Lib.hid hg8; have HB8 := Lib.hid hb8
          clear hp8 hown8 hg8 hb8 hL8
          refine hK.out _ _ ?_ (fun hHeld => ?_)
          · (try dsimp only); first | exact hbw | exact hbw.drew | exact hHeld | exact hbw.trans (HB9.out.mono hsz) | exact hHeld.alloc hHeld.size _ | exact (hbw.trans (HB9.out.mono hsz)).trans HB8.out | exact hHeld.setCell HNA.out.pb _
          clear hK K
          try simp only [Act.put, List.setIfInBounds_toArray, List.set_cons_zero, List.set_cons_succ]
          refine wpAnyH_take (i := 12) (oi := ⟨some 39, _, _, _, _, _⟩) (v := ?_) rfl (by kernel_rfl) (by kernel_rfl) (by kernel_rfl) (fun _ _ _ h => h) (Or.inl ⟨by rfl, ?_⟩) (by assumption) ?_
          rotate_left
          · (intro w hSw; (try dsimp only at hSw); go_simp; try with_reducible rfl)
          try simp only [Act.put, List.setIfInBounds_toArray, List.set_cons_zero, List.set_cons_succ]
          refine wpAnyH_take (i := 13) (oi := ⟨some 40, _, _, _, _, _⟩) (v := ?_) rfl (by kernel_rfl) (by kernel_rfl) (by kernel_rfl) (fun _ _ _ h => h) (Or.inl ⟨by rfl, ?_⟩) (by assumption) ?_
          rotate_left
          · (intro w hSw; (try dsimp only at hSw); go_simp; try with_reducible rfl)
          try simp only [Act.put, List.setIfInBounds_toArray, List.set_cons_zero, List.set_cons_succ]
          refine wpAnyH_ready (rs := [14]) (by kernel_rfl) (by simp) ?_
          refine AllReadyH.cons (o := ⟨none, _, _, _, _, _⟩) rfl (fun K hK => ?_) AllReadyH.nil
          go_simp
          refine hK.out _ _ ?_ (fun hHeld => ?_)
          · (try dsimp only); first | exact hbw | exact hbw.drew | exact hHeld | exact hbw.trans (HB9.out.mono hsz) | exact hHeld.alloc hHeld.size _ | exact (hbw.trans (HB9.out.mono hsz)).trans HB8.out | exact hHeld.setCell HNA.out.pb _
          clear hK K
          try simp only [Act.put, List.setIfInBounds_toArray, List.set_cons_zero, List.set_cons_succ]
          refine wpAnyH_done (by kernel_rfl) ?_ _
          go_wp2_with fail
          go_meet
          exact ⟨⟨km, cbt, Ab, _, _, _, _, HNA.out.pushO hsz HB9.out hc9 HO9.out HW8.out HG8.out⟩, hHeld⟩
        case rest => as_aux_lemma =>
          obtain ⟨w3, hw3⟩ : ∃ x, x = wc := ⟨_, rfl⟩
          subst hw3
          clear c4 hpl HNA hbw hsz
          obtain ⟨wa, rfl⟩ : ∃ x : World, x = w3 := ⟨_, rfl⟩
          obtain ⟨⟨km, cbt, Ab, vo, vb, os, bs, hna⟩, hbw⟩ := hcut
          have hsz := hbw.size
          obtain ⟨Ao, co, rfl, hco⟩ := own_form hna.blk
          have c4 : wa.cell? ⟨p, 5, none⟩ = some (.slice Ao k co) := by rw [cell_of_row _ _ _ _ _ _ hna.cells]; rfl
          have hpl : p < wa.heap.size := (Array.getElem?_eq_some_iff.1 hna.cells).1
          have HNA := Lib.hid hna; clear hna
          go_wp2_with fail
          have hk6 : (k : Int) ≤ 6 := by omega
          refine wp_region_held_drew (S := fun w' => Below w1.heap.size w1 w') (by kernel_rfl) ?_ (fun hHeld => ?_)
          · (try dsimp only); first | exact hbw | exact hbw.drew | exact hHeld | exact hbw.trans (HB9.out.mono hsz) | exact hHeld.alloc hHeld.size _ | exact (hbw.trans (HB9.out.mono hsz)).trans HB8.out | exact hHeld.setCell HNA.out.pb _
          refine wpAnyH_take (i := 0) (oi := ⟨some 41, _, _, _, _, _⟩) (v := ?_) rfl (by kernel_rfl) (by kernel_rfl) (by kernel_rfl) (fun _ _ _ h => h) (Or.inl ⟨by rfl, ?_⟩) (by assumption) ?_
          rotate_left
          · (intro w hSw; (try dsimp only at hSw); go_simp; try with_reducible rfl)
          try simp only [Act.put, List.setIfInBounds_toArray, List.set_cons_zero, List.set_cons_succ]
          refine wpAnyH_take (i := 1) (oi := ⟨some 42, _, _, _, _, _⟩) (v := ?_) rfl (by kernel_rfl) (by kernel_rfl) (by kernel_rfl) (fun _ _ _ h => h) (Or.inl ⟨by rfl, ?_⟩) (by assumption) ?_
          rotate_left
          · (intro w hSw; (try dsimp only at hSw); go_simp; try with_reducible rfl)
          try simp only [Act.put, List.setIfInBounds_toArray, List.set_cons_zero, List.set_cons_succ]
          refine wpAnyH_take (i := 2) (oi := ⟨some 43, _, _, _, _, _⟩) (v := ?_) rfl (by kernel_rfl) (by kernel_rfl) (by kernel_rfl) (fun _ _ _ h => h) (Or.inl ⟨by rfl, ?_⟩) (by assumption) ?_
          rotate_left
          · (intro w hSw; (try dsimp only at hSw); go_simp; try with_reducible rfl)
          try simp only [Act.put, List.setIfInBounds_toArray, List.set_cons_zero, List.set_cons_succ]
          refine wpAnyH_take (i := 3) (oi := ⟨some 44, _, _, _, _, _⟩) (v := ?_) rfl (by kernel_rfl) (by kernel_rfl) (by kernel_rfl) (fun _ _ _ h => h) (Or.inl ⟨by rfl, ?_⟩) (by assumption) ?_
          rotate_left
          · (intro w hSw; (try dsimp only at hSw); go_simp; try with_reducible rfl)
          try simp only [Act.put, List.setIfInBounds_toArray, List.set_cons_zero, List.set_cons_succ]
          refine wpAnyH_take (i := 5) (oi := ⟨some 46, _, _, _, _, _⟩) (v := .agg #[.int .i64 P, .int .i64 B, .int .u64 s]) rfl (by kernel_rfl) (by kernel_rfl) (by kernel_rfl) (fun _ _ _ h => h) (Or.inl ⟨by rfl, ?_⟩) (by assumption) ?_
          · (intro w hSw; (try dsimp only at hSw); have h0 := bcells_n hSw x0; have h1 := bcells_n hSw x1; have h2 := bcells_n hSw x2; go_simp)
          try simp only [Act.put, List.setIfInBounds_toArray, List.set_cons_zero, List.set_cons_succ]
          refine wpAnyH_take (i := 6) (oi := ⟨some 47, _, _, _, _, _⟩) (v := ?_) rfl (by kernel_rfl) (by kernel_rfl) (by kernel_rfl) (fun _ _ _ h => h) (Or.inl ⟨by rfl, ?_⟩) (by assumption) ?_
          rotate_left
          · (intro w hSw; (try dsimp only at hSw); go_simp; try with_reducible rfl)
          try simp only [Act.put, List.setIfInBounds_toArray, List.set_cons_zero, List.set_cons_succ]
          refine wpAnyH_take (i := 7) (oi := ⟨some 48, _, _, _, _, _⟩) (v := ?_) rfl (by kernel_rfl) (by kernel_rfl) (by kernel_rfl) (fun _ _ _ h => h) (Or.inl ⟨by rfl, ?_⟩) (by assumption) ?_
          rotate_left
          · (intro w hSw; (try dsimp only at hSw); go_simp; try with_reducible rfl)
          try simp only [Act.put, List.setIfInBounds_toArray, List.set_cons_zero, List.set_cons_succ]
          refine wpAnyH_take (i := 8) (oi := ⟨some 49, _, _, _, _, _⟩) (v := ?_) rfl (by kernel_rfl) (by kernel_rfl) (by kernel_rfl) (fun _ _ _ h => h) (Or.inl ⟨by rfl, ?_⟩) (by assumption) ?_
          rotate_left
          · (intro w hSw; (try dsimp only at hSw); go_simp; try with_reducible rfl)
          try simp only [Act.put, List.setIfInBounds_toArray, List.set_cons_zero, List.set_cons_succ]
          refine wpAnyH_ready (rs := [4, 9]) (by kernel_rfl) (by simp) ?_
          refine AllReadyH.cons (o := ⟨some 45, _, _, _, _, _⟩) rfl (fun K hK => ?_) ?_
          · skip
            go_simp
            refine hK.out _ _ ?_ (fun hHeld => ?_)
            · (try dsimp only); first | exact hbw | exact hbw.drew | exact hHeld | exact hbw.trans (HB9.out.mono hsz) | exact hHeld.alloc hHeld.size _ | exact (hbw.trans (HB9.out.mono hsz)).trans HB8.out | exact hHeld.setCell HNA.out.pb _
            clear hK K
            try simp only [Act.put, List.setIfInBounds_toArray, List.set_cons_zero, List.set_cons_succ]
            refine wpAnyH_ready (rs := [9]) (by kernel_rfl) (by simp) ?_
            refine AllReadyH.cons (o := ⟨some 50, _, _, _, _, _⟩) rfl (fun K hK => ?_) AllReadyH.nil
            go_simp
            refine (cut_any2 _ B s n k _ hB hB5 hn (by omega)).mono ?_
            rintro e w9 ⟨A9, c9, he9, hc9, ho9, hb9⟩
            obtain rfl : e = .returned (.slice A9 (cutL B n k).length c9) := he9
            have hb9' : Below wa.heap.size wa w9 := ((Qw.refl wa).drew.below _).trans hb9
            have d4 : w9.cell? ⟨p, 5, none⟩ = some (.slice Ao k co) := by rw [cell_of_row _ _ _ _ _ _ ((hb9'.block p hpl).trans HNA.out.cells)]; rfl
            have hpl9 : p < w9.heap.size := by have := hb9'.size; omega
            have HO9 := Lib.hid ho9; have HB9 := Lib.hid hb9'
            clear ho9 hb9 hb9'
            go_wp2_with fail
            refine hK.out _ _ ?_ (fun hHeld => ?_)
            · (try dsimp only); first | exact hbw | exact hbw.drew | exact hHeld | exact hbw.trans (HB9.out.mono hsz) | exact hHeld.alloc hHeld.size _ | exact (hbw.trans (HB9.out.mono hsz)).trans HB8.out | exact hHeld.setCell HNA.out.pb _
            clear hK K
            try simp only [Act.put, List.setIfInBounds_toArray, List.set_cons_zero, List.set_cons_succ]
            refine wpAnyH_ready (rs := [10]) (by kernel_rfl) (by simp) ?_
            refine AllReadyH.cons (o := ⟨some 51, _, _, _, _, _⟩) rfl (fun K hK => ?_) AllReadyH.nil
            go_simp
            refine hK.out _ _ ?_ (fun hHeld => ?_)
            · (try dsimp only); first | exact hbw | exact hbw.drew | exact hHeld | exact hbw.trans (HB9.out.mono hsz) | exact hHeld.alloc hHeld.size _ | exact (hbw.trans (HB9.out.mono hsz)).trans HB8.out | exact hHeld.setCell HNA.out.pb _
            clear hK K
            try simp only [Act.put, List.setIfInBounds_toArray, List.set_cons_zero, List.set_cons_succ]
            refine wpAnyH_ready (rs := [11]) (by kernel_rfl) (by simp) ?_
            refine AllReadyH.cons (o := ⟨some 52, _, _, _, _, _⟩) rfl (fun K hK => ?_) AllReadyH.nil
            refine step_pushL elB_qs (.tmp 45) (.tmp 51) (by rfl) (by rfl) w1.heap.size k _ (by rfl) (ownsRow_below HNA.out.blk HB9.out (Nat.le_refl _)) (by rfl) (by rfl) (by intro u hu; simp at hu; subst hu; rfl) (by omega) (by decide) (by have := HB9.out.size; omega) ?_
            intro v8 w8 hown8 hb8 hg8 hL8
            obtain ⟨A8, c8, rfl, hc8⟩ := own_form hown8
            have hp8 := (hg8.block p hpl9 (fun e => type_ne (ownsRow_below HNA.out.blk HB9.out (Nat.le_refl _)) e.symm ((HB9.out.block p hpl).trans HNA.out.cells) (by decide))).trans ((HB9.out.block p hpl).trans HNA.out.cells)
            have e4 : w8.cell? ⟨p, 5, none⟩ = some (.slice Ao k co) := by rw [cell_of_row _ _ _ _ _ _ hp8]; rfl
            have f4 : w8.frozen? ⟨p, 5, none⟩ = false := by simp [World.frozen?, hp8]
            have HW8 := Lib.hid hown8; have HG8 := Lib.hid hg8; have HB8 := Lib.hid hb8
            clear hp8 hown8 hg8 hb8 hL8
            refine hK.out _ _ ?_ (fun hHeld => ?_)
            · (try dsimp only); first | exact hbw | exact hbw.drew | exact hHeld | exact hbw.trans (HB9.out.mono hsz) | exact hHeld.alloc hHeld.size _ | exact (hbw.trans (HB9.out.mono hsz)).trans HB8.out | exact hHeld.setCell HNA.out.pb _
            clear hK K
            try simp only [Act.put, List.setIfInBounds_toArray, List.set_cons_zero, List.set_cons_succ]
            refine wpAnyH_take (i := 12) (oi := ⟨some 53, _, _, _, _, _⟩) (v := ?_) rfl (by kernel_rfl) (by kernel_rfl) (by kernel_rfl) (fun _ _ _ h => h) (Or.inl ⟨by rfl, ?_⟩) (by assumption) ?_
            rotate_left
            · (intro w hSw; (try dsimp only at hSw); go_simp; try with_reducible rfl)
            try simp only [Act.put, List.setIfInBounds_toArray, List.set_cons_zero, List.set_cons_succ]
            refine wpAnyH_take (i := 13) (oi := ⟨some 54, _, _, _, _, _⟩) (v := ?_) rfl (by kernel_rfl) (by kernel_rfl) (by kernel_rfl) (fun _ _ _ h => h) (Or.inl ⟨by rfl, ?_⟩) (by assumption) ?_
            rotate_left
            · (intro w hSw; (try dsimp only at hSw); go_simp; try with_reducible rfl)
            try simp only [Act.put, List.setIfInBounds_toArray, List.set_cons_zero, List.set_cons_succ]
            refine wpAnyH_ready (rs := [14]) (by kernel_rfl) (by simp) ?_
            refine AllReadyH.cons (o := ⟨none, _, _, _, _, _⟩) rfl (fun K hK => ?_) AllReadyH.nil
            go_simp
            refine hK.out _ _ ?_ (fun hHeld => ?_)
            · (try dsimp only); first | exact hbw | exact hbw.drew | exact hHeld | exact hbw.trans (HB9.out.mono hsz) | exact hHeld.alloc hHeld.size _ | exact (hbw.trans (HB9.out.mono hsz)).trans HB8.out | exact hHeld.setCell HNA.out.pb _
            clear hK K
            try simp only [Act.put, List.setIfInBounds_toArray, List.set_cons_zero, List.set_cons_succ]
            refine wpAnyH_done (by kernel_rfl) ?_ _
            go_wp2_with fail
            go_roundw
            case rel => exact ⟨k + 1, by omega, by go_num, ⟨km, cbt, Ab, _, _, _, _, HNA.out.pushB hsz HB9.out hc9 HO9.out HW8.out HG8.out⟩, hHeld⟩
            case measure => simp [intOf]; omega
          refine AllReadyH.cons (o := ⟨some 50, _, _, _, _, _⟩) rfl (fun K hK => ?_) AllReadyH.nil
          go_simp
          refine (cut_any2 _ B s n k _ hB hB5 hn (by omega)).mono ?_
          rintro e w9 ⟨A9, c9, he9, hc9, ho9, hb9⟩
          obtain rfl : e = .returned (.slice A9 (cutL B n k).length c9) := he9
          have hb9' : Below wa.heap.size wa w9 := ((Qw.refl wa).drew.below _).trans hb9
          have d4 : w9.cell? ⟨p, 5, none⟩ = some (.slice Ao k co) := by rw [cell_of_row _ _ _ _ _ _ ((hb9'.block p hpl).trans HNA.out.cells)]; rfl
          have hpl9 : p < w9.heap.size := by have := hb9'.size; omega
          have HO9 := Lib.hid ho9; have HB9 := Lib.hid hb9'
          clear ho9 hb9 hb9'
          go_wp2_with fail
          refine hK.out _ _ ?_ (fun hHeld => ?_)
          · (try dsimp only); first | exact hbw | exact hbw.drew | exact hHeld | exact hbw.trans (HB9.out.mono hsz) | exact hHeld.alloc hHeld.size _ | exact (hbw.trans (HB9.out.mono hsz)).trans HB8.out | exact hHeld.setCell HNA.out.pb _
          clear hK K
          try simp only [Act.put, List.setIfInBounds_toArray, List.set_cons_zero, List.set_cons_succ]
          refine wpAnyH_ready (rs := [4, 10]) (by kernel_rfl) (by simp) ?_
          refine AllReadyH.cons (o := ⟨some 45, _, _, _, _, _⟩) rfl (fun K hK => ?_) ?_
          · skip
            go_simp
            refine hK.out _ _ ?_ (fun hHeld => ?_)
            · (try dsimp only); first | exact hbw | exact hbw.drew | exact hHeld | exact hbw.trans (HB9.out.mono hsz) | exact hHeld.alloc hHeld.size _ | exact (hbw.trans (HB9.out.mono hsz)).trans HB8.out | exact hHeld.setCell HNA.out.pb _
            clear hK K
            try simp only [Act.put, List.setIfInBounds_toArray, List.set_cons_zero, List.set_cons_succ]
            refine wpAnyH_ready (rs := [10]) (by kernel_rfl) (by simp) ?_
            refine AllReadyH.cons (o := ⟨some 51, _, _, _, _, _⟩) rfl (fun K hK => ?_) AllReadyH.nil
            go_simp
            refine hK.out _ _ ?_ (fun hHeld => ?_)
            · (try dsimp only); first | exact hbw | exact hbw.drew | exact hHeld | exact hbw.trans (HB9.out.mono hsz) | exact hHeld.alloc hHeld.size _ | exact (hbw.trans (HB9.out.mono hsz)).trans HB8.out | exact hHeld.setCell HNA.out.pb _
            clear hK K
            try simp only [Act.put, List.setIfInBounds_toArray, List.set_cons_zero, List.set_cons_succ]
            refine wpAnyH_ready (rs := [11]) (by kernel_rfl) (by simp) ?_
            refine AllReadyH.cons (o := ⟨some 52, _, _, _, _, _⟩) rfl (fun K hK => ?_) AllReadyH.nil
            refine step_pushL elB_qs (.tmp 45) (.tmp 51) (by rfl) (by rfl) w1.heap.size k _ (by rfl) (ownsRow_below HNA.out.blk HB9.out (Nat.le_refl _)) (by rfl) (by rfl) (by intro u hu; simp at hu; subst hu; rfl) (by omega) (by decide) (by have := HB9.out.size; omega) ?_
            intro v8 w8 hown8 hb8 hg8 hL8
            obtain ⟨A8, c8, rfl, hc8⟩ := own_form hown8
            have hp8 := (hg8.block p hpl9 (fun e => type_ne (ownsRow_below HNA.out.blk HB9.out (Nat.le_refl _)) e.symm ((HB9.out.block p hpl).trans HNA.out.cells) (by decide))).trans ((HB9.out.block p hpl).trans HNA.out.cells)
            have e4 : w8.cell? ⟨p, 5, none⟩ = some (.slice Ao k co) := by rw [cell_of_row _ _ _ _ _ _ hp8]; rfl
            have f4 : w8.frozen? ⟨p, 5, none⟩ = false := by simp [World.frozen?, hp8]
            have HW8 := Lib.hid hown8; have HG8 := Lib.hid hg8; have HB8 := Lib.hid hb8
            clear hp8 hown8 hg8 hb8 hL8
            refine hK.out _ _ ?_ (fun hHeld => ?_)
            · (try dsimp only); first | exact hbw | exact hbw.drew | exact hHeld | exact hbw.trans (HB9.out.mono hsz) | exact hHeld.alloc hHeld.size _ | exact (hbw.trans (HB9.out.mono hsz)).trans HB8.out | exact hHeld.setCell HNA.out.pb _
            clear hK K
            try simp only [Act.put, List.setIfInBounds_toArray, List.set_cons_zero, List.set_cons_succ]
            refine wpAnyH_take (i := 12) (oi := ⟨some 53, _, _, _, _, _⟩) (v := ?_) rfl (by kernel_rfl) (by kernel_rfl) (by kernel_rfl) (fun _ _ _ h => h) (Or.inl ⟨by rfl, ?_⟩) (by assumption) ?_
            rotate_left
            · (intro w hSw; (try dsimp only at hSw); go_simp; try with_reducible rfl)
            try simp only [Act.put, List.setIfInBounds_toArray, List.set_cons_zero, List.set_cons_succ]
            refine wpAnyH_take (i := 13) (oi := ⟨some 54, _, _, _, _, _⟩) (v := ?_) rfl (by kernel_rfl) (by kernel_rfl) (by kernel_rfl) (fun _ _ _ h => h) (Or.inl ⟨by rfl, ?_⟩) (by assumption) ?_
            rotate_left
            · (intro w hSw; (try dsimp only at hSw); go_simp; try with_reducible rfl)
            try simp only [Act.put, List.setIfInBounds_toArray, List.set_cons_zero, List.set_cons_succ]
            refine wpAnyH_ready (rs := [14]) (by kernel_rfl) (by simp) ?_
            refine AllReadyH.cons (o := ⟨none, _, _, _, _, _⟩) rfl (fun K hK => ?_) AllReadyH.nil
            go_simp
            refine hK.out _ _ ?_ (fun hHeld => ?_)
            · (try dsimp only); first | exact hbw | exact hbw.drew | exact hHeld | exact hbw.trans (HB9.out.mono hsz) | exact hHeld.alloc hHeld.size _ | exact (hbw.trans (HB9.out.mono hsz)).trans HB8.out | exact hHeld.setCell HNA.out.pb _
            clear hK K
            try simp only [Act.put, List.setIfInBounds_toArray, List.set_cons_zero, List.set_cons_succ]
            refine wpAnyH_done (by kernel_rfl) ?_ _
            go_wp2_with fail
            go_roundw
            case rel => exact ⟨k + 1, by omega, by go_num, ⟨km, cbt, Ab, _, _, _, _, HNA.out.pushB hsz HB9.out hc9 HO9.out HW8.out HG8.out⟩, hHeld⟩
            case measure => simp [intOf]; omega
          refine AllReadyH.cons (o := ⟨some 51, _, _, _, _, _⟩) rfl (fun K hK => ?_) AllReadyH.nil
          go_simp
          refine hK.out _ _ ?_ (fun hHeld => ?_)
          · (try dsimp only); first | exact hbw | exact hbw.drew | exact hHeld | exact hbw.trans (HB9.out.mono hsz) | exact hHeld.alloc hHeld.size _ | exact (hbw.trans (HB9.out.mono hsz)).trans HB8.out | exact hHeld.setCell HNA.out.pb _
          clear hK K
          try simp only [Act.put, List.setIfInBounds_toArray, List.set_cons_zero, List.set_cons_succ]
          refine wpAnyH_ready (rs := [4]) (by kernel_rfl) (by simp) ?_
          refine AllReadyH.cons (o := ⟨some 45, _, _, _, _, _⟩) rfl (fun K hK => ?_) AllReadyH.nil
          go_simp
          refine hK.out _ _ ?_ (fun hHeld => ?_)
          · (try dsimp only); first | exact hbw | exact hbw.drew | exact hHeld | exact hbw.trans (HB9.out.mono hsz) | exact hHeld.alloc hHeld.size _ | exact (hbw.trans (HB9.out.mono hsz)).trans HB8.out | exact hHeld.setCell HNA.out.pb _
          clear hK K
          try simp only [Act.put, List.setIfInBounds_toArray, List.set_cons_zero, List.set_cons_succ]
          refine wpAnyH_ready (rs := [11]) (by kernel_rfl) (by simp) ?_
          refine AllReadyH.cons (o := ⟨some 52, _, _, _, _, _⟩) rfl (fun K hK => ?_) AllReadyH.nil
          refine step_pushL elB_qs (.tmp 45) (.tmp 51) (by rfl) (by rfl) w1.heap.size k _ (by rfl) (ownsRow_below HNA.out.blk HB9.out (Nat.le_refl _)) (by rfl) (by rfl) (by intro u hu; simp at hu; subst hu; rfl) (by omega) (by decide) (by have := HB9.out.size; omega) ?_
          intro v8 w8 hown8 hb8 hg8 hL8
          obtain ⟨A8, c8, rfl, hc8⟩ := own_form hown8
          have hp8 := (hg8.block p hpl9 (fun e => type_ne (ownsRow_below HNA.out.blk HB9.out (Nat.le_refl _)) e.symm ((HB9.out.block p hpl).trans HNA.out.cells) (by decide))).trans ((HB9.out.block p hpl).trans HNA.out.cells)
          have e4 : w8.cell? ⟨p, 5, none⟩ = some (.slice Ao k co) := by rw [cell_of_row _ _ _ _ _ _ hp8]; rfl
          have f4 : w8.frozen? ⟨p, 5, none⟩ = false := by simp [World.frozen?, hp8]
          have HW8 := Lib.hid hown8; have HG8 := Lib.hid hg8; have HB8 := Lib.hid hb8
          clear hp8 hown8 hg8 hb8 hL8
          refine hK.out _ _ ?_ (fun hHeld => ?_)
          · (try dsimp only); first | exact hbw | exact hbw.drew | exact hHeld | exact hbw.trans (HB9.out.mono hsz) | exact hHeld.alloc hHeld.size _ | exact (hbw.trans (HB9.out.mono hsz)).trans HB8.out | exact hHeld.setCell HNA.out.pb _
          clear hK K
          try simp only [Act.put, List.setIfInBounds_toArray, List.set_cons_zero, List.set_cons_succ]
          refine wpAnyH_take (i := 12) (oi := ⟨some 53, _, _, _, _, _⟩) (v := ?_) rfl (by kernel_rfl) (by kernel_rfl) (by kernel_rfl) (fun _ _ _ h => h) (Or.inl ⟨by rfl, ?_⟩) (by assumption) ?_
          rotate_left
          · (intro w hSw; (try dsimp only at hSw); go_simp; try with_reducible rfl)
          try simp only [Act.put, List.setIfInBounds_toArray, List.set_cons_zero, List.set_cons_succ]
          refine wpAnyH_take (i := 13) (oi := ⟨some 54, _, _, _, _, _⟩) (v := ?_) rfl (by kernel_rfl) (by kernel_rfl) (by kernel_rfl) (fun _ _ _ h => h) (Or.inl ⟨by rfl, ?_⟩) (by assumption) ?_
          rotate_left
          · (intro w hSw; (try dsimp only at hSw); go_simp; try with_reducible rfl)
          try simp only [Act.put, List.setIfInBounds_toArray, List.set_cons_zero, List.set_cons_succ]
          refine wpAnyH_ready (rs := [14]) (by kernel_rfl) (by simp) ?_
          refine AllReadyH.cons (o := ⟨none, _, _, _, _, _⟩) rfl (fun K hK => ?_) AllReadyH.nil
          go_simp
          refine hK.out _ _ ?_ (fun hHeld => ?_)
          · (try dsimp only); first | exact hbw | exact hbw.drew | exact hHeld | exact hbw.trans (HB9.out.mono hsz) | exact hHeld.alloc hHeld.size _ | exact (hbw.trans (HB9.out.mono hsz)).trans HB8.out | exact hHeld.setCell HNA.out.pb _
          clear hK K
          try simp only [Act.put, List.setIfInBounds_toArray, List.set_cons_zero, List.set_cons_succ]
          refine wpAnyH_done (by kernel_rfl) ?_ _
          go_wp2_with fail
          go_roundw
          case rel => exact ⟨k + 1, by omega, by go_num, ⟨km, cbt, Ab, _, _, _, _, HNA.out.pushB hsz HB9.out hc9 HO9.out HW8.out HG8.out⟩, hHeld⟩
          case measure => simp [intOf]; omega
      · have i1 : (P : Int) ≤ (k : Int) := by omega
        obtain rfl : k = P := by omega
        obtain ⟨L, rfl, hLb, hLn, hLP, hLB, hLs, hm, hwf⟩ := hna.done hP hP6 hB hB5 hs hn
        have HM := Lib.hid hm; have HWF := Lib.hid hwf
        clear hna hm hwf
        go_wp2_with fail
        refine (advance_any L _ (st0 b) _ HM.out HWF.out).mono ?_
        rintro e w9 ⟨rfl, hm9, hT9⟩
        have HM9 := Lib.hid hm9; have HT9 := Lib.hid hT9
        clear hm9 hT9
        go_wp2_with fail
        try simp only [Exit.inBlock, Exit.then]
        refine bodyPost_ret (results_tmp2 rfl _ _ _) rfl ?_
        exact ⟨L, _, rfl, hLn, hLP, hLB, hLs, by rw [hLb]; exact hlt1, HM9.out, (B1.trans (hbw.mono (by omega))).trans (HT9.out.old HM.out (by rw [hLb]; omega))⟩
end Go.Proofs.Ytoofnkkbebjldaa
/- The contract of Run of the cascades. Conditions: as each statement says. -/
namespace Go.Proofs.Ytoofnkkbebjldaa
open Go.RowKit
set_option linter.unusedVariables false
/-- What Run hands back. -/
def RunP (n P B s : Nat) (x y : List Bool) (w : World) (e : Ending) (w' : World) : Prop :=
  ∃ (Az : Option Addr) (cz : Nat) (At : Option Addr) (ct : Nat) (S : Mst), e = .returned (.tuple #[.slice Az n cz, .slice At S.told.length ct, .int .i64 0]) ∧
    GoT (pl n P B s) (oT (pl n P B s) y) (1, st0 x) (0, S) ∧ S.opn = false ∧ S.told.length ≤ 787968 ∧ n ≤ cz ∧ S.told.length ≤ ct ∧
    w'.ownsRow w.heap.size 4 1 (.slice Az n cz) n (S.b.map Value.bool) ∧ w'.ownsRow w.heap.size 46 4 (.slice At S.told.length ct) S.told.length (aCells S.told) ∧ Below w.heap.size w w'
/-- What holds at each round. -/
def RunI (x y : List Bool) (w : World) (L : Lay) (vt : Value) (S : Mst) (wr : World) : Prop :=
  GoT L (oT L y) (1, st0 x) (0, S) ∧ Inv L 0 S ∧ MAt wr L vt S ∧ Below w.heap.size w wr
theorem RunI.told {x y : List Bool} {w wr w' : World} {L : Lay} {vt vt' : Value} {S : Mst} (h : RunI x y w L vt S wr) (hb : w.heap.size ≤ L.base) (ho : S.opn = true)
    (hm : MAt w' L vt' (advS L { S with told := S.told ++ [(S.next, parL y (placesL L.s L.n S.next))] })) (hT : MTurn L vt wr w') :
    RunI x y w L vt' (advS L { S with told := S.told ++ [(S.next, parL y (placesL L.s L.n S.next))] }) w' ∧ 1000000 - (advS L { S with told := S.told ++ [(S.next, parL y (placesL L.s L.n S.next))] }).told.length < 1000000 - S.told.length := by
  obtain ⟨h1, h2, h3, h4⟩ := h
  have hst := h3.st
  obtain ⟨g1, g2⟩ := tell_go (o := oT L y) (a := parL y (placesL L.s L.n S.next)) hst.hB.1 hst.hn h2 ho rfl
  refine ⟨⟨h1.trans g1, g2, hm, h4.trans (hT.old h3 hb)⟩, ?_⟩
  have hl := h2.len hst.hP.2 hst.hn
  rw [advS_told, List.length_append]
  simp
  omega
theorem QOk.ok {L : Lay} {q : Qn} (h : QOk L q) (hP : L.P ≤ 6) (hn : L.n ≤ 512) : q.ok := by
  obtain ⟨⟨h1, h2, h3⟩, h4⟩ := h
  exact ⟨by omega, by omega, by omega⟩
set_option maxRecDepth 100000 in
set_option maxHeartbeats 4000000 in
theorem Run_ok (A A' : Option Addr) (n c c' P B s : Nat) (x y : List Bool) (w : World) (hP : 1 ≤ P) (hP6 : P ≤ 6) (hB : 1 ≤ B) (hB5 : B ≤ 512) (hs : s < two64) (hn : n ≤ 512) (h : Rd w w.heap.size 1 A n (x.map Value.bool)) (h' : Rd w w.heap.size 1 A' n (y.map Value.bool)) :
    Calls Try.prog 14 #[casV P B s, .slice A n c, .slice A' n c'] w (RunP n P B s x y w) := by
  have hsn : checkE P B = 0 := checkE_ok.2 ⟨by omega, by omega, by omega, by omega⟩
  have hxl : x.length = n := by have := h.1; simpa using this
  have hyl : y.length = n := by have := h'.1; simpa using this
  have H := Lib.hid h; have H' := Lib.hid h'; have HS := Lib.hid hsn
  clear h h' hsn
  have hne : ((n : Int) != (n : Int)) = false := by simp
  have hn5 : (n : Int) ≤ 512 := by omega
  go_enter Try.func14, Try.ntmps14
  go_wp2_with fail
  refine (Check_ex _ _ _ _).mono ?_
  rintro e w1 ⟨⟨E, hE, rfl⟩, hs1, hb1⟩
  obtain rfl : E = 0 := hE.trans HS.out
  have B1 : Below w.heap.size w w1 := ((Below.refl _ _).alloc (Nat.le_refl _) _).trans (hb1.mono (by simp))
  have hbk : w1.heap[w.heap.size]? = some (.cells (casC P B s) 24 (0, 0)) := by
    rw [hb1.block _ (by simp)]
    exact heap_alloc_new w _
  have k0 : w1.cell? ⟨w.heap.size, 0, none⟩ = some (.int .i64 P) := by rw [cell_of_row _ _ _ _ _ _ hbk]; rfl
  have k1 : w1.cell? ⟨w.heap.size, 1, none⟩ = some (.int .i64 B) := by rw [cell_of_row _ _ _ _ _ _ hbk]; rfl
  have k2 : w1.cell? ⟨w.heap.size, 2, none⟩ = some (.int .u64 s) := by rw [cell_of_row _ _ _ _ _ _ hbk]; rfl
  have HB1 := Lib.hid B1
  have HX := Lib.hid hxl; have HY := Lib.hid hyl
  clear hE hs1 hb1 B1 hbk HS hxl hyl
  go_wp2_with fail
  refine (New_ok A n c P B s x _ hP hP6 hB hB5 hs hn ((H.out.below HB1.out).mono HB1.out.size)).mono ?_
  rintro e w2 ⟨L, vt, rfl, hLn, hLP, hLB, hLs, hbase, hm, hb2⟩
  subst hLn hLP hLB hLs
  have hb2' := HB1.out.trans (hb2.mono HB1.out.size)
  have hI0 := advS_go (L := L) (S := st0 x) (o := oT L y) hB hn (Inv.start (L := L) HX.out)
  have hbs : w.heap.size ≤ L.base := by have := HB1.out.size; omega
  have HI : Hid (RunI x y w L vt (advS L (st0 x)) w2) := Lib.hid ⟨hI0.1, hI0.2, hm, hb2'⟩
  have HH := Lib.hid H'.out
  clear hI0 hm hb2 hb2' k0 k1 k2 hbase H H'
  go_wp2_with fail
  go_loopg [] 1000001 (fun g wr => ∃ (S : Mst) (vt : Value), 1000000 - S.told.length < g ∧ RunI x y w L vt S wr)
  case atStart => exact ⟨_, vt, by omega, HI.out⟩
  case round =>
    obtain ⟨S, vt, hg, hI⟩ := hrel
    obtain ⟨wa, rfl⟩ : ∃ z : World, z = wr := ⟨_, rfl⟩
    have hm := hI.2.2.1
    have hbw := hI.2.2.2
    have c21 : wa.cell? ⟨L.p, 21, none⟩ = some (.bool S.opn) := hm.cell 21
    by_cases ho : S.opn = true
    · rw [ho] at c21
      have c18 : wa.cell? ⟨L.p, 18, none⟩ = some (.int .i64 S.next.p) := hm.cell 18
      have c19 : wa.cell? ⟨L.p, 19, none⟩ = some (.int .i64 S.next.f) := hm.cell 19
      have c20 : wa.cell? ⟨L.p, 20, none⟩ = some (.int .i64 S.next.t) := hm.cell 20
      have hq := hI.2.1.next hB ho
      obtain ⟨⟨hqp, hft, hqt⟩, hlt⟩ := hq
      have hqok : S.next.ok := QOk.ok ⟨⟨hqp, hft, hqt⟩, hlt⟩ hP6 hn
      obtain ⟨wq, hwq⟩ : ∃ z, z = wa.alloc (.cells #[.int .i64 S.next.p, .int .i64 S.next.f, .int .i64 S.next.t] 44) := ⟨_, rfl⟩
      have hbq : Below wa.heap.size wa wq := by rw [hwq]; exact (Below.refl _ _).alloc (Nat.le_refl _) _
      have hmq := hm.below hbq
      have hbk : wq.heap[wa.heap.size]? = some (.cells #[.int .i64 S.next.p, .int .i64 S.next.f, .int .i64 S.next.t] 44 (0, 0)) := by rw [hwq]; exact heap_alloc_new wa _
      have q0 : wq.cell? ⟨wa.heap.size, 0, none⟩ = some (.int .i64 S.next.p) := by rw [cell_of_row _ _ _ _ _ _ hbk]; rfl
      have q1 : wq.cell? ⟨wa.heap.size, 1, none⟩ = some (.int .i64 S.next.f) := by rw [cell_of_row _ _ _ _ _ _ hbk]; rfl
      have q2 : wq.cell? ⟨wa.heap.size, 2, none⟩ = some (.int .i64 S.next.t) := by rw [cell_of_row _ _ _ _ _ _ hbk]; rfl
      have c4 : wq.cell? ⟨L.p, 4, none⟩ = some (.slice (some ⟨L.go, 0, none⟩) L.P L.co) := hmq.cell 4
      have hql : S.next.p < L.os.length := by rw [hmq.st.ol]; exact hqp
      obtain ⟨Ao, co, hA⟩ : ∃ A c, L.os[S.next.p]? = some (A, c) := ⟨_, _, List.getElem?_eq_getElem hql⟩
      have ce : wq.cell? ⟨L.go, S.next.p, none⟩ = some (.slice Ao L.n co) := by
        rw [hmq.st.ord.cellAt S.next.p (by omega), List.getElem?_map, hA]; rfl
      obtain ⟨hnc, hro⟩ := hmq.st.ordr S.next.p Ao co hA
      obtain ⟨A2, hsl, hr2⟩ := slice_cut (P := Try.prog) (t := 53) (sz := 1) Try.underlying53 Try.sizeOf3 (Rd.own hro) S.next.f S.next.t co hft hqt hnc
      have HR : Hid (Rd wq wq.heap.size 1 A2 (S.next.t - S.next.f) ((placesL L.s L.n S.next).map (Value.int .i64))) := Lib.hid (by
        simpa [placesL, List.map_drop, List.map_take] using hr2)
      have hry : Rd wq wq.heap.size 1 A' L.n (y.map Value.bool) := (HH.out.below (hbw.trans (hbq.mono hbw.size))).mono (Nat.le_trans hbw.size hbq.size)
      have HP : Hid (∀ k : Nat, Calls Try.prog 45 #[.slice A' L.n c', .slice A2 (S.next.t - S.next.f) (co - S.next.f)] (wq.drewN k) fun e w' => e = .returned (.bool (parL y (placesL L.s L.n S.next))) ∧ wq.drewN k = w') := Lib.hid fun k =>
        parity_any A' A2 L.n c' (S.next.t - S.next.f) (co - S.next.f) y (placesL L.s L.n S.next) _ _ (by omega) (by omega) (hry.drewN k) (HR.out.drewN k) (fun x hx => placesL_mem hx)
      have i1 : (S.next.p : Int) < (L.P : Int) := by omega
      have HW := Lib.hid hwq; have HMQ := Lib.hid hmq; have HBQ := Lib.hid hbq
      have HII := Lib.hid hI; have HG := Lib.hid hg; have HO := Lib.hid ho; have HQ := Lib.hid hqok
      have hy1 : ∃ yv, yv = parL y (placesL L.s L.n S.next) := ⟨_, rfl⟩
      clear hI hg ho hwq hmq hbq hm hbk hr2 hro hA hql hry hnc hqok
      obtain ⟨yv, hyv⟩ := hy1
      rw [← hyv] at HP
      have HYV := Lib.hid hyv
      clear hyv
      go_wp2_with fail
      rw [← HW.out]
      refine wp_region_quiet_tail 16 (by kernel_rfl) (by kernel_rfl) ?_
      simp only [List.take_succ_cons, List.take_zero, List.drop_succ_cons, List.drop_zero]
      repeat (quiet_step ((go_at_call 45; exact quiet_e (HP.out _))))
      refine wpQuiet_nil ?_
      intro _ hw'
      obtain ⟨nr, hw''⟩ := hw'
      subst hw''
      go_wp2_with fail
      have hinv := HII.out.2.1
      refine (Tell_any L vt S yv _ (HMQ.out.q (⟨nr, rfl⟩ : Qw wq (wq.drewN nr))) hinv.wfm HO.out HQ.out (hinv.wait rfl HO.out).1 (by have := hinv.len hP6 hn; omega)).mono ?_
      rintro e w8 ⟨rfl, vt8, hm8, hT8, hv8⟩
      rw [HYV.out] at hm8
      have hq2 : MTurn L vt wa w8 := (MTurn.below0 HBQ.out).trans ((MTurn.q (⟨nr, rfl⟩ : Qw wq (wq.drewN nr))).trans hT8 (.inl rfl)) (.inl rfl)
      obtain ⟨hR1, hR2⟩ := HII.out.told hbs HO.out hm8 hq2
      have HR1 := Lib.hid hR1; have HR2 := Lib.hid hR2
      clear hm8 hT8 hq2 hR1 hR2 hinv hv8 hbw
      go_wp2_with fail
      have hg := HG.out; have hR2 := HR2.out
      go_roundg (1000000 - S.told.length)
      case measure => omega
      case rel => exact ⟨_, vt8, hR2, HR1.out⟩
    · have ho' : S.opn = false := by simpa using ho
      rw [ho'] at c21
      have c6 : wa.cell? ⟨L.p, 6, none⟩ = some (.slice L.Ab L.n L.cbt) := hm.cell 6
      have c8 : wa.cell? ⟨L.p, 8, none⟩ = some vt := hm.cell 8
      obtain ⟨At, ct, hvt, hct⟩ := own_form hm.told
      have HII := Lib.hid hI; have HO := Lib.hid ho'; have HVT := Lib.hid hvt
      clear hI hm ho ho' hbw hvt
      go_wp2_with fail
      go_region
      go_wp2_with fail
      go_ret3
      obtain ⟨g1, g2, g3', g4'⟩ := HII.out
      have g3 := g3'.q (⟨1, rfl⟩ : Qw wa wa.drew)
      have g4 := g4'.trans (Qw.below (⟨1, rfl⟩ : Qw wa wa.drew) _)
      have hst := g3.st
      refine ⟨L.Ab, L.cbt, At, ct, S, by rw [HVT.out]; rfl, g1.plain, HO.out, g2.len hP6 hn, hst.pc.2.2, hct, ownsRow_mono g3.bits hbs, ?_, g4⟩
      have := ownsRow_mono g3.told hbs
      rw [HVT.out] at this
      exact this
end Go.Proofs.Ytoofnkkbebjldaa
/- Contracts of Blocks, Places, Reply of the cascades, for what is valid. Conditions: as each statement says. -/
namespace Go.Proofs.Ytoofnkkbebjldaa
open Go.RowKit
set_option linter.unusedVariables false
theorem sane_ok (P B s n : Nat) (w : World) (hP : 1 ≤ P) (hP6 : P ≤ 6) (hB : 1 ≤ B) (hB5 : B ≤ 512) (hn : n ≤ 512) :
    Calls Try.prog 47 #[casV P B s, .int .i64 n] w fun e w' => e = .returned (.int .i64 0) ∧ Below w.heap.size w w' :=
  (sane_any P B s n w).mono fun e w' ⟨he, hb⟩ => ⟨by rw [he, saneE_ok.2 ⟨by omega, by omega, by omega, by omega, by omega, by omega⟩], hb⟩
/-- The cells of a plan in its box. -/
structure PlanAt (w : World) (H P B s : Nat) : Prop where
  blk : w.heap[H]? = some (.cells (casC P B s) 24 (0, 0))
theorem PlanAt.c0 {w : World} {H P B s : Nat} (h : PlanAt w H P B s) : w.cell? ⟨H, 0, none⟩ = some (.int .i64 P) := by rw [cell_of_row _ _ _ _ _ _ h.blk]; rfl
theorem PlanAt.c1 {w : World} {H P B s : Nat} (h : PlanAt w H P B s) : w.cell? ⟨H, 1, none⟩ = some (.int .i64 B) := by rw [cell_of_row _ _ _ _ _ _ h.blk]; rfl
theorem PlanAt.c2 {w : World} {H P B s : Nat} (h : PlanAt w H P B s) : w.cell? ⟨H, 2, none⟩ = some (.int .u64 s) := by rw [cell_of_row _ _ _ _ _ _ h.blk]; rfl
theorem PlanAt.lt {w : World} {H P B s : Nat} (h : PlanAt w H P B s) : H < w.heap.size := (Array.getElem?_eq_some_iff.1 h.blk).1
theorem PlanAt.below {w w' : World} {H P B s n : Nat} (h : PlanAt w H P B s) (hb : Below n w w') (hn : w.heap.size ≤ n) : PlanAt w' H P B s := ⟨(hb.block _ (Nat.lt_of_lt_of_le h.lt hn)).trans h.blk⟩
theorem PlanAt.new (w : World) (P B s : Nat) : PlanAt (w.alloc (.cells (casC P B s) 24)) w.heap.size P B s := ⟨heap_alloc_new w _⟩
/-- The cells of a question in its box. -/
structure QAt (w : World) (H : Nat) (q : Qn) : Prop where
  blk : w.heap[H]? = some (.cells #[.int .i64 q.p, .int .i64 q.f, .int .i64 q.t] 44 (0, 0))
theorem QAt.c0 {w : World} {H : Nat} {q : Qn} (h : QAt w H q) : w.cell? ⟨H, 0, none⟩ = some (.int .i64 q.p) := by rw [cell_of_row _ _ _ _ _ _ h.blk]; rfl
theorem QAt.c1 {w : World} {H : Nat} {q : Qn} (h : QAt w H q) : w.cell? ⟨H, 1, none⟩ = some (.int .i64 q.f) := by rw [cell_of_row _ _ _ _ _ _ h.blk]; rfl
theorem QAt.c2 {w : World} {H : Nat} {q : Qn} (h : QAt w H q) : w.cell? ⟨H, 2, none⟩ = some (.int .i64 q.t) := by rw [cell_of_row _ _ _ _ _ _ h.blk]; rfl
theorem QAt.lt {w : World} {H : Nat} {q : Qn} (h : QAt w H q) : H < w.heap.size := (Array.getElem?_eq_some_iff.1 h.blk).1
theorem QAt.below {w w' : World} {H n : Nat} {q : Qn} (h : QAt w H q) (hb : Below n w w') (hn : w.heap.size ≤ n) : QAt w' H q := ⟨(hb.block _ (Nat.lt_of_lt_of_le h.lt hn)).trans h.blk⟩
theorem QAt.new (w : World) (q : Qn) : QAt (w.alloc (.cells #[.int .i64 q.p, .int .i64 q.f, .int .i64 q.t] 44)) w.heap.size q := ⟨heap_alloc_new w _⟩
set_option maxHeartbeats 1000000 in
theorem Blocks_ok (P B s n p : Nat) (w : World) (hP : 1 ≤ P) (hP6 : P ≤ 6) (hB : 1 ≤ B) (hB5 : B ≤ 512) (hn : n ≤ 512) (hp : p < P) :
    Calls Try.prog 22 #[casV P B s, .int .i64 n, .int .i64 p] w (RetOwn w 44 3 (cutL B n p).length (qCells (cutL B n p)) (fun v => .tuple #[v, .int .i64 0])) := by
  have j1 : ¬ ((p : Int) < 0) := by omega
  have j2 : ¬ ((P : Int) ≤ (p : Int)) := by omega
  go_enter Try.func22, Try.ntmps22
  go_wp2_with fail
  refine (sane_ok P B s n _ hP hP6 hB hB5 hn).mono ?_
  rintro e w1 ⟨rfl, hb1⟩
  have hpl := (PlanAt.new w P B s).below hb1 (Nat.le_refl _)
  have B1 : Below w.heap.size w w1 := ((Below.refl _ _).alloc (Nat.le_refl _) _).trans (hb1.mono (by simp))
  have c0 := hpl.c0; have c1 := hpl.c1; have c2 := hpl.c2
  have HB := Lib.hid B1
  clear hb1 B1 hpl
  go_wp2_with fail
  refine (cut_any P B s n p _ hB hB5 hn (by omega)).mono ?_
  rintro e w2 ⟨A, c, rfl, hc, hown, hb2⟩
  have HO := Lib.hid (ownsRow_base hown HB.out.size); have HB2 := Lib.hid (HB.out.trans (hb2.mono HB.out.size))
  clear hown hb2
  dsimp only [id]
  go_wp2_with fail
  go_ret2
  have e : cutN n (sizeP B p) = (cutL B n p).length := by rw [cutL, cutK_len]
  have ho := HO.out
  rw [e] at ho ⊢
  exact RetOwn.of (mk := fun v => .tuple #[v, .int .i64 0]) ho HB2.out
set_option maxRecDepth 100000 in
set_option maxHeartbeats 2000000 in
theorem Places_ok (P B s n : Nat) (q : Qn) (w : World) (hP : 1 ≤ P) (hP6 : P ≤ 6) (hB : 1 ≤ B) (hB5 : B ≤ 512) (hs : s < two64) (hn : n ≤ 512) (hq : q.p < P) (hft : q.f < q.t) (hqt : q.t ≤ n) :
    Calls Try.prog 30 #[casV P B s, .int .i64 n, kq q] w (RetOwn w 3 1 (q.t - q.f) ((placesL s n q).map (Value.int .i64)) (fun v => .tuple #[v, .int .i64 0])) := by
  have j1 : ¬ ((q.p : Int) < 0) := by omega
  have j2 : ¬ ((P : Int) ≤ (q.p : Int)) := by omega
  have j3 : ¬ ((q.f : Int) < 0) := by omega
  have j4 : ¬ ((q.t : Int) ≤ (q.f : Int)) := by omega
  have j5 : ¬ ((n : Int) < (q.t : Int)) := by omega
  go_enter Try.func30, Try.ntmps30
  go_wp2_with fail
  refine (sane_ok P B s n _ hP hP6 hB hB5 hn).mono ?_
  rintro e w1 ⟨rfl, hb1⟩
  have hpl := ((PlanAt.new w P B s).below ((Below.refl _ _).alloc (Nat.le_refl _) _) (Nat.le_refl _)).below hb1 (Nat.le_refl _)
  have hqa := (QAt.new (w.alloc (.cells (casC P B s) 24)) q).below hb1 (Nat.le_refl _)
  rw [World.size_alloc] at hqa
  have B1 : Below w.heap.size w w1 := (((Below.refl _ _).alloc (Nat.le_refl _) _).alloc (by simp) _).trans (hb1.mono (by simp; omega))
  have c0 := hpl.c0; have c1 := hpl.c1; have c2 := hpl.c2
  have q0 := hqa.c0; have q1 := hqa.c1; have q2 := hqa.c2
  have HB := Lib.hid B1; have HPL := Lib.hid hpl; have HQA := Lib.hid hqa
  clear hb1 B1 hpl hqa
  go_wp2_with fail
  have hsz : ∀ k : Nat, w.heap.size + k < w1.heap.size ∨ 2 ≤ k := fun k => by
    have := HQA.out.lt
    omega
  have HSZ : Hid (w.heap.size + 1 < w1.heap.size) := Lib.hid HQA.out.lt
  clear hsz
  have hsz : ∀ k : Nat, w.heap.size + k < w1.heap.size ∨ 2 ≤ k := fun k => by
    have := HQA.out.lt
    omega
  have HSZ : Hid (w.heap.size + 1 < w1.heap.size) := Lib.hid HQA.out.lt
  clear hsz
  go_region_held3 (fun w' => w'.cell? ⟨w.heap.size, 0, none⟩ = some (.int .i64 P) ∧ w'.cell? ⟨w.heap.size, 1, none⟩ = some (.int .i64 B) ∧ w'.cell? ⟨w.heap.size, 2, none⟩ = some (.int .u64 s) ∧ w'.cell? ⟨w.heap.size + 1, 0, none⟩ = some (.int .i64 q.p) ∧ w'.cell? ⟨w.heap.size + 1, 1, none⟩ = some (.int .i64 q.f) ∧ w'.cell? ⟨w.heap.size + 1, 2, none⟩ = some (.int .i64 q.t)) (first | exact ⟨c0, c1, c2, q0, q1, q2⟩ | exact ⟨d0, d1, d2, p0, p1, p2⟩ | exact ⟨f0, f1, f2, g0, g1, g2⟩)
    ((first
      | (go_at_call 49
         refine (order_any P B s n q.p _ hs hn (by omega)).mono ?_
         rintro e w2 ⟨Ao, co, rfl, hco, hown2, hb2⟩
         have hsz2 := HSZ.out
         have d0 := (hb2.cell (p := ⟨w.heap.size, 0, none⟩) (by simp only [World.size_drew]; omega)).trans c0
         have d1 := (hb2.cell (p := ⟨w.heap.size, 1, none⟩) (by simp only [World.size_drew]; omega)).trans c1
         have d2 := (hb2.cell (p := ⟨w.heap.size, 2, none⟩) (by simp only [World.size_drew]; omega)).trans c2
         have p0 := (hb2.cell (p := ⟨w.heap.size + 1, 0, none⟩) (by simp only [World.size_drew]; omega)).trans q0
         have p1 := (hb2.cell (p := ⟨w.heap.size + 1, 1, none⟩) (by simp only [World.size_drew]; omega)).trans q1
         have p2 := (hb2.cell (p := ⟨w.heap.size + 1, 2, none⟩) (by simp only [World.size_drew]; omega)).trans q2
         have HB2 := Lib.hid (HB.out.trans ((Qw.below (⟨1, rfl⟩ : Qw w1 w1.drew) _).trans (hb2.mono HB.out.size)))
         have HS2 : Hid (w1.heap.size ≤ w2.heap.size) := Lib.hid hb2.size
         have hro := Rd.own hown2
         obtain ⟨A2, hsl, hr2⟩ := slice_cut (P := Try.prog) (t := 53) (sz := 1) Try.underlying53 Try.sizeOf3 hro q.f q.t co (by omega) hqt hco
         have HR : Hid (Rd w2 w2.heap.size 1 A2 (q.t - q.f) ((placesL s n q).map (Value.int .i64))) := Lib.hid (by simpa [placesL, List.map_drop, List.map_take] using hr2)
         dsimp only [id]
         clear hr2 hro hown2 hb2 hsz2)
      | (go_at_call 53
         refine (Clone_int A2 (q.t - q.f) (co - q.f) (placesL s n q) _ (by omega) HR.out).mono ?_
         rintro e w3 ⟨A3, c3, rfl, hc3, hown3, hb3⟩
         have hsz3 : w.heap.size + 1 < w2.heap.size := by have := HSZ.out; have := HS2.out; omega
         have f0 := (hb3.cell (p := ⟨w.heap.size, 0, none⟩) (by simp only; omega)).trans d0
         have f1 := (hb3.cell (p := ⟨w.heap.size, 1, none⟩) (by simp only; omega)).trans d1
         have f2 := (hb3.cell (p := ⟨w.heap.size, 2, none⟩) (by simp only; omega)).trans d2
         have g0 := (hb3.cell (p := ⟨w.heap.size + 1, 0, none⟩) (by simp only; omega)).trans p0
         have g1 := (hb3.cell (p := ⟨w.heap.size + 1, 1, none⟩) (by simp only; omega)).trans p1
         have g2 := (hb3.cell (p := ⟨w.heap.size + 1, 2, none⟩) (by simp only; omega)).trans p2
         have HB3 := Lib.hid (HB2.out.trans (hb3.mono HB2.out.size))
         have HO3 := Lib.hid hown3
         clear hown3 hb3)))
  go_wp2_with fail
  go_ret2
  exact ⟨A3, c3, rfl, hc3, ownsRow_base HO3.out HB2.out.size, HB3.out⟩
end Go.Proofs.Ytoofnkkbebjldaa
/- Contracts of Reply, Ask, Bits, Flips, Failed of the cascades, for what is valid. Conditions: as each statement says. -/
namespace Go.Proofs.Ytoofnkkbebjldaa
open Go.RowKit
set_option linter.unusedVariables false
set_option maxRecDepth 100000 in
set_option maxHeartbeats 2000000 in
theorem Reply_ok (A : Option Addr) (c P B s n : Nat) (q : Qn) (b : List Bool) (w : World) (hP : 1 ≤ P) (hP6 : P ≤ 6) (hB : 1 ≤ B) (hB5 : B ≤ 512) (hs : s < two64) (hn : n ≤ 512) (hq : q.p < P) (hft : q.f < q.t) (hqt : q.t ≤ n) (h : Rd w w.heap.size 1 A n (b.map Value.bool)) :
    Calls Try.prog 21 #[casV P B s, .slice A n c, kq q] w fun e w' => e = .returned (.tuple #[.bool (parL b (placesL s n q)), .int .i64 0]) ∧ Below w.heap.size w w' := by
  obtain ⟨pv, hpv⟩ : ∃ pv, pv = parL b (placesL s n q) := ⟨_, rfl⟩
  rw [← hpv]
  have H := Lib.hid h; have HPV := Lib.hid hpv
  clear h hpv
  go_enter Try.func21, Try.ntmps21
  go_wp2_with fail
  refine (Places_ok P B s n q _ hP hP6 hB hB5 hs hn hq hft hqt).mono ?_
  rintro e w1 ⟨A1, c1, rfl, hc1, hown, hb⟩
  have B0 : Below w.heap.size w ((w.alloc (.cells (casC P B s) 24)).alloc (.cells #[.int .i64 q.p, .int .i64 q.f, .int .i64 q.t] 44)) := ((Below.refl _ _).alloc (Nat.le_refl _) _).alloc (by simp) _
  have B1 : Below w.heap.size w w1 := B0.trans (hb.mono (by simp; omega))
  have HB := Lib.hid B1
  have HR := Lib.hid (Rd.own hown)
  have hsz := hb.size
  clear hb hown B0 B1 hsz
  dsimp only [id]
  go_wp2_with fail
  refine (parity_any A A1 n c (q.t - q.f) c1 b (placesL s n q) _ _ (by omega) (by omega) ((H.out.below HB.out).mono HB.out.size) HR.out (fun x hx => placesL_mem hx)).mono ?_
  rintro e w2 ⟨rfl, rfl⟩
  rw [← HPV.out]
  go_wp2_with fail
  go_ret2
  exact ⟨rfl, HB.out⟩
theorem box3 {w : World} {H : Nat} {t : TypeId} {a b c : Value} (h : w.heap[H]? = some (.cells #[a, b, c] t (0, 0))) (x y z : Value) :
    (((w.setCell ⟨H, 0, none⟩ x).setCell ⟨H, 1, none⟩ y).setCell ⟨H, 2, none⟩ z).cell? ⟨H, 0, none⟩ = some x ∧ (((w.setCell ⟨H, 0, none⟩ x).setCell ⟨H, 1, none⟩ y).setCell ⟨H, 2, none⟩ z).cell? ⟨H, 1, none⟩ = some y ∧ (((w.setCell ⟨H, 0, none⟩ x).setCell ⟨H, 1, none⟩ y).setCell ⟨H, 2, none⟩ z).cell? ⟨H, 2, none⟩ = some z := by
  have h1 := blk_setR (o := 0) h x
  have h2 := blk_setR (o := 1) h1 y
  have h3 := blk_setR (o := 2) h2 z
  refine ⟨?_, ?_, ?_⟩ <;> (rw [cell_of_row _ _ _ _ _ _ h3]; rfl)
theorem boxq_cells (w : World) (q : Qn) (k : Nat) : (w.alloc (.cells #[.int .i64 q.p, .int .i64 q.f, .int .i64 q.t] 44)).cell? ⟨w.heap.size, k, none⟩ = (#[Value.int .i64 q.p, .int .i64 q.f, .int .i64 q.t] : Array Value)[k]? := by
  rw [cell_of_row _ _ _ _ _ _ (heap_alloc_new w _)]
set_option maxRecDepth 100000 in
set_option maxHeartbeats 2000000 in
theorem Ask_ok (L : Lay) (vt : Value) (S : Mst) (w : World) (hm : MAt w L vt S) :
    Calls Try.prog 34 #[ptrV L] w fun e w' => e = .returned (.tuple #[kq S.next, .bool S.opn, .int .i64 0]) ∧ Below w.heap.size w w' := by
  have HM := Lib.hid hm
  clear hm
  go_enter Try.func34, Try.ntmps34
  go_wp2_with fail
  refine (valid_m L vt S _ (HM.out.below ((Below.refl _ _).alloc (Nat.le_refl _) _))).mono ?_
  rintro e w' ⟨rfl, rfl⟩
  obtain ⟨w1, hw1⟩ : ∃ z, z = w.alloc (.cells #[.int .i64 0, .int .i64 0, .int .i64 0] 44) := ⟨_, rfl⟩
  have hb1 : Below w.heap.size w w1 := by rw [hw1]; exact (Below.refl _ _).alloc (Nat.le_refl _) _
  have hm1 := HM.out.below hb1
  have hbk : w1.heap[w.heap.size]? = some (.cells #[.int .i64 0, .int .i64 0, .int .i64 0] 44 (0, 0)) := by rw [hw1]; exact heap_alloc_new w _
  have q0 : w1.cell? ⟨w.heap.size, 0, none⟩ = some (.int .i64 0) := by rw [cell_of_row _ _ _ _ _ _ hbk]; rfl
  have q1 : w1.cell? ⟨w.heap.size, 1, none⟩ = some (.int .i64 0) := by rw [cell_of_row _ _ _ _ _ _ hbk]; rfl
  have q2 : w1.cell? ⟨w.heap.size, 2, none⟩ = some (.int .i64 0) := by rw [cell_of_row _ _ _ _ _ _ hbk]; rfl
  have fz : ∀ o, w1.frozen? ⟨w.heap.size, o, none⟩ = false := fun o => by simp [World.frozen?, hbk]
  have c18 : w1.cell? ⟨L.p, 18, none⟩ = some (.int .i64 S.next.p) := hm1.cell 18
  have c19 : w1.cell? ⟨L.p, 19, none⟩ = some (.int .i64 S.next.f) := hm1.cell 19
  have c20 : w1.cell? ⟨L.p, 20, none⟩ = some (.int .i64 S.next.t) := hm1.cell 20
  have c21 : w1.cell? ⟨L.p, 21, none⟩ = some (.bool S.opn) := hm1.cell 21
  have HW := Lib.hid hw1; have HB := Lib.hid hb1; have HBK := Lib.hid hbk
  clear hw1 hb1 hm1 hbk
  go_wp2_with fail
  rw [← HW.out]
  have hne : L.p ≠ w.heap.size := by have := HM.out.lt; omega
  have hset : ∀ (w' : World) (o k : Nat) (u : Value), (w'.setCell ⟨w.heap.size, o, none⟩ u).cell? ⟨L.p, k, none⟩ = w'.cell? ⟨L.p, k, none⟩ := fun w' o k u => World.cell?_setCell_other w' _ _ _ (fun e => by have := congrArg Addr.block e; simp only at this; omega)
  go_region_held3 (fun w' => w'.cell? ⟨L.p, 18, none⟩ = some (.int .i64 S.next.p) ∧ w'.cell? ⟨L.p, 19, none⟩ = some (.int .i64 S.next.f) ∧ w'.cell? ⟨L.p, 20, none⟩ = some (.int .i64 S.next.t) ∧ w'.cell? ⟨L.p, 21, none⟩ = some (.bool S.opn)) (first | exact ⟨c18, c19, c20, c21⟩ | (simp only [World.cell?_drew, hset]; exact ⟨c18, c19, c20, c21⟩)) (fail)
  all_goals
    go_wp2_with fail
    obtain ⟨k0, k1, k2⟩ := box3 HBK.out (.int .i64 S.next.p) (.int .i64 S.next.f) (.int .i64 S.next.t)
    refine bodyPost_ret (v := .tuple #[kq S.next, .bool S.opn, .int .i64 0]) (by simp [results, Try.results34, go_sem, k0, k1, k2]) rfl ⟨rfl, ?_⟩
    exact (((HB.out.setCell (Nat.le_refl _) _).setCell (Nat.le_refl _) _).setCell (Nat.le_refl _) _).trans (Qw.below (⟨1, rfl⟩ : Qw _ (World.drew _)) _)
set_option maxHeartbeats 1000000 in
theorem Flips_ok (L : Lay) (vt : Value) (S : Mst) (w : World) (hm : MAt w L vt S) :
    Calls Try.prog 36 #[ptrV L] w fun e w' => e = .returned (.int .i64 S.flips) ∧ w = w' := by
  have c9 : w.cell? ⟨L.p, 9, none⟩ = some (.int .i64 S.flips) := hm.cell 9
  have HM := Lib.hid hm
  clear hm
  go_enter Try.func36, Try.ntmps36
  go_wp2_with fail
  refine (valid_m L vt S _ HM.out).mono ?_
  rintro e w' ⟨rfl, rfl⟩
  go_wp2_with fail
  go_ret
  exact ⟨rfl, rfl⟩
set_option maxHeartbeats 1000000 in
theorem Failed_ok (L : Lay) (vt : Value) (S : Mst) (w : World) (hm : MAt w L vt S) :
    Calls Try.prog 38 #[ptrV L] w fun e w' => e = .returned (.bool S.failed) ∧ w = w' := by
  have c10 : w.cell? ⟨L.p, 10, none⟩ = some (.bool S.failed) := hm.cell 10
  have HM := Lib.hid hm
  clear hm
  go_enter Try.func38, Try.ntmps38
  go_wp2_with fail
  refine (valid_m L vt S _ HM.out).mono ?_
  rintro e w' ⟨rfl, rfl⟩
  go_wp2_with fail
  go_ret
  exact ⟨rfl, rfl⟩
set_option maxHeartbeats 1000000 in
theorem Bits_ok (L : Lay) (vt : Value) (S : Mst) (w : World) (hm : MAt w L vt S) :
    Calls Try.prog 35 #[ptrV L] w fun e w' => ∃ A c, e = .returned (.slice A L.n c) ∧ L.n ≤ c ∧ w'.ownsRow w.heap.size 4 1 (.slice A L.n c) L.n (S.b.map Value.bool) ∧ Below w.heap.size w w' := by
  have c6 : w.cell? ⟨L.p, 6, none⟩ = some (.slice L.Ab L.n L.cbt) := hm.cell 6
  have hn := hm.st.hn
  have HM := Lib.hid hm
  clear hm
  go_enter Try.func35, Try.ntmps35
  go_wp2_with fail
  refine (valid_m L vt S _ HM.out).mono ?_
  rintro e w' ⟨rfl, rfl⟩
  go_wp2_with fail
  refine (Clone_bool L.Ab L.n L.cbt S.b _ (by omega) (Rd.own HM.out.bits)).mono ?_
  rintro e w1 ⟨A, c, rfl, hc, hown, hb⟩
  have HO := Lib.hid hown; have HB := Lib.hid hb
  clear hown hb
  go_wp2_with fail
  go_ret
  exact ⟨A, c, rfl, hc, HO.out, HB.out⟩
end Go.Proofs.Ytoofnkkbebjldaa
/- Contracts of the document's Check, lengths, order, blocks, parity of the cascades. Conditions: as each statement says. -/
namespace Go.Proofs.Ytoofnkkbebjldaa
open Go.RowKit
set_option linter.unusedVariables false
theorem elB_i5 : ElemB Try.prog 53 3 1 8 := ElemB.of Try.underlying53 info_int rfl (by decide)
set_option maxHeartbeats 800000 in
theorem refCheck_any (P B : Int) (s : Nat) (w : World) :
    Calls Try.prog 25 #[casV P B s] w fun e w' => e = .returned (.int .i64 (checkE P B)) ∧ w.alloc (.cells (casC P B s) 24) = w' := by
  by_cases h1 : P < 1
  · have HE : Hid (checkE P B = 2) := Lib.hid (by unfold checkE; rw [if_pos (.inl h1)])
    go_enter Try.func25, Try.ntmps25
    go_wp2_with fail
    go_ret
    exact ⟨by rw [HE.out]; rfl, rfl⟩
  · by_cases h2 : 6 < P
    · have HE : Hid (checkE P B = 2) := Lib.hid (by unfold checkE; rw [if_pos (by omega)])
      go_enter Try.func25, Try.ntmps25
      go_wp2_with fail
      go_ret
      exact ⟨by rw [HE.out]; rfl, rfl⟩
    · by_cases h3 : B < 1
      · have HE : Hid (checkE P B = 2) := Lib.hid (by unfold checkE; rw [if_pos (by omega)])
        go_enter Try.func25, Try.ntmps25
        go_wp2_with fail
        go_ret
        exact ⟨by rw [HE.out]; rfl, rfl⟩
      · by_cases h4 : 512 < B
        · have HE : Hid (checkE P B = 2) := Lib.hid (by unfold checkE; rw [if_pos (by omega)])
          go_enter Try.func25, Try.ntmps25
          go_wp2_with fail
          go_ret
          exact ⟨by rw [HE.out]; rfl, rfl⟩
        · have HE : Hid (checkE P B = 0) := Lib.hid (by unfold checkE; rw [if_neg (by omega)])
          go_enter Try.func25, Try.ntmps25
          go_wp2_with fail
          go_ret
          exact ⟨by rw [HE.out]; rfl, rfl⟩
theorem refCheck_ex (P B : Int) (s : Nat) (w : World) :
    Calls Try.prog 25 #[casV P B s] w fun e w' => (∃ E, E = checkE P B ∧ e = .returned (.int .i64 E)) ∧ w'.heap.size = w.heap.size + 1 ∧ Below w.heap.size w w' :=
  (refCheck_any P B s w).mono fun e w' ⟨he, hw⟩ => ⟨⟨_, rfl, he⟩, by subst hw; simp, by subst hw; exact (Below.refl _ _).alloc (Nat.le_refl _) _⟩
set_option maxHeartbeats 800000 in
theorem reflengths_any (P B : Int) (s : Nat) (n : Int) (w : World) :
    Calls Try.prog 50 #[casV P B s, .int .i64 n] w fun e w' => e = .returned (.int .i64 (saneE P B n)) ∧ Below w.heap.size w w' := by
  go_enter Try.func50, Try.ntmps50
  go_wp2_with fail
  refine (refCheck_ex _ _ _ _).mono ?_
  rintro e w1 ⟨⟨E, hE, rfl⟩, hs1, hb1⟩
  have B1 : Below w.heap.size w w1 := ((Below.refl _ _).alloc (Nat.le_refl _) _).trans (hb1.mono (by simp))
  clear hb1 hs1
  by_cases h0 : E = 0
  · subst h0
    by_cases h1 : 512 < n
    · have HE : Hid (saneE P B n = 4) := Lib.hid (by unfold saneE; rw [← hE, if_neg (by simp), if_pos h1])
      clear hE
      go_wp2_with fail
      go_ret
      exact ⟨by rw [HE.out]; rfl, B1⟩
    · by_cases h2 : n < 0
      · have HE : Hid (saneE P B n = 3) := Lib.hid (by unfold saneE; rw [← hE, if_neg (by simp), if_neg h1, if_pos h2])
        clear hE
        go_wp2_with fail
        go_ret
        exact ⟨by rw [HE.out]; rfl, B1⟩
      · have HE : Hid (saneE P B n = 0) := Lib.hid (by unfold saneE; rw [← hE, if_neg (by simp), if_neg h1, if_neg h2])
        clear hE
        go_wp2_with fail
        go_ret
        exact ⟨by rw [HE.out]; rfl, B1⟩
  · have hne : (E != 0) = true := by simpa using h0
    have HE : Hid (saneE P B n = 2) := Lib.hid (by unfold saneE; rw [← hE, if_pos h0])
    clear hE h0
    go_wp2_with fail
    go_ret
    exact ⟨by rw [HE.out]; rfl, B1⟩
set_option maxHeartbeats 800000 in
theorem refparity_any (A A' : Option Addr) (n c m c' : Nat) (b : List Bool) (l : List Int) (w : World) (B : Nat) (hn : n ≤ 1073741824) (hm : m ≤ 1073741824) (h : Rd w B 1 A n (b.map Value.bool)) (h' : Rd w B 1 A' m (l.map (Value.int .i64))) (hl : ∀ x ∈ l, 0 ≤ x ∧ x < n) :
    Calls Try.prog 54 #[.slice A n c, .slice A' m c'] w fun e w' => e = .returned (.bool (parL b l)) ∧ w = w' := by
  have hbl : b.length = n := by have := h.1; simpa using this
  have hll : l.length = m := by have := h'.1; simpa using this
  have H := Lib.hid h; have H' := Lib.hid h'; have HB := Lib.hid hbl; have HLL := Lib.hid hll; have HL := Lib.hid hl
  clear h h' hbl hll hl
  go_enter Try.func54, Try.ntmps54
  go_wp2_with fail
  go_loop [5, 6] (fun o i => ∃ (k : Nat) (v : Bool), k ≤ m ∧ i = .int .i64 k ∧ o = .bool v ∧ v = parL b (l.take k)) (fun _ i => m - (intOf i).toNat)
  case atStart => exact ⟨0, false, Nat.zero_le _, rfl, rfl, rfl⟩
  case round =>
    obtain ⟨k, v, hk, rfl, rfl, hv⟩ := hrel
    have HV := Lib.hid hv
    clear hv
    by_cases hlt : k < m
    · have hlt' : (k : Int) < (m : Int) := by omega
      have hkl : k < l.length := by rw [HLL.out]; exact hlt
      obtain ⟨g', off', rfl, hg', hc'⟩ := H'.out.2 (by omega)
      have c0 : w.cell? ⟨g', off' + k, none⟩ = some (.int .i64 l[k]) := hc' k _ (by simp [hkl])
      have hx := HL.out _ (List.getElem_mem hkl)
      have HS : Hid (parL b (l.take (k + 1)) = (parL b (l.take k) != b.getD (l[k]).toNat false)) := Lib.hid (by rw [take_snoc _ _ hkl, parL_snoc])
      generalize l[k] = x at c0 hx HS
      obtain ⟨q, rfl⟩ := Int.eq_ofNat_of_zero_le hx.1
      have hqn : q < n := by omega
      obtain ⟨g, off, rfl, hg, hc⟩ := H.out.2 (by omega)
      have hqb : q < b.length := by rw [HB.out]; exact hqn
      have c1 : w.cell? ⟨g, off + q, none⟩ = some (.bool b[q]) := hc q _ (by simp [hqb])
      have HQ : Hid (b.getD ((q : Nat) : Int).toNat false = b[q]) := Lib.hid (by simp [hqb])
      generalize b[q] = y at c1 HQ
      have hqn' : (q : Int) < (n : Int) := by omega
      clear hc hc' hkl hqb hx
      go_wp2_with fail
      go_round
      case rel => exact ⟨k + 1, v != y, hlt, by go_num, rfl, by rw [HS.out, HQ.out, ← HV.out]⟩
      case measure => simp [intOf]; omega
    · have hlt' : ¬ (k : Int) < (m : Int) := by omega
      go_wp2_with fail
      go_ret
      have hv := HV.out
      rw [List.take_of_length_le (by rw [HLL.out]; omega)] at hv
      exact ⟨by rw [hv]; rfl, rfl⟩
set_option maxHeartbeats 800000 in
theorem refNewD_any (s : Nat) (w : World) :
    Calls Try.prog 69 #[.int .u64 s] w fun e w' => e = .returned (.pointer (some ⟨w.heap.size, 0, none⟩)) ∧ w.alloc (.cells #[.int .u64 s] 127) = w' := by
  go_enter Try.func69, Try.ntmps69
  go_wp2_with fail
  go_ret
  exact ⟨rfl, rfl⟩
set_option maxHeartbeats 800000 in
theorem refPermD_any (H s n : Nat) (w : World) (hs : s < two64) (hn : n ≤ 65536) (hb : w.heap[H]? = some (.cells #[.int .u64 s] 127 (0, 0))) :
    Calls Try.prog 70 #[.pointer (some ⟨H, 0, none⟩), .int .i64 n] w fun e w' => ∃ A c, e = .returned (.tuple #[.slice A n c, .int .i64 0]) ∧ n ≤ c ∧ w'.ownsRow w.heap.size 3 1 (.slice A n c) n ((permL s n).map (Value.int .i64)) ∧ Below H w w' ∧ w.heap.size ≤ w'.heap.size := by
  have c0 : w.cell? ⟨H, 0, none⟩ = some (.int .u64 s) := by rw [cell_of_row _ _ _ _ _ _ hb]; rfl
  have hlt := (Array.getElem?_eq_some_iff.1 hb).1
  have j1 : ¬ ((n : Int) < 0) := by omega
  have j2 : ¬ ((65536 : Int) < (n : Int)) := by omega
  have HB := Lib.hid hb
  clear hb
  go_enter Try.func70, Try.ntmps70
  go_wp2_with fail
  refine (refPerm_any s n _ hs hn).mono ?_
  rintro e w1 ⟨A, c, rfl, hc, hown, hb1⟩
  dsimp only
  have c1 : w1.heap[H]? = some (.cells #[.int .u64 s] 127 (0, 0)) := (hb1.block _ hlt).trans HB.out
  have d0 : w1.cell? ⟨H, 0, none⟩ = some (.int .u64 s) := by rw [cell_of_row _ _ _ _ _ _ c1]; rfl
  have f0 : w1.frozen? ⟨H, 0, none⟩ = false := by simp [World.frozen?, c1]
  generalize permS s n = S
  have HO := Lib.hid hown; have HB1 := Lib.hid hb1
  clear hown hb1 c1
  go_wp2_with fail
  go_ret2
  refine ⟨A, c, rfl, hc, ?_, ?_, ?_⟩
  · refine ownsRow_setCell_other HO.out ?_ _
    intro e
    have := (HO.out.lt H e).1
    omega
  · exact (HB1.out.mono (Nat.le_of_lt hlt)).setCell (p := ⟨H, 0, none⟩) (Nat.le_refl _) _
  · rw [size_setCell]; exact HB1.out.size
set_option maxHeartbeats 800000 in
theorem reforder_any (P B : Int) (s n p : Nat) (w : World) (hs : s < two64) (hn : n ≤ 512) (hp : p ≤ 64) :
    Calls Try.prog 51 #[casV P B s, .int .i64 n, .int .i64 p] w (RetOwn w 3 1 n ((orderL s n p).map (Value.int .i64)) id) := by
  by_cases h0 : p = 0
  · subst h0
    go_enter Try.func51, Try.ntmps51
    go_wp2_with fail
    go_loopw [9, 10] (fun v i wr => ∃ k : Nat, k ≤ n ∧ i = .int .i64 k ∧ Below w.heap.size w wr ∧ wr.ownsRow w.heap.size 3 1 v k ((idL k).map (Value.int .i64))) (fun _ i _ => n - (intOf i).toNat)
    case atStart => exact ⟨0, Nat.zero_le _, rfl, (Below.refl _ _).alloc (Nat.le_refl _) _, World.ownsRow_nil _ _ _ _⟩
    case round =>
      obtain ⟨k, hk, rfl, hbw, hown⟩ := hrel
      have hsz := hbw.size
      by_cases hlt2 : k < n
      · have hki : (k : Int) < (n : Int) := by omega
        go_wp2_with (at_builtin; refine wpList_push elB_i5 (.tmp 30) (.tmp 32) rfl rfl w.heap.size k _ rfl hown rfl rfl (by intro u hu; simp at hu; subst hu; rfl) (by omega) (by decide) (by omega) ?_; intro v4 w4 hown4 hb4 _)
        go_roundw
        case rel => exact ⟨k + 1, by omega, by go_num, hbw.trans hb4, by rw [idL_snoc, List.map_append]; exact hown4⟩
        case measure => simp [intOf]; omega
      · obtain rfl : k = n := by omega
        have hki : ¬ (k : Int) < (k : Int) := by omega
        have HW := Lib.hid hown; have HB := Lib.hid hbw; clear hown hbw
        go_wp2_with fail
        go_ret
        exact RetOwn.of (mk := id) (by have e : orderL s k 0 = idL k := rfl
                                       rw [e]; exact HW.out) HB.out
  · have h1 : (0 : Int) < (p : Int) := by omega
    have HO : Hid (orderL s n p = permL ((s + p) % two64) n) := Lib.hid (by unfold orderL; rw [if_neg h0])
    have hw1 : IntKind.u64.wrap (p : Int) = (p : Int) := by rw [IntKind.wrap_u64]; omega
    have hw2 : IntKind.u64.wrap ((s : Int) + (p : Int)) = (((s + p) % two64 : Nat) : Int) := by rw [IntKind.wrap_u64]; unfold two64; omega
    have hs3 : (s + p) % two64 < two64 := Nat.mod_lt _ (by decide)
    clear h0
    generalize (s + p) % two64 = s2 at HO hw2 hs3
    go_enter Try.func51, Try.ntmps51
    go_wp2_with fail
    refine (refNewD_any s2 _).mono ?_
    rintro e w1 ⟨rfl, hw⟩
    have hbk : w1.heap[w.heap.size + 1]? = some (.cells #[.int .u64 s2] 127 (0, 0)) := by
      rw [← hw]
      have := heap_alloc_new (w.alloc (.cells (casC P B s) 24)) (.cells #[.int .u64 s2] 127)
      simpa using this
    have hb1 : Below w.heap.size w w1 := by rw [← hw]; exact ((Below.refl _ _).alloc (Nat.le_refl _) _).alloc (by simp) _
    have hs1 : w1.heap.size = w.heap.size + 2 := by rw [← hw]; simp
    clear hw
    have HD := Lib.hid hbk; have HS1 := Lib.hid hs1
    clear hbk hs1
    go_wp2_with fail
    refine (refPermD_any (w.heap.size + 1) s2 n _ hs3 (by omega) HD.out).mono ?_
    rintro e w2 ⟨A, c, rfl, hc, ho, hu, hsz2⟩
    have hsz := HS1.out
    have ho2 := ownsRow_mono ho (show w.heap.size ≤ w1.heap.size by omega)
    have hb2 := hb1.trans (hu.mono (show w.heap.size ≤ w.heap.size + 1 by omega))
    clear ho hu hsz
    have HO2 := Lib.hid ho2
    clear ho2
    go_wp2_with fail
    go_ret
    rw [HO.out]
    exact ⟨A, c, rfl, hc, HO2.out, hb2⟩
/-- The size of the blocks of a pass, by doubling. -/
theorem sizeP_succ (B p : Nat) : sizeP B (p + 1) = min (2 * sizeP B p) 512 := by
  unfold sizeP
  rw [Nat.pow_succ]
  generalize hx : B * 2 ^ p = X
  rw [← Nat.mul_assoc, hx]
  omega
theorem sizeP_zero {B : Nat} (h : B ≤ 512) : sizeP B 0 = B := by unfold sizeP; omega
set_option maxHeartbeats 800000 in
theorem refblocks_any (P : Int) (B s n p : Nat) (w : World) (hB : 1 ≤ B) (hB2 : B ≤ 512) (hn : n ≤ 512) (hp : p ≤ 6) :
    Calls Try.prog 52 #[casV P B s, .int .i64 n, .int .i64 p] w (RetOwn w 44 3 (cutN n (sizeP B p)) (qCells (cutL B n p)) id) := by
  go_enter Try.func52, Try.ntmps52
  go_wp2_with fail
  go_loopw [7, 8] (fun v i wr => ∃ k : Nat, k ≤ p ∧ i = .int .i64 k ∧ v = .int .i64 (sizeP B k) ∧ w.alloc (.cells (casC P B s) 24) = wr) (fun _ i _ => p - (intOf i).toNat)
  case atStart => exact ⟨0, Nat.zero_le _, rfl, by rw [sizeP_zero hB2], by first | trivial | rfl⟩
  case round =>
    obtain ⟨k, hk, rfl, rfl, rfl⟩ := hrel
    have hS1 : 1 ≤ sizeP B k := sizeP_pos hB k
    have hS2 : sizeP B k ≤ 512 := by unfold sizeP; omega
    by_cases hlt : k < p
    · have hki : (k : Int) < (p : Int) := by omega
      have HS := Lib.hid (sizeP_succ B k)
      generalize sizeP B k = S at hS1 hS2 HS
      go_wp2_with fail
      go_roundw
      case rel => exact ⟨k + 1, hlt, by go_num, by rw [HS.out]; go_num, by first | trivial | rfl⟩
      case measure => simp [intOf]; omega
    · obtain rfl : k = p := by omega
      have hki : ¬ (k : Int) < (k : Int) := by omega
      obtain ⟨S, hS⟩ : ∃ S, S = sizeP B k := ⟨_, rfl⟩
      rw [← hS] at hS1 hS2 ⊢
      have HSE := Lib.hid hS
      clear hS hlt
      go_wp2_with fail
      go_loopw [9, 10] (fun vo v wr => ∃ (j f : Nat), f = j * S ∧ f ≤ 1024 ∧ j ≤ cutN n S ∧ v = .int .i64 f ∧ wr.ownsRow w.heap.size 44 3 vo j (qCells (cutK n S k j)) ∧ Below w.heap.size w wr) (fun _ v _ => n - (intOf v).toNat)
      case atStart => exact ⟨0, 0, by simp, by omega, Nat.zero_le _, rfl, World.ownsRow_nil _ _ _ _, (Below.refl _ _).alloc (Nat.le_refl _) _⟩
      case round =>
        obtain ⟨j, f, hf, hf2, hj, rfl, hown, hbw⟩ := hrel
        have HF := Lib.hid hf; have HO := Lib.hid hown
        have hsz := hbw.size
        have hkn := cutN_le (n := n) hS1
        clear hf hown
        by_cases hlt : f < n
        · have hlt' : (f : Int) < (n : Int) := by omega
          have hk2 : j < cutN n S := (cutN_lt hS1).1 (by rw [← HF.out]; exact hlt)
          have hm2 : min ((f : Int) + (S : Int)) (n : Int) = ((min (f + S) n : Nat) : Int) := by omega
          have HC : Hid (qCells (cutK n S k (j + 1)) = qCells (cutK n S k j) ++ [.int .i64 k, .int .i64 f, .int .i64 (min (f + S) n : Nat)]) := Lib.hid (by rw [cutK_snoc, qCells_snoc, HF.out])
          generalize min (f + S) n = t at hm2 HC
          have hS3 : (S : Int) ≤ 512 := by omega
          have hf3 : (f : Int) ≤ 1024 := by omega
          go_wp2_with (at_builtin; refine wpList_push elB_q (.tmp 27) (.tmp 36) rfl rfl w.heap.size j _ rfl HO.out rfl rfl (by intro u hu; simp at hu; rcases hu with rfl | rfl | rfl <;> rfl) (by omega) (by decide) (by omega) ?_; intro v4 w4 hown4 hb4 _)
          go_roundw
          case rel => exact ⟨j + 1, f + S, by rw [HF.out, Nat.add_mul, Nat.one_mul], by omega, hk2, by go_num, by rw [HC.out]; simpa using hown4, hbw.trans hb4⟩
          case measure => simp [intOf]; omega
        · have hlt' : ¬ (f : Int) < (n : Int) := by omega
          have hk2 : ¬ j < cutN n S := fun h => hlt (by rw [HF.out]; exact (cutN_lt hS1).2 h)
          obtain rfl : j = cutN n S := by omega
          go_wp2_with fail
          go_ret
          have ho := HO.out
          have e : cutK n S k (cutN n S) = cutL B n k := by unfold cutL; rw [← HSE.out]
          rw [e, HSE.out] at ho
          exact RetOwn.of (mk := id) ho hbw
set_option maxHeartbeats 1000000 in
theorem Ints_eq (A A' : Option Addr) (n c c' : Nat) (xs : List Int) (w : World) (hn : n ≤ 1073741824) (h : Rd w w.heap.size 1 A n (xs.map (Value.int .i64))) (h' : Rd w w.heap.size 1 A' n (xs.map (Value.int .i64))) :
    Calls Try.prog 28 #[.slice A n c, .slice A' n c'] w fun e w' => e = .returned (.bool true) ∧ Qw w w' := by
  have hl : xs.length = n := by have := h.1; simpa using this
  have H := Lib.hid h; have H' := Lib.hid h'; have HL := Lib.hid hl; clear h h' hl
  have hne : ((n : Int) != (n : Int)) = false := by simp
  go_enter Try.func28, Try.ntmps28
  go_wp2_with fail
  go_loopw [5] (fun i wr => ∃ k : Nat, k ≤ n ∧ i = .int .i64 k ∧ Qw w wr) (fun i _ => n - (intOf i).toNat)
  case atStart => exact ⟨0, Nat.zero_le _, rfl, Qw.refl _⟩
  case round =>
    obtain ⟨k, hk, rfl, hq⟩ := hrel
    by_cases hlt : k < n
    · have hki : (k : Int) < (n : Int) := by omega
      obtain ⟨b, off, rfl, hb, hc⟩ := H.out.2 (by omega)
      obtain ⟨b', off', rfl, hb', hc'⟩ := H'.out.2 (by omega)
      have hlk : k < xs.length := by rw [HL.out]; exact hlt
      have h1 : wr.cell? ⟨b, off + k, none⟩ = some (.int .i64 xs[k]) := (hq.cell _).trans (hc k _ (by simp [hlk]))
      have h2 : wr.cell? ⟨b', off' + k, none⟩ = some (.int .i64 xs[k]) := (hq.cell _).trans (hc' k _ (by simp [hlk]))
      generalize xs[k] = x at h1 h2
      have HQ := Lib.hid hq
      clear hc hc' hlk hq
      go_wp2_with fail
      go_quiet (fail)
      go_wp2_with fail
      go_roundw
      case rel => exact ⟨k + 1, by omega, by go_num, HQ.out.drewN _⟩
      case measure => simp [intOf]; omega
    · have hki : ¬ (k : Int) < (n : Int) := by omega
      go_wp2_with fail
      go_ret
      exact ⟨rfl, hq⟩
end Go.Proofs.Ytoofnkkbebjldaa
/- Contracts of Order, Blocks, Places, Reply of the cascades, the program's and the document's, at any arguments. Conditions: as each statement says. -/
namespace Go.Proofs.Ytoofnkkbebjldaa
open Go.RowKit
set_option linter.unusedVariables false
theorem reflengths_ok (P B s n : Nat) (w : World) (hP : 1 ≤ P) (hP6 : P ≤ 6) (hB : 1 ≤ B) (hB5 : B ≤ 512) (hn : n ≤ 512) :
    Calls Try.prog 50 #[casV P B s, .int .i64 n] w fun e w' => e = .returned (.int .i64 0) ∧ Below w.heap.size w w' :=
  (reflengths_any P B s n w).mono fun e w' ⟨he, hb⟩ => ⟨by rw [he, saneE_ok.2 ⟨by omega, by omega, by omega, by omega, by omega, by omega⟩], hb⟩
/-- A call that returns a slice and an error. -/
def Two (E : Int) (sz len : Nat) (xs : List Value) (w : World) (e : Ending) (w' : World) : Prop :=
  ∃ A c, e = .returned (.tuple #[.slice A len c, .int .i64 E]) ∧ len ≤ c ∧ Rd w' w'.heap.size sz A len xs ∧ Below w.heap.size w w'
theorem Two.none {E : Int} {sz : Nat} {w w' : World} (hb : Below w.heap.size w w') : Two E sz 0 [] w (.returned (.tuple #[.slice none 0 0, .int .i64 E])) w' := ⟨_, _, rfl, Nat.le_refl _, Rd.nil _ _ _ _, hb⟩
theorem Two.own {t sz n : Nat} {xs : List Value} {w : World} {e : Ending} {w' : World} (h : RetOwn w t sz n xs (fun v => .tuple #[v, .int .i64 0]) e w') : Two 0 sz n xs w e w' := by
  obtain ⟨A, c, he, hc, ho, hb⟩ := h
  exact ⟨A, c, he, hc, Rd.own ho, hb⟩
/-- The error of a pass. -/
def passE (P B n p : Int) : Int := if saneE P B n ≠ 0 then saneE P B n else if p < 0 ∨ P ≤ p then 3 else 0
def orderX (P B : Int) (s : Nat) (n p : Int) : List Int := if passE P B n p = 0 then orderL s n.toNat p.toNat else []
def blocksX (P B n p : Int) : List Qn := if passE P B n p = 0 then cutL B.toNat n.toNat p.toNat else []
/-- The error of a question. -/
def placeE (P B n qp qf qt : Int) : Int := if saneE P B n ≠ 0 then saneE P B n else if qp < 0 ∨ P ≤ qp ∨ qf < 0 ∨ qt ≤ qf ∨ n < qt then 3 else 0
def placesX (P B : Int) (s : Nat) (n qp qf qt : Int) : List Int := if placeE P B n qp qf qt = 0 then placesL s n.toNat ⟨qp.toNat, qf.toNat, qt.toNat⟩ else []
theorem passE_bad {P B n p : Int} (h : saneE P B n ≠ 0) : passE P B n p = saneE P B n := by unfold passE; rw [if_pos h]
theorem passE_three {P B n p : Int} (h : saneE P B n = 0) (hp : p < 0 ∨ P ≤ p) : passE P B n p = 3 := by unfold passE; rw [if_neg (by simp [h]), if_pos hp]
theorem passE_ok {P B n p : Int} (h : saneE P B n = 0) (hp : ¬ (p < 0 ∨ P ≤ p)) : passE P B n p = 0 := by unfold passE; rw [if_neg (by simp [h]), if_neg hp]
theorem placeE_bad {P B n qp qf qt : Int} (h : saneE P B n ≠ 0) : placeE P B n qp qf qt = saneE P B n := by unfold placeE; rw [if_pos h]
theorem placeE_three {P B n qp qf qt : Int} (h : saneE P B n = 0) (hp : qp < 0 ∨ P ≤ qp ∨ qf < 0 ∨ qt ≤ qf ∨ n < qt) : placeE P B n qp qf qt = 3 := by unfold placeE; rw [if_neg (by simp [h]), if_pos hp]
theorem placeE_ok {P B n qp qf qt : Int} (h : saneE P B n = 0) (hp : ¬ (qp < 0 ∨ P ≤ qp ∨ qf < 0 ∨ qt ≤ qf ∨ n < qt)) : placeE P B n qp qf qt = 0 := by unfold placeE; rw [if_neg (by simp [h]), if_neg hp]
set_option maxHeartbeats 1000000 in
theorem Order_two (P B : Int) (s : Nat) (n p : Int) (w : World) (hs : s < two64) :
    Calls Try.prog 26 #[casV P B s, .int .i64 n, .int .i64 p] w (Two (passE P B n p) 1 (orderX P B s n p).length ((orderX P B s n p).map (Value.int .i64)) w) := by
  by_cases h0 : saneE P B n = 0
  · obtain ⟨h1, h2, h3, h4, h5, h6⟩ := saneE_ok.1 h0
    obtain ⟨n, rfl⟩ := Int.eq_ofNat_of_zero_le h5
    obtain ⟨P, rfl⟩ := Int.eq_ofNat_of_zero_le (a := P) (by omega)
    obtain ⟨B, rfl⟩ := Int.eq_ofNat_of_zero_le (a := B) (by omega)
    by_cases hp : (p : Int) < 0 ∨ P ≤ p
    · have hE := passE_three h0 hp
      have hX : orderX (P : Int) B s n p = [] := by unfold orderX; rw [if_neg (by rw [hE]; decide)]
      rw [hE, hX]
      clear hE hX
      go_enter Try.func26, Try.ntmps26
      go_wp2_with fail
      refine (sane_ok P B s n _ (by omega) (by omega) (by omega) (by omega) (by omega)).mono ?_
      rintro e w1 ⟨rfl, hb1⟩
      have hpl := (PlanAt.new w P B s).below hb1 (Nat.le_refl _)
      have B1 : Below w.heap.size w w1 := ((Below.refl _ _).alloc (Nat.le_refl _) _).trans (hb1.mono (by simp))
      have c0 := hpl.c0
      have HB := Lib.hid B1
      clear hb1 B1 hpl h0
      by_cases hp0 : p < 0
      · clear hp
        go_wp2_with fail
        go_ret2
        exact Two.none HB.out
      · have hp1 : (P : Int) ≤ p := by omega
        clear hp
        go_wp2_with fail
        go_ret2
        exact Two.none HB.out
    · have hE := passE_ok h0 hp
      have hX : orderX (P : Int) B s n p = orderL s (n : Int).toNat p.toNat := by unfold orderX; rw [if_pos hE]
      obtain ⟨p, rfl⟩ := Int.eq_ofNat_of_zero_le (a := p) (by omega)
      rw [hE, hX]
      simp only [Int.toNat_natCast]
      have j1 : ¬ ((p : Int) < 0) := by omega
      have j2 : ¬ ((P : Int) ≤ (p : Int)) := by omega
      clear hE hX hp
      go_enter Try.func26, Try.ntmps26
      go_wp2_with fail
      refine (sane_ok P B s n _ (by omega) (by omega) (by omega) (by omega) (by omega)).mono ?_
      rintro e w1 ⟨rfl, hb1⟩
      have hpl := (PlanAt.new w P B s).below hb1 (Nat.le_refl _)
      have B1 : Below w.heap.size w w1 := ((Below.refl _ _).alloc (Nat.le_refl _) _).trans (hb1.mono (by simp))
      have c0 := hpl.c0; have c1 := hpl.c1; have c2 := hpl.c2
      have HB := Lib.hid B1
      clear hb1 B1 hpl h0
      go_wp2_with fail
      refine (order_any P B s n p _ hs (by omega) (by omega)).mono ?_
      rintro e w2 ⟨A, c, rfl, hc, hown, hb2⟩
      have HO := Lib.hid (ownsRow_base hown HB.out.size); have HB2 := Lib.hid (HB.out.trans (hb2.mono HB.out.size))
      clear hown hb2
      dsimp only [id]
      go_wp2_with fail
      go_ret2
      have e : n = (orderL s n p).length := (orderL_len _ _ _).symm
      have ho := HO.out
      rw [orderL_len]
      exact Two.own (RetOwn.of (mk := fun v => .tuple #[v, .int .i64 0]) ho HB2.out)
  · have hE := passE_bad (p := p) h0
    have hX : orderX P B s n p = [] := by unfold orderX; rw [if_neg (by rw [hE]; exact h0)]
    rw [hE, hX]
    obtain ⟨E, hEE⟩ : ∃ E, E = saneE P B n := ⟨_, rfl⟩
    rw [← hEE] at h0 ⊢
    have HE := Lib.hid hEE
    have hEb : (E != 0) = true := by simpa using h0
    clear hE hX h0 hEE
    go_enter Try.func26, Try.ntmps26
    go_wp2_with fail
    refine (sane_any P B s n _).mono ?_
    rintro e w1 ⟨rfl, hb1⟩
    rw [← HE.out]
    have HB := Lib.hid (((Below.refl w.heap.size w).alloc (Nat.le_refl _) _).trans (hb1.mono (by simp)))
    clear hb1
    go_wp2_with fail
    go_ret2
    exact Two.none HB.out
set_option maxHeartbeats 1000000 in
theorem Blocks_two (P B : Int) (s : Nat) (n p : Int) (w : World) (hs : s < two64) :
    Calls Try.prog 22 #[casV P B s, .int .i64 n, .int .i64 p] w (Two (passE P B n p) 3 (blocksX P B n p).length (qCells (blocksX P B n p)) w) := by
  by_cases h0 : saneE P B n = 0
  · obtain ⟨h1, h2, h3, h4, h5, h6⟩ := saneE_ok.1 h0
    obtain ⟨n, rfl⟩ := Int.eq_ofNat_of_zero_le h5
    obtain ⟨P, rfl⟩ := Int.eq_ofNat_of_zero_le (a := P) (by omega)
    obtain ⟨B, rfl⟩ := Int.eq_ofNat_of_zero_le (a := B) (by omega)
    by_cases hp : (p : Int) < 0 ∨ P ≤ p
    · have hE := passE_three h0 hp
      have hX : blocksX (P : Int) B n p = [] := by unfold blocksX; rw [if_neg (by rw [hE]; decide)]
      rw [hE, hX]
      clear hE hX
      go_enter Try.func22, Try.ntmps22
      go_wp2_with fail
      refine (sane_ok P B s n _ (by omega) (by omega) (by omega) (by omega) (by omega)).mono ?_
      rintro e w1 ⟨rfl, hb1⟩
      have hpl := (PlanAt.new w P B s).below hb1 (Nat.le_refl _)
      have B1 : Below w.heap.size w w1 := ((Below.refl _ _).alloc (Nat.le_refl _) _).trans (hb1.mono (by simp))
      have c0 := hpl.c0
      have HB := Lib.hid B1
      clear hb1 B1 hpl h0
      by_cases hp0 : p < 0
      · clear hp
        go_wp2_with fail
        go_ret2
        exact Two.none HB.out
      · have hp1 : (P : Int) ≤ p := by omega
        clear hp
        go_wp2_with fail
        go_ret2
        exact Two.none HB.out
    · have hE := passE_ok h0 hp
      have hX : blocksX (P : Int) B n p = cutL (B : Int).toNat (n : Int).toNat p.toNat := by unfold blocksX; rw [if_pos hE]
      obtain ⟨p, rfl⟩ := Int.eq_ofNat_of_zero_le (a := p) (by omega)
      rw [hE, hX]
      simp only [Int.toNat_natCast]
      have j1 : ¬ ((p : Int) < 0) := by omega
      have j2 : ¬ ((P : Int) ≤ (p : Int)) := by omega
      clear hE hX hp
      go_enter Try.func22, Try.ntmps22
      go_wp2_with fail
      refine (sane_ok P B s n _ (by omega) (by omega) (by omega) (by omega) (by omega)).mono ?_
      rintro e w1 ⟨rfl, hb1⟩
      have hpl := (PlanAt.new w P B s).below hb1 (Nat.le_refl _)
      have B1 : Below w.heap.size w w1 := ((Below.refl _ _).alloc (Nat.le_refl _) _).trans (hb1.mono (by simp))
      have c0 := hpl.c0; have c1 := hpl.c1; have c2 := hpl.c2
      have HB := Lib.hid B1
      clear hb1 B1 hpl h0
      go_wp2_with fail
      refine (cut_any P B s n p _ (by omega) (by omega) (by omega) (by omega)).mono ?_
      rintro e w2 ⟨A, c, rfl, hc, hown, hb2⟩
      have HO := Lib.hid (ownsRow_base hown HB.out.size); have HB2 := Lib.hid (HB.out.trans (hb2.mono HB.out.size))
      clear hown hb2
      dsimp only [id]
      go_wp2_with fail
      go_ret2
      have e : cutN n (sizeP B p) = (cutL B n p).length := by rw [cutL, cutK_len]
      have ho := HO.out
      rw [e] at ho ⊢
      exact Two.own (RetOwn.of (mk := fun v => .tuple #[v, .int .i64 0]) ho HB2.out)
  · have hE := passE_bad (p := p) h0
    have hX : blocksX P B n p = [] := by unfold blocksX; rw [if_neg (by rw [hE]; exact h0)]
    rw [hE, hX]
    obtain ⟨E, hEE⟩ : ∃ E, E = saneE P B n := ⟨_, rfl⟩
    rw [← hEE] at h0 ⊢
    have HE := Lib.hid hEE
    have hEb : (E != 0) = true := by simpa using h0
    clear hE hX h0 hEE
    go_enter Try.func22, Try.ntmps22
    go_wp2_with fail
    refine (sane_any P B s n _).mono ?_
    rintro e w1 ⟨rfl, hb1⟩
    rw [← HE.out]
    have HB := Lib.hid (((Below.refl w.heap.size w).alloc (Nat.le_refl _) _).trans (hb1.mono (by simp)))
    clear hb1
    go_wp2_with fail
    go_ret2
    exact Two.none HB.out
set_option maxRecDepth 100000 in
set_option maxHeartbeats 2000000 in
theorem Places_two (P B : Int) (s : Nat) (n qp qf qt : Int) (w : World) (hs : s < two64) :
    Calls Try.prog 30 #[casV P B s, .int .i64 n, .agg #[.int .i64 qp, .int .i64 qf, .int .i64 qt]] w (Two (placeE P B n qp qf qt) 1 (placesX P B s n qp qf qt).length ((placesX P B s n qp qf qt).map (Value.int .i64)) w) := by
  by_cases h0 : saneE P B n = 0
  · obtain ⟨h1, h2, h3, h4, h5, h6⟩ := saneE_ok.1 h0
    obtain ⟨n, rfl⟩ := Int.eq_ofNat_of_zero_le h5
    obtain ⟨P, rfl⟩ := Int.eq_ofNat_of_zero_le (a := P) (by omega)
    obtain ⟨B, rfl⟩ := Int.eq_ofNat_of_zero_le (a := B) (by omega)
    by_cases hp : qp < 0 ∨ P ≤ qp ∨ qf < 0 ∨ qt ≤ qf ∨ n < qt
    · have hE := placeE_three h0 hp
      have hX : placesX (P : Int) B s n qp qf qt = [] := by unfold placesX; rw [if_neg (by rw [hE]; decide)]
      rw [hE, hX]
      clear hE hX
      go_enter Try.func30, Try.ntmps30
      go_wp2_with fail
      refine (sane_ok P B s n _ (by omega) (by omega) (by omega) (by omega) (by omega)).mono ?_
      rintro e w1 ⟨rfl, hb1⟩
      have hpl := ((PlanAt.new w P B s).below ((Below.refl _ _).alloc (Nat.le_refl _) _) (Nat.le_refl _)).below hb1 (Nat.le_refl _)
      have hbk : w1.heap[w.heap.size + 1]? = some (.cells #[.int .i64 qp, .int .i64 qf, .int .i64 qt] 44 (0, 0)) := by
        rw [hb1.block _ (by simp)]
        have := heap_alloc_new (w.alloc (.cells (casC P B s) 24)) (.cells #[.int .i64 qp, .int .i64 qf, .int .i64 qt] 44)
        rw [World.size_alloc] at this
        exact this
      have B1 : Below w.heap.size w w1 := (((Below.refl _ _).alloc (Nat.le_refl _) _).alloc (by simp) _).trans (hb1.mono (by simp; omega))
      have c0 := hpl.c0
      have q0 : w1.cell? ⟨w.heap.size + 1, 0, none⟩ = some (.int .i64 qp) := by rw [cell_of_row _ _ _ _ _ _ hbk]; rfl
      have q1 : w1.cell? ⟨w.heap.size + 1, 1, none⟩ = some (.int .i64 qf) := by rw [cell_of_row _ _ _ _ _ _ hbk]; rfl
      have q2 : w1.cell? ⟨w.heap.size + 1, 2, none⟩ = some (.int .i64 qt) := by rw [cell_of_row _ _ _ _ _ _ hbk]; rfl
      have HB := Lib.hid B1
      clear hb1 B1 hpl h0 hbk
      by_cases g1 : qp < 0
      · clear hp
        go_wp2_with fail
        go_ret2
        exact Two.none HB.out
      · by_cases g2 : (P : Int) ≤ qp
        · clear hp
          go_wp2_with fail
          go_ret2
          exact Two.none HB.out
        · by_cases g3 : qf < 0
          · clear hp
            go_wp2_with fail
            go_ret2
            exact Two.none HB.out
          · by_cases g4 : qt ≤ qf
            · clear hp
              go_wp2_with fail
              go_ret2
              exact Two.none HB.out
            · have g5 : (n : Int) < qt := by omega
              clear hp
              go_wp2_with fail
              go_ret2
              exact Two.none HB.out
    · have hE := placeE_ok h0 hp
      have hX : placesX (P : Int) B s n qp qf qt = placesL s (n : Int).toNat ⟨qp.toNat, qf.toNat, qt.toNat⟩ := by unfold placesX; rw [if_pos hE]
      obtain ⟨qp, rfl⟩ := Int.eq_ofNat_of_zero_le (a := qp) (by omega)
      obtain ⟨qf, rfl⟩ := Int.eq_ofNat_of_zero_le (a := qf) (by omega)
      obtain ⟨qt, rfl⟩ := Int.eq_ofNat_of_zero_le (a := qt) (by omega)
      rw [hE, hX]
      simp only [Int.toNat_natCast]
      have e : (placesL s n ⟨qp, qf, qt⟩).length = qt - qf := by simp [placesL, orderL_len]; omega
      rw [e]
      exact (Places_ok P B s n ⟨qp, qf, qt⟩ w (by omega) (by omega) (by omega) (by omega) hs (by omega) (by simp only; omega) (by simp only; omega) (by simp only; omega)).mono fun e w' h => Two.own h
  · have hE := placeE_bad (qp := qp) (qf := qf) (qt := qt) h0
    have hX : placesX P B s n qp qf qt = [] := by unfold placesX; rw [if_neg (by rw [hE]; exact h0)]
    rw [hE, hX]
    obtain ⟨E, hEE⟩ : ∃ E, E = saneE P B n := ⟨_, rfl⟩
    rw [← hEE] at h0 ⊢
    have HE := Lib.hid hEE
    have hEb : (E != 0) = true := by simpa using h0
    clear hE hX h0 hEE
    go_enter Try.func30, Try.ntmps30
    go_wp2_with fail
    refine (sane_any P B s n _).mono ?_
    rintro e w1 ⟨rfl, hb1⟩
    rw [← HE.out]
    have HB := Lib.hid ((((Below.refl w.heap.size w).alloc (Nat.le_refl _) _).alloc (by simp) _).trans (hb1.mono (by simp; omega)))
    clear hb1
    go_wp2_with fail
    go_ret2
    exact Two.none HB.out
set_option maxHeartbeats 1000000 in
theorem refOrder_two (P B : Int) (s : Nat) (n p : Int) (w : World) (hs : s < two64) :
    Calls Try.prog 27 #[casV P B s, .int .i64 n, .int .i64 p] w (Two (passE P B n p) 1 (orderX P B s n p).length ((orderX P B s n p).map (Value.int .i64)) w) := by
  by_cases h0 : saneE P B n = 0
  · obtain ⟨h1, h2, h3, h4, h5, h6⟩ := saneE_ok.1 h0
    obtain ⟨n, rfl⟩ := Int.eq_ofNat_of_zero_le h5
    obtain ⟨P, rfl⟩ := Int.eq_ofNat_of_zero_le (a := P) (by omega)
    obtain ⟨B, rfl⟩ := Int.eq_ofNat_of_zero_le (a := B) (by omega)
    by_cases hp : (p : Int) < 0 ∨ P ≤ p
    · have hE := passE_three h0 hp
      have hX : orderX (P : Int) B s n p = [] := by unfold orderX; rw [if_neg (by rw [hE]; decide)]
      rw [hE, hX]
      clear hE hX
      go_enter Try.func27, Try.ntmps27
      go_wp2_with fail
      refine (reflengths_ok P B s n _ (by omega) (by omega) (by omega) (by omega) (by omega)).mono ?_
      rintro e w1 ⟨rfl, hb1⟩
      have hpl := (PlanAt.new w P B s).below hb1 (Nat.le_refl _)
      have B1 : Below w.heap.size w w1 := ((Below.refl _ _).alloc (Nat.le_refl _) _).trans (hb1.mono (by simp))
      have c0 := hpl.c0
      have HB := Lib.hid B1
      clear hb1 B1 hpl h0
      by_cases hp0 : p < 0
      · clear hp
        go_wp2_with fail
        go_ret2
        exact Two.none HB.out
      · have hp1 : (P : Int) ≤ p := by omega
        clear hp
        go_wp2_with fail
        go_ret2
        exact Two.none HB.out
    · have hE := passE_ok h0 hp
      have hX : orderX (P : Int) B s n p = orderL s (n : Int).toNat p.toNat := by unfold orderX; rw [if_pos hE]
      obtain ⟨p, rfl⟩ := Int.eq_ofNat_of_zero_le (a := p) (by omega)
      rw [hE, hX]
      simp only [Int.toNat_natCast]
      have j1 : ¬ ((p : Int) < 0) := by omega
      have j2 : ¬ ((P : Int) ≤ (p : Int)) := by omega
      clear hE hX hp
      go_enter Try.func27, Try.ntmps27
      go_wp2_with fail
      refine (reflengths_ok P B s n _ (by omega) (by omega) (by omega) (by omega) (by omega)).mono ?_
      rintro e w1 ⟨rfl, hb1⟩
      have hpl := (PlanAt.new w P B s).below hb1 (Nat.le_refl _)
      have B1 : Below w.heap.size w w1 := ((Below.refl _ _).alloc (Nat.le_refl _) _).trans (hb1.mono (by simp))
      have c0 := hpl.c0; have c1 := hpl.c1; have c2 := hpl.c2
      have HB := Lib.hid B1
      clear hb1 B1 hpl h0
      go_wp2_with fail
      refine (reforder_any P B s n p _ hs (by omega) (by omega)).mono ?_
      rintro e w2 ⟨A, c, rfl, hc, hown, hb2⟩
      have HO := Lib.hid (ownsRow_base hown HB.out.size); have HB2 := Lib.hid (HB.out.trans (hb2.mono HB.out.size))
      clear hown hb2
      dsimp only [id]
      go_wp2_with fail
      go_ret2
      have e : n = (orderL s n p).length := (orderL_len _ _ _).symm
      have ho := HO.out
      rw [orderL_len]
      exact Two.own (RetOwn.of (mk := fun v => .tuple #[v, .int .i64 0]) ho HB2.out)
  · have hE := passE_bad (p := p) h0
    have hX : orderX P B s n p = [] := by unfold orderX; rw [if_neg (by rw [hE]; exact h0)]
    rw [hE, hX]
    obtain ⟨E, hEE⟩ : ∃ E, E = saneE P B n := ⟨_, rfl⟩
    rw [← hEE] at h0 ⊢
    have HE := Lib.hid hEE
    have hEb : (E != 0) = true := by simpa using h0
    clear hE hX h0 hEE
    go_enter Try.func27, Try.ntmps27
    go_wp2_with fail
    refine (reflengths_any P B s n _).mono ?_
    rintro e w1 ⟨rfl, hb1⟩
    rw [← HE.out]
    have HB := Lib.hid (((Below.refl w.heap.size w).alloc (Nat.le_refl _) _).trans (hb1.mono (by simp)))
    clear hb1
    go_wp2_with fail
    go_ret2
    exact Two.none HB.out
set_option maxHeartbeats 1000000 in
theorem refBlocks_two (P B : Int) (s : Nat) (n p : Int) (w : World) (hs : s < two64) :
    Calls Try.prog 29 #[casV P B s, .int .i64 n, .int .i64 p] w (Two (passE P B n p) 3 (blocksX P B n p).length (qCells (blocksX P B n p)) w) := by
  by_cases h0 : passE P B n p = 0
  · have hX : blocksX P B n p = cutL B.toNat n.toNat p.toNat := by unfold blocksX; rw [if_pos h0]
    have hsn : saneE P B n = 0 := by
      by_cases h : saneE P B n = 0
      · exact h
      · rw [passE_bad h] at h0; exact h0
    have hp0 : ¬ (p < 0 ∨ P ≤ p) := fun h => by rw [passE_three hsn h] at h0; cases h0
    have h00 := h0
    have h0 := hsn
    obtain ⟨h1, h2, h3, h4, h5, h6⟩ := saneE_ok.1 h0
    obtain ⟨n, rfl⟩ := Int.eq_ofNat_of_zero_le h5
    obtain ⟨P, rfl⟩ := Int.eq_ofNat_of_zero_le (a := P) (by omega)
    obtain ⟨B, rfl⟩ := Int.eq_ofNat_of_zero_le (a := B) (by omega)
    obtain ⟨p, rfl⟩ := Int.eq_ofNat_of_zero_le (a := p) (by omega)
    rw [hX, h00]
    simp only [Int.toNat_natCast]
    go_enter Try.func29, Try.ntmps29
    go_wp2_with fail
    refine (refOrder_two P B s n p _ hs).mono ?_
    rintro e w1 ⟨A, c, rfl, hc, hr, hb1⟩
    rw [h00]
    have hpl := (PlanAt.new w P B s).below hb1 (Nat.le_refl _)
    have B1 : Below w.heap.size w w1 := ((Below.refl _ _).alloc (Nat.le_refl _) _).trans (hb1.mono (by simp))
    have c0 := hpl.c0; have c1 := hpl.c1; have c2 := hpl.c2
    have HB := Lib.hid B1
    have h6' : n ≤ 512 := by omega
    have hp6 : p ≤ 6 := by omega
    clear hb1 B1 hpl hr hX h0 hsn h00 hp0
    go_wp2_with fail
    refine (refblocks_any P B s n p _ (by omega) (by omega) h6' hp6).mono ?_
    rintro e w2 ⟨A, c, rfl, hc, hown, hb2⟩
    have HO := Lib.hid (ownsRow_base hown HB.out.size); have HB2 := Lib.hid (HB.out.trans (hb2.mono HB.out.size))
    clear hown hb2
    dsimp only [id]
    go_wp2_with fail
    go_ret2
    have e : cutN n (sizeP B p) = (cutL B n p).length := by rw [cutL, cutK_len]
    have ho := HO.out
    rw [e] at ho ⊢
    exact Two.own (RetOwn.of (mk := fun v => .tuple #[v, .int .i64 0]) ho HB2.out)
  · have hX : blocksX P B n p = [] := by unfold blocksX; rw [if_neg h0]
    rw [hX]
    obtain ⟨E, hE⟩ : ∃ E, E = passE P B n p := ⟨_, rfl⟩
    rw [← hE] at h0 ⊢
    have HE := Lib.hid hE
    have hEb : (E != 0) = true := by simpa using h0
    clear hE hX h0
    go_enter Try.func29, Try.ntmps29
    go_wp2_with fail
    refine (refOrder_two P B s n p _ hs).mono ?_
    rintro e w1 ⟨A, c, rfl, hc, hr, hb1⟩
    rw [← HE.out]
    have B1 : Below w.heap.size w w1 := ((Below.refl _ _).alloc (Nat.le_refl _) _).trans (hb1.mono (by simp))
    have HB := Lib.hid B1
    clear hb1 B1 hr
    go_wp2_with fail
    go_ret2
    exact Two.none HB.out
set_option maxRecDepth 100000 in
set_option maxHeartbeats 2000000 in
theorem refPlaces_two (P B : Int) (s : Nat) (n qp qf qt : Int) (w : World) (hs : s < two64) :
    Calls Try.prog 31 #[casV P B s, .int .i64 n, .agg #[.int .i64 qp, .int .i64 qf, .int .i64 qt]] w (Two (placeE P B n qp qf qt) 1 (placesX P B s n qp qf qt).length ((placesX P B s n qp qf qt).map (Value.int .i64)) w) := by
  by_cases h0 : saneE P B n = 0
  · obtain ⟨h1, h2, h3, h4, h5, h6⟩ := saneE_ok.1 h0
    obtain ⟨n, rfl⟩ := Int.eq_ofNat_of_zero_le h5
    obtain ⟨P, rfl⟩ := Int.eq_ofNat_of_zero_le (a := P) (by omega)
    obtain ⟨B, rfl⟩ := Int.eq_ofNat_of_zero_le (a := B) (by omega)
    by_cases hp : qp < 0 ∨ P ≤ qp ∨ qf < 0 ∨ qt ≤ qf ∨ n < qt
    · have hE := placeE_three h0 hp
      have hX : placesX (P : Int) B s n qp qf qt = [] := by unfold placesX; rw [if_neg (by rw [hE]; decide)]
      rw [hE, hX]
      clear hE hX
      go_enter Try.func31, Try.ntmps31
      go_wp2_with fail
      refine (reflengths_ok P B s n _ (by omega) (by omega) (by omega) (by omega) (by omega)).mono ?_
      rintro e w1 ⟨rfl, hb1⟩
      have hpl := ((PlanAt.new w P B s).below ((Below.refl _ _).alloc (Nat.le_refl _) _) (Nat.le_refl _)).below hb1 (Nat.le_refl _)
      have hbk : w1.heap[w.heap.size + 1]? = some (.cells #[.int .i64 qp, .int .i64 qf, .int .i64 qt] 44 (0, 0)) := by
        rw [hb1.block _ (by simp)]
        have := heap_alloc_new (w.alloc (.cells (casC P B s) 24)) (.cells #[.int .i64 qp, .int .i64 qf, .int .i64 qt] 44)
        rw [World.size_alloc] at this
        exact this
      have B1 : Below w.heap.size w w1 := (((Below.refl _ _).alloc (Nat.le_refl _) _).alloc (by simp) _).trans (hb1.mono (by simp; omega))
      have c0 := hpl.c0
      have q0 : w1.cell? ⟨w.heap.size + 1, 0, none⟩ = some (.int .i64 qp) := by rw [cell_of_row _ _ _ _ _ _ hbk]; rfl
      have q1 : w1.cell? ⟨w.heap.size + 1, 1, none⟩ = some (.int .i64 qf) := by rw [cell_of_row _ _ _ _ _ _ hbk]; rfl
      have q2 : w1.cell? ⟨w.heap.size + 1, 2, none⟩ = some (.int .i64 qt) := by rw [cell_of_row _ _ _ _ _ _ hbk]; rfl
      have HB := Lib.hid B1
      clear hb1 B1 hpl h0 hbk
      by_cases g1 : qp < 0
      · clear hp
        go_wp2_with fail
        go_ret2
        exact Two.none HB.out
      · by_cases g2 : (P : Int) ≤ qp
        · clear hp
          go_wp2_with fail
          go_ret2
          exact Two.none HB.out
        · by_cases g3 : qf < 0
          · clear hp
            go_wp2_with fail
            go_ret2
            exact Two.none HB.out
          · by_cases g4 : qt ≤ qf
            · clear hp
              go_wp2_with fail
              go_ret2
              exact Two.none HB.out
            · have g5 : (n : Int) < qt := by omega
              clear hp
              go_wp2_with fail
              go_ret2
              exact Two.none HB.out
    · have hE := placeE_ok h0 hp
      have hX : placesX (P : Int) B s n qp qf qt = placesL s (n : Int).toNat ⟨qp.toNat, qf.toNat, qt.toNat⟩ := by unfold placesX; rw [if_pos hE]
      obtain ⟨qp, rfl⟩ := Int.eq_ofNat_of_zero_le (a := qp) (by omega)
      obtain ⟨qf, rfl⟩ := Int.eq_ofNat_of_zero_le (a := qf) (by omega)
      obtain ⟨qt, rfl⟩ := Int.eq_ofNat_of_zero_le (a := qt) (by omega)
      rw [hE, hX]
      simp only [Int.toNat_natCast]
      have e : (placesL s n ⟨qp, qf, qt⟩).length = qt - qf := by simp [placesL, orderL_len]; omega
      rw [e]
      have j1 : ¬ ((qp : Int) < 0) := by omega
      have j2 : ¬ ((P : Int) ≤ (qp : Int)) := by omega
      have j3 : ¬ ((qf : Int) < 0) := by omega
      have j4 : ¬ ((qt : Int) ≤ (qf : Int)) := by omega
      have j5 : ¬ ((n : Int) < (qt : Int)) := by omega
      clear hE hX hp e
      go_enter Try.func31, Try.ntmps31
      go_wp2_with fail
      refine (reflengths_ok P B s n _ (by omega) (by omega) (by omega) (by omega) (by omega)).mono ?_
      rintro e w1 ⟨rfl, hb1⟩
      have hpl := ((PlanAt.new w P B s).below ((Below.refl _ _).alloc (Nat.le_refl _) _) (Nat.le_refl _)).below hb1 (Nat.le_refl _)
      have hqa := (QAt.new (w.alloc (.cells (casC P B s) 24)) ⟨qp, qf, qt⟩).below hb1 (Nat.le_refl _)
      rw [World.size_alloc] at hqa
      have B1 : Below w.heap.size w w1 := (((Below.refl _ _).alloc (Nat.le_refl _) _).alloc (by simp) _).trans (hb1.mono (by simp; omega))
      have c0 := hpl.c0; have c1 := hpl.c1; have c2 := hpl.c2
      have q0 := hqa.c0; have q1 := hqa.c1; have q2 := hqa.c2
      have HB := Lib.hid B1
      have HSZ : Hid (w.heap.size + 1 < w1.heap.size) := Lib.hid hqa.lt
      clear hb1 B1 hpl hqa h0
      go_wp2_with fail
      go_region_held3 (fun w' => w'.cell? ⟨w.heap.size, 0, none⟩ = some (.int .i64 P) ∧ w'.cell? ⟨w.heap.size, 1, none⟩ = some (.int .i64 B) ∧ w'.cell? ⟨w.heap.size, 2, none⟩ = some (.int .u64 s) ∧ w'.cell? ⟨w.heap.size + 1, 0, none⟩ = some (.int .i64 qp) ∧ w'.cell? ⟨w.heap.size + 1, 1, none⟩ = some (.int .i64 qf) ∧ w'.cell? ⟨w.heap.size + 1, 2, none⟩ = some (.int .i64 qt)) (first | exact ⟨c0, c1, c2, q0, q1, q2⟩ | exact ⟨d0, d1, d2, p0, p1, p2⟩)
        ((go_at_call 51
          refine (reforder_any P B s n qp _ hs (by omega) (by omega)).mono ?_
          rintro e w2 ⟨Ao, co, rfl, hco, hown2, hb2⟩
          have hsz2 := HSZ.out
          have d0 := (hb2.cell (p := ⟨w.heap.size, 0, none⟩) (by simp only [World.size_drew]; omega)).trans c0
          have d1 := (hb2.cell (p := ⟨w.heap.size, 1, none⟩) (by simp only [World.size_drew]; omega)).trans c1
          have d2 := (hb2.cell (p := ⟨w.heap.size, 2, none⟩) (by simp only [World.size_drew]; omega)).trans c2
          have p0 := (hb2.cell (p := ⟨w.heap.size + 1, 0, none⟩) (by simp only [World.size_drew]; omega)).trans q0
          have p1 := (hb2.cell (p := ⟨w.heap.size + 1, 1, none⟩) (by simp only [World.size_drew]; omega)).trans q1
          have p2 := (hb2.cell (p := ⟨w.heap.size + 1, 2, none⟩) (by simp only [World.size_drew]; omega)).trans q2
          have HB2 := Lib.hid (HB.out.trans ((Qw.below (⟨1, rfl⟩ : Qw w1 w1.drew) _).trans (hb2.mono HB.out.size)))
          have hro := Rd.own hown2
          obtain ⟨A2, hsl, hr2⟩ := slice_cut (P := Try.prog) (t := 53) (sz := 1) Try.underlying53 Try.sizeOf3 hro qf qt co (by omega) (by omega) hco
          have HR : Hid (Rd w2 w2.heap.size 1 A2 (qt - qf) ((placesL s n ⟨qp, qf, qt⟩).map (Value.int .i64))) := Lib.hid (by simpa [placesL, List.map_drop, List.map_take] using hr2)
          dsimp only [id]
          clear hr2 hro hown2 hb2 hsz2))
      go_wp2_with fail
      go_ret2
      exact ⟨_, _, rfl, by omega, HR.out, HB2.out⟩
  · have hE := placeE_bad (qp := qp) (qf := qf) (qt := qt) h0
    have hX : placesX P B s n qp qf qt = [] := by unfold placesX; rw [if_neg (by rw [hE]; exact h0)]
    rw [hE, hX]
    obtain ⟨E, hEE⟩ : ∃ E, E = saneE P B n := ⟨_, rfl⟩
    rw [← hEE] at h0 ⊢
    have HE := Lib.hid hEE
    have hEb : (E != 0) = true := by simpa using h0
    clear hE hX h0 hEE
    go_enter Try.func31, Try.ntmps31
    go_wp2_with fail
    refine (reflengths_any P B s n _).mono ?_
    rintro e w1 ⟨rfl, hb1⟩
    rw [← HE.out]
    have HB := Lib.hid ((((Below.refl w.heap.size w).alloc (Nat.le_refl _) _).alloc (by simp) _).trans (hb1.mono (by simp; omega)))
    clear hb1
    go_wp2_with fail
    go_ret2
    exact Two.none HB.out
end Go.Proofs.Ytoofnkkbebjldaa
/- Contracts of Reply of the cascades, the program's and the document's, at any arguments. Conditions: as each statement says. -/
namespace Go.Proofs.Ytoofnkkbebjldaa
open Go.RowKit
set_option linter.unusedVariables false
set_option maxRecDepth 100000 in
set_option maxHeartbeats 2000000 in
theorem Reply_two (P B : Int) (s : Nat) (A : Option Addr) (n c : Nat) (b : List Bool) (qp qf qt : Int) (w : World) (hs : s < two64) (h : Rd w w.heap.size 1 A n (b.map Value.bool)) :
    Calls Try.prog 21 #[casV P B s, .slice A n c, .agg #[.int .i64 qp, .int .i64 qf, .int .i64 qt]] w fun e w' => (∃ E pv, E = placeE P B n qp qf qt ∧ pv = parL b (placesX P B s n qp qf qt) ∧ e = .returned (.tuple #[.bool pv, .int .i64 E])) ∧ Below w.heap.size w w' := by
  obtain ⟨E, hE⟩ : ∃ E, E = placeE P B n qp qf qt := ⟨_, rfl⟩
  obtain ⟨l, hl⟩ : ∃ l, l = placesX P B s n qp qf qt := ⟨_, rfl⟩
  rw [← hE, ← hl]
  have HE := Lib.hid hE; have HL := Lib.hid hl; have H := Lib.hid h
  clear hE hl h
  go_enter Try.func21, Try.ntmps21
  go_wp2_with fail
  refine (Places_two P B s n qp qf qt _ hs).mono ?_
  rintro e w1 ⟨A1, c1, rfl, hc1, hr, hb⟩
  have B0 : Below w.heap.size w ((w.alloc (.cells (casC P B s) 24)).alloc (.cells #[.int .i64 qp, .int .i64 qf, .int .i64 qt] 44)) := ((Below.refl _ _).alloc (Nat.le_refl _) _).alloc (by simp) _
  have HB := Lib.hid (B0.trans (hb.mono (by simp; omega)))
  rw [← HL.out] at hr ⊢
  rw [← HE.out]
  have HR := Lib.hid hr
  clear hb hr B0
  by_cases h0 : E = 0
  · have hpe : placeE P B n qp qf qt = 0 := by rw [← HE.out]; exact h0
    have hsn : saneE P B n = 0 := by
      by_cases g : saneE P B n = 0
      · exact g
      · rw [placeE_bad g] at hpe; exact hpe
    obtain ⟨k1, k2, k3, k4, k5, k6⟩ := saneE_ok.1 hsn
    have hle : ¬ (qp < 0 ∨ P ≤ qp ∨ qf < 0 ∨ qt ≤ qf ∨ (n : Int) < qt) := fun g => by rw [placeE_three hsn g] at hpe; cases hpe
    have hll : l.length ≤ 512 := by
      rw [HL.out]; unfold placesX; rw [if_pos hpe]; simp [placesL, orderL_len]; omega
    have hmem : ∀ x ∈ l, 0 ≤ x ∧ x < n := by
      intro x hx
      rw [HL.out] at hx
      unfold placesX at hx
      rw [if_pos hpe] at hx
      exact placesL_mem (by simpa using hx)
    subst h0
    clear hpe hsn hle
    obtain ⟨pv, hpv⟩ : ∃ pv, pv = parL b l := ⟨_, rfl⟩
    have HPV := Lib.hid hpv
    clear hpv
    go_wp2_with fail
    refine (parity_any A A1 n c l.length c1 b l _ _ (by omega) (by omega) ((H.out.below HB.out).mono HB.out.size) HR.out hmem).mono ?_
    rintro e w2 ⟨rfl, rfl⟩
    rw [← HPV.out]
    go_wp2_with fail
    go_ret2
    exact ⟨⟨_, pv, rfl, HPV.out, rfl⟩, HB.out⟩
  · have hne : (E != 0) = true := by simpa using h0
    have hln : l = [] := by rw [HL.out]; unfold placesX; rw [if_neg (by rw [← HE.out]; exact h0)]
    have HPL : Hid (parL b l = false) := Lib.hid (by rw [hln]; rfl)
    clear hln h0
    go_wp2_with fail
    go_ret2
    exact ⟨⟨_, false, rfl, HPL.out.symm, rfl⟩, HB.out⟩
set_option maxRecDepth 100000 in
set_option maxHeartbeats 2000000 in
theorem refReply_two (P B : Int) (s : Nat) (A : Option Addr) (n c : Nat) (b : List Bool) (qp qf qt : Int) (w : World) (hs : s < two64) (h : Rd w w.heap.size 1 A n (b.map Value.bool)) :
    Calls Try.prog 32 #[casV P B s, .slice A n c, .agg #[.int .i64 qp, .int .i64 qf, .int .i64 qt]] w fun e w' => (∃ E pv, E = placeE P B n qp qf qt ∧ pv = parL b (placesX P B s n qp qf qt) ∧ e = .returned (.tuple #[.bool pv, .int .i64 E])) ∧ Below w.heap.size w w' := by
  obtain ⟨E, hE⟩ : ∃ E, E = placeE P B n qp qf qt := ⟨_, rfl⟩
  obtain ⟨l, hl⟩ : ∃ l, l = placesX P B s n qp qf qt := ⟨_, rfl⟩
  rw [← hE, ← hl]
  have HE := Lib.hid hE; have HL := Lib.hid hl; have H := Lib.hid h
  clear hE hl h
  go_enter Try.func32, Try.ntmps32
  go_wp2_with fail
  refine (refPlaces_two P B s n qp qf qt _ hs).mono ?_
  rintro e w1 ⟨A1, c1, rfl, hc1, hr, hb⟩
  have B0 : Below w.heap.size w ((w.alloc (.cells (casC P B s) 24)).alloc (.cells #[.int .i64 qp, .int .i64 qf, .int .i64 qt] 44)) := ((Below.refl _ _).alloc (Nat.le_refl _) _).alloc (by simp) _
  have HB := Lib.hid (B0.trans (hb.mono (by simp; omega)))
  rw [← HL.out] at hr ⊢
  rw [← HE.out]
  have HR := Lib.hid hr
  clear hb hr B0
  by_cases h0 : E = 0
  · have hpe : placeE P B n qp qf qt = 0 := by rw [← HE.out]; exact h0
    have hsn : saneE P B n = 0 := by
      by_cases g : saneE P B n = 0
      · exact g
      · rw [placeE_bad g] at hpe; exact hpe
    obtain ⟨k1, k2, k3, k4, k5, k6⟩ := saneE_ok.1 hsn
    have hle : ¬ (qp < 0 ∨ P ≤ qp ∨ qf < 0 ∨ qt ≤ qf ∨ (n : Int) < qt) := fun g => by rw [placeE_three hsn g] at hpe; cases hpe
    have hll : l.length ≤ 512 := by
      rw [HL.out]; unfold placesX; rw [if_pos hpe]; simp [placesL, orderL_len]; omega
    have hmem : ∀ x ∈ l, 0 ≤ x ∧ x < n := by
      intro x hx
      rw [HL.out] at hx
      unfold placesX at hx
      rw [if_pos hpe] at hx
      exact placesL_mem (by simpa using hx)
    subst h0
    clear hpe hsn hle
    obtain ⟨pv, hpv⟩ : ∃ pv, pv = parL b l := ⟨_, rfl⟩
    have HPV := Lib.hid hpv
    clear hpv
    go_wp2_with fail
    refine (refparity_any A A1 n c l.length c1 b l _ _ (by omega) (by omega) ((H.out.below HB.out).mono HB.out.size) HR.out hmem).mono ?_
    rintro e w2 ⟨rfl, rfl⟩
    rw [← HPV.out]
    go_wp2_with fail
    go_ret2
    exact ⟨⟨_, pv, rfl, HPV.out, rfl⟩, HB.out⟩
  · have hne : (E != 0) = true := by simpa using h0
    have hln : l = [] := by rw [HL.out]; unfold placesX; rw [if_neg (by rw [← HE.out]; exact h0)]
    have HPL : Hid (parL b l = false) := Lib.hid (by rw [hln]; rfl)
    clear hln h0
    go_wp2_with fail
    go_ret2
    exact ⟨⟨_, false, rfl, HPL.out.symm, rfl⟩, HB.out⟩
end Go.Proofs.Ytoofnkkbebjldaa
/- The small example at the end of each statement. Conditions: as each statement says. -/
namespace Go.Proofs.Ytoofnkkbebjldaa
open Go.RowKit
set_option linter.unusedVariables false
theorem works_end : ((itO (pl 4 1 4 0) (oT (pl 4 1 4 0) [false, true, false, false]) 20 (1, st0 [false, false, false, false])).1, (itO (pl 4 1 4 0) (oT (pl 4 1 4 0) [false, true, false, false]) 20 (1, st0 [false, false, false, false])).2.opn, (itO (pl 4 1 4 0) (oT (pl 4 1 4 0) [false, true, false, false]) 20 (1, st0 [false, false, false, false])).2.b, (itO (pl 4 1 4 0) (oT (pl 4 1 4 0) [false, true, false, false]) 20 (1, st0 [false, false, false, false])).2.told.length) = (0, false, [false, true, false, false], 3) := by
  decide
theorem works_pure {S : Mst} (h : GoT (pl 4 1 4 0) (oT (pl 4 1 4 0) [false, true, false, false]) (1, st0 [false, false, false, false]) (0, S)) (ho : S.opn = false) : S.b = [false, true, false, false] ∧ S.told.length = 3 := by
  have e := works_end
  have hg : GoT (pl 4 1 4 0) (oT (pl 4 1 4 0) [false, true, false, false]) (1, st0 [false, false, false, false]) (itO (pl 4 1 4 0) (oT (pl 4 1 4 0) [false, true, false, false]) 20 (1, st0 [false, false, false, false])) := ⟨20, rfl⟩
  generalize itO (pl 4 1 4 0) (oT (pl 4 1 4 0) [false, true, false, false]) 20 (1, st0 [false, false, false, false]) = t at e hg
  obtain ⟨c, T⟩ := t
  simp only [Prod.mk.injEq] at e
  obtain ⟨rfl, h2, h3, h4⟩ := e
  have := h.same hg ⟨rfl, .inl ho⟩ ⟨rfl, .inl h2⟩
  simp only [Prod.mk.injEq, true_and] at this
  subst this
  exact ⟨h3, h4⟩
set_option maxRecDepth 100000 in
set_option maxHeartbeats 2000000 in
theorem works_any (w : World) : Calls Try.prog 13 #[] w fun e w' => e = .returned (.bool true) ∧ Below w.heap.size w w' := by
  have hmk : ∀ w : World, (Instr.makeSlice 25 (.int .i64 4) (.int .i64 4)).run Try.prog w = .ok (.slice (some ⟨w.heap.size, 0, none⟩) 4 4) (w.alloc (.cells #[.bool false, .bool false, .bool false, .bool false] 4)) := fun w => make_bool w 4 (by decide)
  go_enter Try.func13, Try.ntmps13
  go_wp2_with fail
  clear hmk
  have hb2 : Below w.heap.size w ((w.alloc (.cells #[.bool false, .bool false, .bool false, .bool false] 4)).alloc (.cells #[.bool false, .bool true, .bool false, .bool false] 4)) := ((Below.refl _ _).alloc (Nat.le_refl _) _).alloc (by simp) _
  have h1 : Rd ((w.alloc (.cells #[.bool false, .bool false, .bool false, .bool false] 4)).alloc (.cells #[.bool false, .bool true, .bool false, .bool false] 4)) (w.heap.size + 1) 1 (some ⟨w.heap.size, 0, none⟩) 4 ([false, false, false, false].map Value.bool) :=
    (Rd.new w #[.bool false, .bool false, .bool false, .bool false] 4 1 4 rfl).alloc (by simp) _
  have h2 : Rd ((w.alloc (.cells #[.bool false, .bool false, .bool false, .bool false] 4)).alloc (.cells #[.bool false, .bool true, .bool false, .bool false] 4)) (w.heap.size + 2) 1 (some ⟨w.heap.size + 1, 0, none⟩) 4 ([false, true, false, false].map Value.bool) := by
    have := Rd.new (w.alloc (.cells #[.bool false, .bool false, .bool false, .bool false] 4)) #[.bool false, .bool true, .bool false, .bool false] 4 1 4 rfl
    simpa using this
  refine (Run_ok (some ⟨w.heap.size, 0, none⟩) (some ⟨w.heap.size + 1, 0, none⟩) 4 4 4 1 4 0 [false, false, false, false] [false, true, false, false] _ (by decide) (by decide) (by decide) (by decide) (by decide) (by decide) (h1.mono (by simp)) (h2.mono (by simp))).mono ?_
  clear h1 h2
  rintro e w2 ⟨Az, cz, At, ct, S, rfl, hgo, ho, _, hcz, hct, hz, ht, hb⟩
  obtain ⟨hb1, hb3⟩ := works_pure hgo ho
  have hbb := hb2.trans (hb.mono (by simp; omega))
  rw [hb1] at hz
  have hr := Rd.own hz
  obtain ⟨g, off, rfl, hg, hc⟩ := hr.2 (by decide)
  have c1 : w2.cell? ⟨g, off + 1, none⟩ = some (.bool true) := hc 1 _ rfl
  have hl : S.told.length = 3 := hb3
  have HBB := Lib.hid hbb
  clear hgo ho hz ht hb hb2 hr hc hbb hb3 hb1
  rw [hl]
  go_wp2_with fail
  go_ret
  exact ⟨rfl, HBB.out⟩
end Go.Proofs.Ytoofnkkbebjldaa
/- Contracts of the small functions of the statements about cascades: plan, short, distance, Bools. Conditions: as each statement says. -/
namespace Go.Proofs.Ytoofnkkbebjldaa
open Go.RowKit
set_option linter.unusedVariables false
set_option maxHeartbeats 1000000 in
theorem plan_any (p b s : Nat) (w : World) (hp : p < 256) (hb : b < 256) :
    Calls Try.prog 18 #[.int .u8 p, .int .u8 b, .int .u64 s] w fun e w' => (∃ P B : Nat, P = 1 + p % 4 ∧ B = 1 + b ∧ e = .returned (casV P B s)) ∧ Below w.heap.size w w' := by
  have e1 : (1 : Int) + (p : Int) % 4 = ((1 + p % 4 : Nat) : Int) := by omega
  have e2 : (1 : Int) + (b : Int) = ((1 + b : Nat) : Int) := by omega
  have E1 := Lib.hid e1; have E2 := Lib.hid e2
  clear e1 e2
  go_enter Try.func18, Try.ntmps18
  go_wp2_with fail
  refine bodyPost_ret (v := .agg #[.int .i64 (1 + (p : Int) % 4), .int .i64 (1 + (b : Int)), .int .u64 s]) (by simp [results, Try.results18, go_sem]) rfl ?_
  refine ⟨⟨_, _, rfl, rfl, by rw [E1.out, E2.out]⟩, ?_⟩
  exact (Below.refl _ _).alloc (Nat.le_refl _) _
set_option maxHeartbeats 1000000 in
theorem short_any (A : Option Addr) (n c k : Nat) (bs : List Bool) (w : World) (hn : n ≤ c) (hk : k ≤ 1000000) (h : Rd w w.heap.size 1 A n (bs.map Value.bool)) :
    Calls Try.prog 19 #[.slice A n c, .int .i64 k] w (RetOwn w 4 1 (min n k) ((bs.take k).map Value.bool) id) := by
  have hl : bs.length = n := by have := h.1; simpa using this
  obtain ⟨i0, hi0, hz0, hz1, hz2⟩ := info_parts info_bool
  obtain ⟨A2, hsl, hr⟩ := slice_hd (P := Try.prog) (t := 25) (sz := 1) Try.underlying25 Try.sizeOf4 h (min (n : Int) (k : Int)) (min n k) c (by omega) (Nat.min_le_left _ _) hn
  have hr2 : Rd w w.heap.size 1 A2 (min n k) ((bs.take k).map Value.bool) := by
    have e : bs.take k = bs.take (min n k) := by rw [← hl, Nat.min_comm, ← List.take_eq_take_min]
    rw [e]
    simpa [List.map_take] using hr
  have HI0 := Lib.hid hi0; have HZ0 := Lib.hid hz0; have HZ1 := Lib.hid hz1; have HZ2 := Lib.hid hz2; have H := Lib.hid hr2
  clear h hi0 hz0 hz1 hz2 hr hr2 hl
  go_enter Try.func19, Try.ntmps19
  go_wp2_with (at_builtin; refine wpList_append_rd _ rfl (.tmp 5) (.tmp 11) _ rfl w.heap.size 4 i0 _ 1 1 Try.underlying25 HI0.out HZ0.out HZ1.out HZ2.out rfl (by decide) _ 0 [] rfl (World.ownsRow_made w #[] 0 (Nat.le_refl _) (by simp [maxLen]) (by simp)) _ A2 (min n k) c _ rfl (H.out.alloc (Nat.le_refl _) _) (by intro u hu; obtain ⟨_, _, rfl⟩ := List.mem_map.1 hu; rfl) (by unfold maxLen; omega) (by omega) (by simp) ?_; intro v1 w1 hown1 hg1)
  rw [Nat.zero_add, List.nil_append] at hown1
  go_ret
  exact RetOwn.of (mk := id) hown1 (((Below.refl _ _).alloc (Nat.le_refl _) _).grown hg1 (by simp) (fun g hg => by cases hg; exact Nat.le_refl _))
set_option maxHeartbeats 1000000 in
theorem distance_any (A A' : Option Addr) (n c c' : Nat) (xs ys : List Bool) (w : World) (hn : n ≤ 1073741824) (h : Rd w w.heap.size 1 A n (xs.map Value.bool)) (h' : Rd w w.heap.size 1 A' n (ys.map Value.bool)) :
    Calls Try.prog 23 #[.slice A n c, .slice A' n c'] w fun e w' => e = .returned (.int .i64 (distL xs ys : Nat)) ∧ Qw w w' := by
  have hl : xs.length = n := by have := h.1; simpa using this
  have hl' : ys.length = n := by have := h'.1; simpa using this
  have H := Lib.hid h; have H' := Lib.hid h'; have HL := Lib.hid hl; have HL' := Lib.hid hl'; clear h h' hl hl'
  go_enter Try.func23, Try.ntmps23
  go_wp2_with fail
  go_loopw [5, 6] (fun d i wr => ∃ (k dn : Nat), k ≤ n ∧ i = .int .i64 k ∧ d = .int .i64 dn ∧ dn ≤ k ∧ dn + distL (xs.drop k) (ys.drop k) = distL xs ys ∧ Qw w wr) (fun _ i _ => n - (intOf i).toNat)
  case atStart => exact ⟨0, 0, Nat.zero_le _, rfl, rfl, Nat.zero_le _, by simp, Qw.refl _⟩
  case round =>
    obtain ⟨k, dn, hk, rfl, rfl, hdn, hd, hq⟩ := hrel
    have HD := Lib.hid hd; have HQ := Lib.hid hq
    clear hd hq
    by_cases hlt : k < n
    · have hki : (k : Int) < (n : Int) := by omega
      obtain ⟨b, off, rfl, hb, hc⟩ := H.out.2 (by omega)
      obtain ⟨b', off', rfl, hb', hc'⟩ := H'.out.2 (by omega)
      have hlk : k < xs.length := by rw [HL.out]; exact hlt
      have hlk' : k < ys.length := by rw [HL'.out]; exact hlt
      have h1 : wr.cell? ⟨b, off + k, none⟩ = some (.bool xs[k]) := (HQ.out.cell _).trans (hc k _ (by simp [hlk]))
      have h2 : wr.cell? ⟨b', off' + k, none⟩ = some (.bool ys[k]) := (HQ.out.cell _).trans (hc' k _ (by simp [hlk']))
      have HS : Hid (distL (xs.drop k) (ys.drop k) = (if xs[k] != ys[k] then 1 else 0) + distL (xs.drop (k + 1)) (ys.drop (k + 1))) := Lib.hid (by
        rw [List.drop_eq_getElem_cons hlk, List.drop_eq_getElem_cons hlk']; rfl)
      generalize xs[k] = x at h1 HS
      generalize ys[k] = y at h2 HS
      clear hc hc' hlk hlk'
      cases x <;> cases y
      all_goals
        have HT := Lib.hid HS.out
        clear HS
        go_wp2_with fail
        go_quiet (fail)
        go_wp2_with fail
        go_roundw
        case rel =>
          have hd := HD.out; have ht := HT.out
          simp only [bne_self_eq_false, Bool.false_eq_true, if_false, Bool.bne_true, Bool.bne_false, Bool.not_false, if_true] at ht
          first
          | exact ⟨k + 1, dn + 1, hlt, by go_num, by go_num, by omega, by omega, HQ.out.drewN _⟩
          | exact ⟨k + 1, dn, hlt, by go_num, rfl, by omega, by omega, HQ.out.drewN _⟩
        case measure => simp [intOf]; omega
    · have hki : ¬ (k : Int) < (n : Int) := by omega
      obtain rfl : k = n := by omega
      go_wp2_with fail
      go_ret
      have hd := HD.out
      rw [List.drop_of_length_le (by rw [HL.out]; exact Nat.le_refl _)] at hd
      have he : dn = distL xs ys := by simpa [distL] using hd
      exact ⟨by rw [← he]; rfl, HQ.out⟩
set_option maxHeartbeats 1000000 in
theorem Bools_eq (A A' : Option Addr) (n c c' : Nat) (xs : List Bool) (w : World) (hn : n ≤ 1073741824) (h : Rd w w.heap.size 1 A n (xs.map Value.bool)) (h' : Rd w w.heap.size 1 A' n (xs.map Value.bool)) :
    Calls Try.prog 16 #[.slice A n c, .slice A' n c'] w fun e w' => e = .returned (.bool true) ∧ Qw w w' := by
  have hl : xs.length = n := by have := h.1; simpa using this
  have H := Lib.hid h; have H' := Lib.hid h'; have HL := Lib.hid hl; clear h h' hl
  have hne : ((n : Int) != (n : Int)) = false := by simp
  go_enter Try.func16, Try.ntmps16
  go_wp2_with fail
  go_loopw [5] (fun i wr => ∃ k : Nat, k ≤ n ∧ i = .int .i64 k ∧ Qw w wr) (fun i _ => n - (intOf i).toNat)
  case atStart => exact ⟨0, Nat.zero_le _, rfl, Qw.refl _⟩
  case round =>
    obtain ⟨k, hk, rfl, hq⟩ := hrel
    by_cases hlt : k < n
    · have hki : (k : Int) < (n : Int) := by omega
      obtain ⟨b, off, rfl, hb, hc⟩ := H.out.2 (by omega)
      obtain ⟨b', off', rfl, hb', hc'⟩ := H'.out.2 (by omega)
      have hlk : k < xs.length := by rw [HL.out]; exact hlt
      have h1 : wr.cell? ⟨b, off + k, none⟩ = some (.bool xs[k]) := (hq.cell _).trans (hc k _ (by simp [hlk]))
      have h2 : wr.cell? ⟨b', off' + k, none⟩ = some (.bool xs[k]) := (hq.cell _).trans (hc' k _ (by simp [hlk]))
      generalize xs[k] = x at h1 h2
      have HQ := Lib.hid hq
      clear hc hc' hlk hq
      go_wp2_with fail
      go_quiet (fail)
      go_wp2_with fail
      go_roundw
      case rel => exact ⟨k + 1, by omega, by go_num, HQ.out.drewN _⟩
      case measure => simp [intOf]; omega
    · have hki : ¬ (k : Int) < (n : Int) := by omega
      go_wp2_with fail
      go_ret
      exact ⟨rfl, hq⟩
end Go.Proofs.Ytoofnkkbebjldaa
/- The contract of strings of the statements about cascades. Conditions: as the statement says. -/
namespace Go.Proofs.Ytoofnkkbebjldaa
open Go.RowKit
set_option linter.unusedVariables false
/-- Two strings of the same length. -/
def TwoP (m : Nat) (x : List Bool) (w : World) (e : Ending) (w' : World) : Prop :=
  ∃ (A1 A2 : Option Addr) (c1 c2 : Nat) (y : List Bool), e = .returned (.tuple #[.slice A1 m c1, .slice A2 m c2]) ∧ y.length = m ∧ m ≤ c1 ∧ m ≤ c2 ∧ w'.ownsRow w.heap.size 4 1 (.slice A1 m c1) m (x.map Value.bool) ∧ w'.ownsRow w.heap.size 4 1 (.slice A2 m c2) m (y.map Value.bool) ∧ Below w.heap.size w w'
set_option maxRecDepth 100000 in
set_option maxHeartbeats 1000000 in
theorem strings_any (A Ae : Option Addr) (n c ne ce : Nat) (bs : List Bool) (es : List Nat) (w : World) (hn : n ≤ c) (h : Rd w w.heap.size 1 A n (bs.map Value.bool)) (he : Rd w w.heap.size 1 Ae ne (u16s es)) (hes : ∀ x ∈ es, x < 65536) :
    Calls Try.prog 20 #[.slice A n c, .slice Ae ne ce] w (TwoP (min n 128) (bs.take 128) w) := by
  have hel : es.length = ne := by have := he.1; simpa using this
  obtain ⟨i0, hi0, hz0, hz1, hz2⟩ := info_parts info_bool
  have HI0 := Lib.hid hi0; have HZ0 := Lib.hid hz0; have HZ1 := Lib.hid hz1; have HZ2 := Lib.hid hz2; have H := Lib.hid h; have HE := Lib.hid he; have HEL := Lib.hid hel; have HES := Lib.hid hes
  clear h he hi0 hz0 hz1 hz2 hel hes
  obtain ⟨m, hm⟩ : ∃ m, m = min n 128 := ⟨_, rfl⟩
  have hm2 : m ≤ 128 := by omega
  have HM := Lib.hid hm
  rw [← hm]
  clear hm
  go_enter Try.func20, Try.ntmps20
  go_wp2_with fail
  refine (short_any A n c 128 bs _ hn (by decide) H.out).mono ?_
  rintro e w1 ⟨A1, c1, rfl, hc1, hown, hb⟩
  dsimp only [id]
  rw [← HM.out] at hown hc1 ⊢
  have HB := Lib.hid hb; have HO := Lib.hid hown; have HR := Lib.hid (Rd.own hown)
  clear hb hown
  go_wp2_with (at_builtin; refine wpList_append_rd _ rfl (.tmp 12) (.tmp 13) _ rfl w1.heap.size 4 i0 _ 1 1 Try.underlying25 HI0.out HZ0.out HZ1.out HZ2.out rfl (by decide) _ 0 [] rfl (World.ownsRow_made w1 #[] 0 (Nat.le_refl _) (by simp [maxLen]) (by simp)) _ A1 m c1 _ rfl (HR.out.alloc (Nat.le_refl _) _) (by intro u hu; obtain ⟨_, _, rfl⟩ := List.mem_map.1 hu; rfl) (by unfold maxLen; omega) (by omega) (by simp) ?_; intro v2 w2 hown2 hg2)
  rw [Nat.zero_add, List.nil_append] at hown2
  have hb2 : Below w1.heap.size w1 w2 := ((Below.refl _ _).alloc (Nat.le_refl _) _).grown hg2 (by simp) (fun g hg => by cases hg; exact Nat.le_refl _)
  obtain ⟨A2, c2, rfl, hc2⟩ := own_form hown2
  have hxl : (bs.take 128).length = m := by have := hown2.1; simpa using this
  have ST : Hid (w2.ownsRow w1.heap.size 4 1 (.slice A2 m c2) m ((bs.take 128).map Value.bool) ∧ Below w1.heap.size w1 w2 ∧ (bs.take 128).length = m) := Lib.hid ⟨hown2, hb2, hxl⟩
  clear hown2 hg2 hb2 hxl
  go_wp2_with fail
  go_loopw [8] (fun i wr => ∃ (k : Nat) (y : List Bool), k ≤ 200 ∧ k ≤ ne ∧ i = .int .i64 k ∧ y.length = m ∧ wr.ownsRow w1.heap.size 4 1 (.slice A2 m c2) m (y.map Value.bool) ∧ Below w1.heap.size w1 wr) (fun i _ => 200 - (intOf i).toNat)
  case atStart => exact ⟨0, bs.take 128, Nat.zero_le _, Nat.zero_le _, rfl, ST.out.2.2, ST.out.1, ST.out.2.1⟩
  case round =>
    obtain ⟨k, y, hk, hkn, rfl, hyl, hown, hbw⟩ := hrel
    have HO2 := Lib.hid hown; have HBW := Lib.hid hbw; have HY := Lib.hid hyl
    clear hown hbw hyl
    by_cases h1 : k < ne
    · have j1 : (k : Int) < (ne : Int) := by omega
      by_cases h2 : k < 200
      · have j2 : (k : Int) < 200 := by omega
        by_cases h3 : 0 < m
        · have j3 : (0 : Int) < (m : Int) := by omega
          obtain ⟨g, cap, hv⟩ := own_head HO2.out h3
          injection hv with hv1 _ hv2
          subst hv1
          obtain ⟨be, oe, rfl, hbe, hce⟩ := HE.out.2 (by omega)
          have hke : k < es.length := by rw [HEL.out]; exact h1
          have d1 : wr.cell? ⟨be, oe + k, none⟩ = some (.int .u16 es[k]) := by
            rw [HBW.out.cell (p := ⟨be, oe + k, none⟩) (by have := HB.out.size; simp only; omega), HB.out.cell (p := ⟨be, oe + k, none⟩) (by simp only; omega)]
            exact hce k _ (by simp [hke])
          have hes := HES.out _ (List.getElem_mem hke)
          generalize es[k] = ev at d1 hes
          have hq0 : (0 : Int) ≤ (ev : Int) % (m : Int) := Int.emod_nonneg _ (by omega)
          have hqm : (ev : Int) % (m : Int) < (m : Int) := Int.emod_lt_of_pos _ j3
          have hm0 : ¬ ((m : Int) = 0) := by omega
          have hqn : ev % m < m := Nat.mod_lt _ h3
          have hqy : ev % m < y.length := by rw [HY.out]; exact hqn
          have d2 : wr.cell? ⟨g, ev % m, none⟩ = some (.bool y[ev % m]) := by
            rw [HO2.out.cellAt (ev % m) (by omega), List.getElem?_map, List.getElem?_eq_getElem hqy]; rfl
          have d3 : wr.frozen? ⟨g, ev % m, none⟩ = false := HO2.out.frozenAt _
          have hge := (HO2.out.lt g rfl).1
          generalize y[ev % m] = yv at d2
          clear hce hke hqy
          go_wp2_with fail
          have hr := (HO2.out.stored (ev % m) (.bool (!yv))).1
          rw [← List.map_set] at hr
          go_roundw
          case rel => exact ⟨k + 1, y.set (ev % m) (!yv), by omega, h1, by go_num, by rw [List.length_set]; exact HY.out, hr, HBW.out.setCell (p := ⟨g, ev % m, none⟩) hge _⟩
          case measure => simp [intOf]; omega
        · obtain rfl : m = 0 := by omega
          go_wp2_with fail
          go_ret2
          exact ⟨A1, A2, c1, c2, y, rfl, HY.out, hc1, hc2, ownsRow_below HO.out HBW.out (Nat.le_refl _), ownsRow_base HO2.out HB.out.size, HB.out.trans (HBW.out.mono HB.out.size)⟩
      · obtain rfl : k = 200 := by omega
        go_wp2_with fail
        go_ret2
        exact ⟨A1, A2, c1, c2, y, rfl, HY.out, hc1, hc2, ownsRow_below HO.out HBW.out (Nat.le_refl _), ownsRow_base HO2.out HB.out.size, HB.out.trans (HBW.out.mono HB.out.size)⟩
    · have j1 : ¬ (k : Int) < (ne : Int) := by omega
      go_wp2_with fail
      go_ret2
      exact ⟨A1, A2, c1, c2, y, rfl, HY.out, hc1, hc2, ownsRow_below HO.out HBW.out (Nat.le_refl _), ownsRow_base HO2.out HB.out.size, HB.out.trans (HBW.out.mono HB.out.size)⟩
end Go.Proofs.Ytoofnkkbebjldaa
/- What the statements on cascades say of a course that a true string answers. Conditions: as each statement says. -/
namespace Go.Proofs.Ytoofnkkbebjldaa
open Go.RowKit
set_option linter.unusedVariables false
theorem distL_between : ∀ {x z y : List Bool}, x.length = z.length → z.length = y.length → (∀ i, i < x.length → x.getD i false = y.getD i false → z.getD i false = y.getD i false) → distL x z + distL z y = distL x y
  | [], [], [], _, _, _ => rfl
  | [], [], _ :: _, _, h, _ => by simp at h
  | [], _ :: _, _, h, _, _ => by simp at h
  | _ :: _, [], _, h, _, _ => by simp at h
  | _ :: _, _ :: _, [], _, h, _ => by simp at h
  | a :: x, c :: z, b :: y, h1, h2, h => by
    have ih := distL_between (x := x) (z := z) (y := y) (by simpa using h1) (by simpa using h2) fun i hi he => by simpa using h (i + 1) (by simpa using hi) (by simpa using he)
    have h0 := h 0 (by simp)
    simp only [List.getD_cons_zero] at h0
    simp only [distL]
    cases a <;> cases b <;> cases c <;> simp at h0 ⊢ <;> omega
theorem goT_inv {n P B s : Nat} {x y : List Bool} {z : Nat × Mst} (hB : 1 ≤ B) (hn : n ≤ 512) (hx : x.length = n) (hy : y.length = n) (h : GoT (pl n P B s) (oT (pl n P B s) y) (1, st0 x) z) : InvT (pl n P B s) x y z.1 z.2 :=
  h.inv (I := fun z => InvT (pl n P B s) x y z.1 z.2) (fun z hz => hz.stepO hB hn hx hy z) (InvT.start (L := pl n P B s) hx)
/-- Each block of so many bits has at most one place where two strings differ. -/
def AtMostOne (B n : Nat) (x y : List Bool) : Prop := ∀ i j, i < n → j < n → x.getD i false ≠ y.getD i false → x.getD j false ≠ y.getD j false → i / B = j / B → i = j
theorem places0_mem {s n f t : Nat} {x : Int} (h : x ∈ placesL s n ⟨0, f, t⟩) : (f : Int) ≤ x ∧ x < (t : Int) := by
  unfold placesL orderL idL at h
  simp only [if_true] at h
  obtain ⟨j, hj, rfl⟩ := List.mem_iff_getElem.1 h
  simp at hj ⊢
  omega
theorem places0_one {s n i : Nat} (h : i < n) : placesL s n ⟨0, i, i + 1⟩ = [(i : Int)] := by
  rw [one_place rfl (show i + 1 ≤ n from h)]
  simp [orderL, idL, h]
theorem sparse_end {n P B s : Nat} {x y : List Bool} {S : Mst} (hP : 1 ≤ P) (hB : 1 ≤ B) (hB5 : B ≤ 512) (hn : n ≤ 512) (hx : x.length = n) (hy : y.length = n) (h : InvT (pl n P B s) x y 0 S) (ho : S.opn = false) (ha : AtMostOne B n x y) : S.b = y := by
  obtain ⟨_, _, he⟩ := h.ended (L := pl n P B s) hB hx hy ho
  have hbl : S.b.length = n := h.inv.bl
  refine distL_zero (by rw [hbl, hy]) fun i hi => ?_
  rw [hbl] at hi
  have hs0 : sizeP B 0 = B := by unfold sizeP; omega
  have hm : ∀ j, j < n → S.b.getD j false ≠ y.getD j false → x.getD j false ≠ y.getD j false := fun j hj hne hxy => hne (h.mid j hj hxy)
  by_cases hne : S.b.getD i false = y.getD i false
  · exact hne
  exfalso
  have hBp : 0 < B := hB
  have hkB : i / B * B ≤ i := Nat.div_mul_le_self i B
  have hkB2 : i < i / B * B + B := by have := Nat.lt_div_mul_add hBp (a := i); exact this
  obtain ⟨k, hk⟩ : ∃ k, k = i / B := ⟨_, rfl⟩
  rw [← hk] at hkB hkB2
  obtain ⟨t, ht⟩ : ∃ t, t = min (k * B + B) n := ⟨_, rfl⟩
  have hq : (⟨0, k * B, t⟩ : Qn) ∈ blocksTo (pl n P B s) P := by
    unfold blocksTo
    rw [List.mem_flatMap]
    refine ⟨0, List.mem_range.2 hP, ?_⟩
    show _ ∈ cutL B n 0
    unfold cutL cutK
    rw [hs0, List.mem_map]
    refine ⟨k, List.mem_range.2 ((cutN_lt (n := n) (size := B) (k := k) hB).1 (by omega)), by rw [ht]⟩
  have hev := he _ hq
  change parL S.b (placesL s n ⟨0, k * B, t⟩) = parL y (placesL s n ⟨0, k * B, t⟩) at hev
  rw [places_split (m := i) hkB (by omega), places_split (f := i) (m := i + 1) (by omega) (by omega), places0_one hi, parL_append, parL_append, parL_append, parL_append, parL_one, parL_one] at hev
  have part : ∀ f u : Nat, k * B ≤ f → u ≤ t → (∀ z : Nat, f ≤ z → z < u → z ≠ i) → parL S.b (placesL s n ⟨0, f, u⟩) = parL y (placesL s n ⟨0, f, u⟩) := by
    intro f u hf hu hz
    by_cases e : parL S.b (placesL s n ⟨0, f, u⟩) = parL y (placesL s n ⟨0, f, u⟩)
    · exact e
    exfalso
    obtain ⟨z, hzm, hzn⟩ := parL_ne e
    obtain ⟨z1, z2⟩ := places0_mem hzm
    have z3 : z.toNat < n := by omega
    have z4 : i / B = z.toNat / B := by
      rw [← hk]
      have : k ≤ z.toNat / B := (Nat.le_div_iff_mul_le hBp).2 (by omega)
      have : z.toNat / B < k + 1 := (Nat.div_lt_iff_lt_mul hBp).2 (by rw [Nat.add_mul, Nat.one_mul]; omega)
      omega
    exact hz z.toNat (by omega) (by omega) (ha i z.toNat hi z3 (hm i hi hne) (hm _ z3 hzn) z4).symm
  rw [part (k * B) i (Nat.le_refl _) (by omega) (fun z _ h => by omega), part (i + 1) t (by omega) (Nat.le_refl _) (fun z h _ => by omega)] at hev
  simp only [Int.toNat_natCast] at hev
  revert hev hne
  cases S.b.getD i false <;> cases y.getD i false <;> cases parL y (placesL s n ⟨0, k * B, i⟩) <;> cases parL y (placesL s n ⟨0, i + 1, t⟩) <;> simp
theorem stepO_pre (L : Lay) (o : Mst → Option Bool) (z : Nat × Mst) : z.2.told <+: (stepO L o z).2.told := by
  unfold stepO
  split
  · rw [stepS_told]; exact List.prefix_refl _
  · split
    · split
      · exact List.prefix_append _ _
      · exact List.prefix_refl _
    · exact List.prefix_refl _
theorem itO_pre (L : Lay) (o : Mst → Option Bool) : ∀ (k : Nat) (z : Nat × Mst), z.2.told <+: (itO L o k z).2.told
  | 0, z => List.prefix_refl _
  | k + 1, z => (stepO_pre L o z).trans (itO_pre L o k _)
theorem GoT.pre {L : Lay} {o : Mst → Option Bool} {x z : Nat × Mst} (h : GoT L o x z) : x.2.told <+: z.2.told := by
  obtain ⟨k, rfl⟩ := h; exact itO_pre L o k x
theorem GoT.upto {L : Lay} {o : Mst → Option Bool} {x y z : Nat × Mst} (h : GoT L o x y) (k : GoT L o x z) (hz : Fin o z) : GoT L o y z := by
  obtain ⟨a, rfl⟩ := h
  obtain ⟨b, rfl⟩ := k
  by_cases hab : a ≤ b
  · obtain ⟨c, rfl⟩ : ∃ c, b = a + c := ⟨b - a, by omega⟩
    exact ⟨c, by rw [itO_add]⟩
  · obtain ⟨c, rfl⟩ : ∃ c, a = b + c := ⟨a - b, by omega⟩
    rw [itO_add, hz.stay]
    exact ⟨0, rfl⟩
theorem blind {L : Lay} {y w : List Bool} : ∀ (k : Nat) (z : Nat × Mst), (∀ a ∈ (itO L (oT L y) k z).2.told, a.2 = parL w (placesL L.s L.n a.1)) → itO L (oT L w) k z = itO L (oT L y) k z
  | 0, z, _ => rfl
  | k + 1, z, h => by
    have e : stepO L (oT L w) z = stepO L (oT L y) z := by
      have hp := itO_pre L (oT L y) k (stepO L (oT L y) z)
      change ∀ a ∈ (itO L (oT L y) k (stepO L (oT L y) z)).2.told, _ at h
      revert hp h
      generalize itO L (oT L y) k (stepO L (oT L y) z) = f
      unfold stepO
      split
      · intro _ _; rfl
      · split
        · simp only [oT]
          intro hp h
          have := h (z.2.next, parL y (placesL L.s L.n z.2.next)) (hp.subset (by simp [advS0, tellS]))
          simp only at this
          rw [this]
        · intro _ _; rfl
    show itO L (oT L w) k (stepO L (oT L w) z) = itO L (oT L y) k (stepO L (oT L y) z)
    rw [e]
    exact blind k _ h
theorem blind_go {L : Lay} {y w : List Bool} {x z : Nat × Mst} (h : GoT L (oT L y) x z) (ha : ∀ a ∈ z.2.told, a.2 = parL w (placesL L.s L.n a.1)) : GoT L (oT L w) x z := by
  obtain ⟨k, rfl⟩ := h
  exact ⟨k, blind k x ha⟩
end Go.Proofs.Ytoofnkkbebjldaa
/- Contracts of Answers and of strings in the forms that the statements use; answers in memory. Conditions: as each statement says. -/
namespace Go.Proofs.Ytoofnkkbebjldaa
open Go.RowKit
set_option linter.unusedVariables false
theorem aCells_at : ∀ (l : List (Qn × Bool)) (i : Nat) (h : i < l.length), (aCells l)[i * 4]? = some (.int .i64 (l[i]).1.p) ∧ (aCells l)[i * 4 + 1]? = some (.int .i64 (l[i]).1.f) ∧ (aCells l)[i * 4 + 2]? = some (.int .i64 (l[i]).1.t) ∧ (aCells l)[i * 4 + 3]? = some (.bool (l[i]).2)
  | [], _, h => by simp at h
  | a :: l, 0, _ => by simp [aCells]
  | a :: l, i + 1, h => by
    have := aCells_at l i (by simpa using h)
    simp only [aCells, List.getElem_cons_succ, show (i + 1) * 4 = i * 4 + 1 + 1 + 1 + 1 by omega, show i * 4 + 1 + 1 + 1 + 1 + 1 = i * 4 + 1 + 1 + 1 + 1 + 1 by omega, List.getElem?_cons_succ]
    exact this
theorem Rd.past {w w' : World} {sz n : Nat} {A : Option Addr} {xs : List Value} (h : Rd w w.heap.size sz A n xs) (hb : Below w.heap.size w w') : Rd w' w'.heap.size sz A n xs := (h.below hb).mono hb.size
theorem PlanAt.past {w w' : World} {H P B s : Nat} (h : PlanAt w H P B s) (hb : Below w.heap.size w w') : PlanAt w' H P B s := h.below hb (Nat.le_refl _)
theorem bnext {w0 w w' : World} (h : Below w0.heap.size w0 w) (hb : Below w.heap.size w w') : Below w0.heap.size w0 w' := h.trans (hb.mono h.size)
theorem strings_m (A Ae : Option Addr) (n c ne ce m : Nat) (bs xs : List Bool) (es : List Nat) (w : World) (hm : m = min n 128) (hxs : xs = bs.take 128) (hn : n ≤ c) (h : Rd w w.heap.size 1 A n (bs.map Value.bool)) (he : Rd w w.heap.size 1 Ae ne (u16s es)) (hes : ∀ x ∈ es, x < 65536) :
    Calls Try.prog 20 #[.slice A n c, .slice Ae ne ce] w (TwoP m xs w) := by
  rw [hm, hxs]; exact strings_any A Ae n c ne ce bs es w hn h he hes
set_option maxHeartbeats 2000000 in
theorem Answers_eq (A A' : Option Addr) (n c c' : Nat) (l : List (Qn × Bool)) (w : World) (hn : n ≤ 1073741824) (hl : l.length = n) (h : Rd w w.heap.size 4 A n (aCells l)) (h' : Rd w w.heap.size 4 A' n (aCells l)) :
    Calls Try.prog 17 #[.slice A n c, .slice A' n c'] w fun e w' => e = .returned (.bool true) ∧ Qw w w' := by
  have H := Lib.hid h; have H' := Lib.hid h'; have HL := Lib.hid hl; clear h h' hl
  have hne : ((n : Int) != (n : Int)) = false := by simp
  go_enter Try.func17, Try.ntmps17
  go_wp2_with fail
  go_loopw [5] (fun i wr => ∃ k : Nat, k ≤ n ∧ i = .int .i64 k ∧ Qw w wr) (fun i _ => n - (intOf i).toNat)
  case atStart => exact ⟨0, Nat.zero_le _, rfl, Qw.refl _⟩
  case round =>
    obtain ⟨k, hk, rfl, hq⟩ := hrel
    by_cases hlt : k < n
    · have hki : (k : Int) < (n : Int) := by omega
      obtain ⟨b, off, rfl, hb, hc⟩ := H.out.2 (by omega)
      obtain ⟨b', off', rfl, hb', hc'⟩ := H'.out.2 (by omega)
      have hlk : k < l.length := by rw [HL.out]; exact hlt
      obtain ⟨a0, a1, a2, a3⟩ := aCells_at l k hlk
      have d0 := (hq.cell _).trans (hc _ _ a0)
      have d1 := (hq.cell _).trans (hc _ _ a1)
      have d2 := (hq.cell _).trans (hc _ _ a2)
      have d3 := (hq.cell _).trans (hc _ _ a3)
      have e0 := (hq.cell _).trans (hc' _ _ a0)
      have e1 := (hq.cell _).trans (hc' _ _ a1)
      have e2 := (hq.cell _).trans (hc' _ _ a2)
      have e3 := (hq.cell _).trans (hc' _ _ a3)
      simp only [← Nat.add_assoc] at d1 d2 d3 e1 e2 e3
      clear a0 a1 a2 a3
      generalize l[k].1.p = x0 at d0 e0
      generalize l[k].1.f = x1 at d1 e1
      generalize l[k].1.t = x2 at d2 e2
      generalize l[k].2 = x3 at d3 e3
      have HQ := Lib.hid hq
      clear hc hc' hlk hq
      go_wp2_with fail
      go_quiet (fail)
      go_wp2_with fail
      go_roundw
      case rel => exact ⟨k + 1, by omega, by go_num, HQ.out.drewN _⟩
      case measure => simp [intOf]; omega
    · have hki : ¬ (k : Int) < (n : Int) := by omega
      go_wp2_with fail
      go_ret
      exact ⟨rfl, hq⟩
end Go.Proofs.Ytoofnkkbebjldaa
/- The document's course of a cascade in memory. Conditions: as each statement says. -/
namespace Go.Proofs.Ytoofnkkbebjldaa
open Go.RowKit
set_option linter.unusedVariables false
/-- Who answers: a true string, or a list of answers. -/
structure Src where
  ty : Bool
  ys : List Bool
  ans : List Bool
def oR (L : Lay) (Z : Src) (S : Mst) : Option Bool := if Z.ty = true then some (parL Z.ys (placesL L.s L.n S.next)) else Z.ans[S.told.length]?
/-- Where a course lies. -/
structure RLay where
  base : Nat
  p : Nat
  n : Nat
  P : Nat
  B : Nat
  s : Nat
  go : Nat
  co : Nat
  gk : Nat
  ck : Nat
  Ab : Option Addr
  cbt : Nat
  os : List (Option Addr × Nat)
  kb : Nat → Nat
def RLay.L (R : RLay) : Lay := pl R.n R.P R.B R.s
/-- What was told at a pass and a beginning. -/
def knL (told : List (Qn × Bool)) (p f : Nat) : List (Qn × Bool) := told.filter fun a => a.1.p == p && a.1.f == f
theorem knL_mem {told : List (Qn × Bool)} {p f : Nat} {a : Qn × Bool} (h : a ∈ knL told p f) : a.1.p = p ∧ a.1.f = f ∧ a ∈ told := by
  unfold knL at h
  rw [List.mem_filter] at h
  have := h.2
  simp at this
  exact ⟨this.1, this.2, h.1⟩
theorem knL_le (told : List (Qn × Bool)) (p f : Nat) : (knL told p f).length ≤ told.length := List.length_filter_le _ _
theorem knL_same (told : List (Qn × Bool)) (q : Qn) (a : Bool) : knL (told ++ [(q, a)]) q.p q.f = knL told q.p q.f ++ [(q, a)] := by simp [knL]
theorem knL_other (told : List (Qn × Bool)) (q : Qn) (a : Bool) {p f : Nat} (h : ¬ (q.p = p ∧ q.f = f)) : knL (told ++ [(q, a)]) p f = knL told p f := by
  unfold knL
  rw [List.filter_append]
  have : ((q.p == p && q.f == f)) = false := by
    rw [Bool.and_eq_false_iff]
    by_cases e : q.p = p
    · right; simp; exact fun g => h ⟨e, g⟩
    · left; simpa using e
  simp [this]
theorem knL_find (told : List (Qn × Bool)) (q : Qn) : (knL told q.p q.f).find? (fun a => decide (a.1 = q)) = told.find? (fun a => decide (a.1 = q)) := by
  unfold knL
  rw [List.find?_filter]
  congr 1
  funext a
  by_cases h : a.1 = q
  · subst h; simp
  · simp [h]
abbrev rCells (R : RLay) (S : Mst) (vt vl vy : Value) : Array Value :=
  #[.int .i64 R.P, .int .i64 R.B, .int .u64 R.s, .slice (some ⟨R.go, 0, none⟩) R.P R.co, .slice (some ⟨R.gk, 0, none⟩) R.P R.ck, .slice R.Ab R.n R.cbt, .int .i64 S.flips, vt, vl, vy, .int .i64 S.next.p, .int .i64 S.next.f, .int .i64 S.next.t, .bool S.opn, .bool S.failed]
/-- A block of none of the types that a course turns stays. -/
def KeepT (w w' : World) : Prop := ∀ (k : Nat) (cs : Array Value) (t : TypeId), w.heap[k]? = some (.cells cs t (0, 0)) → t ≠ 74 → t ≠ 4 → t ≠ 46 → t ≠ 27 → w'.heap[k]? = w.heap[k]?
/-- From w to w' nothing but the course's own has turned. -/
structure RTurn (base : Nat) (w w' : World) : Prop where
  below : Below base w w'
  keep : KeepT w w'
theorem RTurn.refl (base : Nat) (w : World) : RTurn base w w := ⟨Below.refl _ _, fun _ _ _ _ _ _ _ _ => rfl⟩
theorem RTurn.trans {base : Nat} {a b c : World} (h : RTurn base a b) (k : RTurn base b c) : RTurn base a c :=
  ⟨h.below.trans k.below, fun j cs t hj h1 h2 h3 h4 => (k.keep j cs t ((h.keep j cs t hj h1 h2 h3 h4).trans hj) h1 h2 h3 h4).trans (h.keep j cs t hj h1 h2 h3 h4)⟩
theorem RTurn.of {base : Nat} {w w' : World} (hb : Below w.heap.size w w') (h : base ≤ w.heap.size) : RTurn base w w' :=
  ⟨hb.mono h, fun j cs t hj _ _ _ _ => hb.block j (Array.getElem?_eq_some_iff.1 hj).1⟩
/-- A row of another type stays. -/
theorem ownsRow_r {w w' : World} {base B t sz n : Nat} {v : Value} {xs : List Value} (h : w.ownsRow B t sz v n xs) (hT : RTurn base w w') (h1 : t ≠ 74) (h2 : t ≠ 4) (h3 : t ≠ 46) (h4 : t ≠ 27) : w'.ownsRow B t sz v n xs := by
  refine ⟨h.1, ?_⟩
  rcases h.2 with hl | ⟨g, cap, cur, rfl, hb, hg, r⟩
  · exact .inl hl
  · exact .inr ⟨g, cap, cur, rfl, hb, (hT.keep g _ _ hg h1 h2 h3 h4).trans hg, r⟩
/-- What stays of a course. -/
structure RSt (w : World) (R : RLay) : Prop where
  hP : 1 ≤ R.P ∧ R.P ≤ 6
  hB : 1 ≤ R.B ∧ R.B ≤ 512
  hn : R.n ≤ 512
  hs : R.s < two64
  pc : R.P ≤ R.co ∧ R.P ≤ R.ck ∧ R.n ≤ R.cbt
  ol : R.os.length = R.P
  ord : w.ownsRow R.base 53 1 (.slice (some ⟨R.go, 0, none⟩) R.P R.co) R.P (R.os.map fun a => .slice a.1 R.n a.2)
  ordr : ∀ i A c, R.os[i]? = some (A, c) → R.n ≤ c ∧ w.ownsRow R.base 3 1 (.slice A R.n c) R.n ((orderL R.s R.n i).map (Value.int .i64))
  kno : w.ownsRow R.base 105 1 (.slice (some ⟨R.gk, 0, none⟩) R.P R.ck) R.P ((List.range R.P).map fun p => .slice (some ⟨R.kb p, 0, none⟩) R.n R.n)
theorem RSt.turn {w w' : World} {R : RLay} (h : RSt w R) (hT : RTurn R.base w w') : RSt w' R :=
  { h with
    ord := ownsRow_r h.ord hT (by decide) (by decide) (by decide) (by decide)
    ordr := fun i A c hi => ⟨(h.ordr i A c hi).1, ownsRow_r (h.ordr i A c hi).2 hT (by decide) (by decide) (by decide) (by decide)⟩
    kno := ownsRow_r h.kno hT (by decide) (by decide) (by decide) (by decide) }
/-- The lists of known answers. -/
structure RKn (w : World) (R : RLay) (kv : Nat → Nat → Value) (vt : Value) (told : List (Qn × Bool)) : Prop where
  out : ∀ p, p < R.P → w.ownsRow R.base 27 1 (.slice (some ⟨R.kb p, 0, none⟩) R.n R.n) R.n ((List.range R.n).map (kv p))
  row : ∀ p f, p < R.P → f < R.n → w.ownsRow R.base 46 4 (kv p f) (knL told p f).length (aCells (knL told p f))
  apart : ∀ p f p' f', p < R.P → f < R.n → p' < R.P → f' < R.n → ¬ (p = p' ∧ f = f') → Apart (kv p f) (kv p' f')
  apT : ∀ p f, p < R.P → f < R.n → Apart (kv p f) vt
  inj : ∀ p p', p < R.P → p' < R.P → p ≠ p' → R.kb p ≠ R.kb p'
/-- Where the answers come from. -/
def RSrc (w : World) (R : RLay) (Z : Src) (vl vy : Value) (k : Nat) : Prop :=
  if Z.ty = true then (∃ A c, vy = .slice A R.n c ∧ R.n ≤ c ∧ Rd w R.base 1 A R.n (Z.ys.map Value.bool)) ∧ Z.ans = [] ∧ vl = .slice none 0 0
  else vy = .slice none 0 0 ∧ ∃ A c, vl = .slice A (Z.ans.drop k).length c ∧ (Z.ans.drop k).length ≤ c ∧ Rd w R.base 1 A (Z.ans.drop k).length ((Z.ans.drop k).map Value.bool)
theorem RSrc.turn {w w' : World} {R : RLay} {Z : Src} {vl vy : Value} {k : Nat} (h : RSrc w R Z vl vy k) (hb : Below R.base w w') : RSrc w' R Z vl vy k := by
  unfold RSrc at *
  split at h
  · rename_i e
    rw [if_pos e]
    obtain ⟨⟨A, c, h1, h2, h3⟩, h4⟩ := h
    exact ⟨⟨A, c, h1, h2, h3.below hb⟩, h4⟩
  · rename_i e
    rw [if_neg e]
    obtain ⟨h1, A, c, h2, h3, h4⟩ := h
    exact ⟨h1, A, c, h2, h3, h4.below hb⟩
/-- The course at R.p is S. -/
structure RAt (w : World) (R : RLay) (Z : Src) (kv : Nat → Nat → Value) (vt vl vy : Value) (S : Mst) : Prop where
  cells : w.heap[R.p]? = some (.cells (rCells R S vt vl vy) 74 (0, 0))
  told : w.ownsRow R.base 46 4 vt S.told.length (aCells S.told)
  bits : w.ownsRow R.base 4 1 (.slice R.Ab R.n R.cbt) R.n (S.b.map Value.bool)
  known : RKn w R kv vt S.told
  pb : R.base ≤ R.p
  st : RSt w R
  src : RSrc w R Z vl vy S.told.length
theorem RAt.lt {w : World} {R : RLay} {Z : Src} {kv : Nat → Nat → Value} {vt vl vy : Value} {S : Mst} (h : RAt w R Z kv vt vl vy S) : R.p < w.heap.size := (Array.getElem?_eq_some_iff.1 h.cells).1
theorem RAt.bw {w : World} {R : RLay} {Z : Src} {kv : Nat → Nat → Value} {vt vl vy : Value} {S : Mst} (h : RAt w R Z kv vt vl vy S) : R.base ≤ w.heap.size := Nat.le_trans h.pb (Nat.le_of_lt h.lt)
theorem RAt.cell {w : World} {R : RLay} {Z : Src} {kv : Nat → Nat → Value} {vt vl vy : Value} {S : Mst} (h : RAt w R Z kv vt vl vy S) (o : Nat) : w.cell? ⟨R.p, o, none⟩ = (rCells R S vt vl vy)[o]? := cell_of_row _ _ _ _ _ _ h.cells
theorem RAt.frozen {w : World} {R : RLay} {Z : Src} {kv : Nat → Nat → Value} {vt vl vy : Value} {S : Mst} (h : RAt w R Z kv vt vl vy S) (o : Nat) : w.frozen? ⟨R.p, o, none⟩ = false := by simp [World.frozen?, h.cells]
theorem RKn.below {w w' : World} {R : RLay} {kv : Nat → Nat → Value} {vt : Value} {told : List (Qn × Bool)} (h : RKn w R kv vt told) (hb : Below w.heap.size w w') : RKn w' R kv vt told :=
  { h with
    out := fun p hp => ownsRow_below (h.out p hp) hb (Nat.le_refl _)
    row := fun p f hp hf => ownsRow_below (h.row p f hp hf) hb (Nat.le_refl _) }
theorem RAt.below {w w' : World} {R : RLay} {Z : Src} {kv : Nat → Nat → Value} {vt vl vy : Value} {S : Mst} (h : RAt w R Z kv vt vl vy S) (hb : Below w.heap.size w w') : RAt w' R Z kv vt vl vy S where
  cells := (hb.block _ h.lt).trans h.cells
  told := ownsRow_below h.told hb (Nat.le_refl _)
  bits := ownsRow_below h.bits hb (Nat.le_refl _)
  known := h.known.below hb
  pb := h.pb
  st := h.st.turn (.of hb h.bw)
  src := h.src.turn (hb.mono h.bw)
theorem RAt.q {w w' : World} {R : RLay} {Z : Src} {kv : Nat → Nat → Value} {vt vl vy : Value} {S : Mst} (h : RAt w R Z kv vt vl vy S) (hq : Qw w w') : RAt w' R Z kv vt vl vy S := h.below (hq.below _)
theorem row_ne {w : World} {B t sz n g : Nat} {v : Value} {xs : List Value} {cs : Array Value} {t' : TypeId} (h : w.ownsRow B t sz v n xs) (hg : w.heap[g]? = some (.cells cs t' (0, 0))) (ht : t ≠ t') : v.ownBlock ≠ some g := fun e => type_ne h e hg ht
/-- A store into the course's own cells. -/
theorem RAt.set {w : World} {R : RLay} {Z : Src} {kv : Nat → Nat → Value} {vt vl vy : Value} {S : Mst} (h : RAt w R Z kv vt vl vy S) (o : Nat) (u : Value) (S' : Mst) {vl' : Value} (hc : (rCells R S vt vl vy).setIfInBounds o u = rCells R S' vt vl' vy) (hb : S'.b = S.b) (ht : S'.told = S.told)
    (hsrc : RSrc w R Z vl' vy S.told.length) : RAt (w.setCell ⟨R.p, o, none⟩ u) R Z kv vt vl' vy S' where
  cells := by rw [← hc]; exact blk_setR h.cells u
  told := by rw [ht]; exact ownsRow_setCell_other h.told (row_ne h.told h.cells (by decide)) u
  bits := by rw [hb]; exact ownsRow_setCell_other h.bits (row_ne h.bits h.cells (by decide)) u
  known := by
    rw [ht]
    exact { h.known with
      out := fun p hp => ownsRow_setCell_other (h.known.out p hp) (row_ne (h.known.out p hp) h.cells (by decide)) u
      row := fun p f hp hf => ownsRow_setCell_other (h.known.row p f hp hf) (row_ne (h.known.row p f hp hf) h.cells (by decide)) u }
  pb := h.pb
  st := { h.st with
    ord := ownsRow_setCell_other h.st.ord (row_ne h.st.ord h.cells (by decide)) u
    ordr := fun i A c hi => ⟨(h.st.ordr i A c hi).1, ownsRow_setCell_other (h.st.ordr i A c hi).2 (row_ne (h.st.ordr i A c hi).2 h.cells (by decide)) u⟩
    kno := ownsRow_setCell_other h.st.kno (row_ne h.st.kno h.cells (by decide)) u }
  src := by
    rw [ht]
    exact hsrc.turn ((Below.refl _ _).setCell (p := ⟨R.p, o, none⟩) h.pb u)
theorem RTurn.set {w : World} {base p o : Nat} {cs : Array Value} (hc : w.heap[p]? = some (.cells cs 74 (0, 0))) (hb : base ≤ p) (u : Value) : RTurn base w (w.setCell ⟨p, o, none⟩ u) :=
  ⟨(Below.refl _ _).setCell (p := ⟨p, o, none⟩) hb u, fun k cs' t hk h1 _ _ _ => Below.heap_setCell _ _ _ _ (fun e => by
    simp only at e
    subst e
    have := hc.symm.trans hk
    injection this with this
    injection this with _ e _
    exact h1 e.symm)⟩
end Go.Proofs.Ytoofnkkbebjldaa
/- Contracts of odd and answer of the document's course. Conditions: as each statement says. -/
namespace Go.Proofs.Ytoofnkkbebjldaa
open Go.RowKit
set_option linter.unusedVariables false
abbrev ptrR (R : RLay) : Value := .pointer (some ⟨R.p, 0, none⟩)
set_option maxRecDepth 100000 in
set_option maxHeartbeats 1000000 in
theorem rodd_any (R : RLay) (Z : Src) (kv : Nat → Nat → Value) (vt vl vy : Value) (S : Mst) (q : Qn) (a : Bool) (w : World) (hm : RAt w R Z kv vt vl vy S) (hq : QIn R.L q) :
    Calls Try.prog 74 #[ptrR R, kq q, .bool a] w fun e w' => e = .returned (.bool (oddB R.L S.b q a)) ∧ Below w.heap.size w w' := by
  obtain ⟨qp, qf, qt⟩ := q
  obtain ⟨hqp, hft, hqt⟩ := hq
  dsimp only at hqp hft hqt
  have hqp : qp < R.P := hqp
  have hqt : qt ≤ R.n := hqt
  obtain ⟨w1, hw1⟩ : ∃ w1, w1 = w.alloc (.cells #[.int .i64 qp, .int .i64 qf, .int .i64 qt] 44) := ⟨_, rfl⟩
  have hb1 : Below w.heap.size w w1 := by rw [hw1]; exact (Below.refl _ _).alloc (Nat.le_refl _) _
  have hm1 := hm.below hb1
  have hbk : w1.heap[w.heap.size]? = some (.cells #[.int .i64 qp, .int .i64 qf, .int .i64 qt] 44 (0, 0)) := by rw [hw1]; exact heap_alloc_new w _
  have q0 : w1.cell? ⟨w.heap.size, 0, none⟩ = some (.int .i64 qp) := by rw [cell_of_row _ _ _ _ _ _ hbk]; rfl
  have q1 : w1.cell? ⟨w.heap.size, 1, none⟩ = some (.int .i64 qf) := by rw [cell_of_row _ _ _ _ _ _ hbk]; rfl
  have q2 : w1.cell? ⟨w.heap.size, 2, none⟩ = some (.int .i64 qt) := by rw [cell_of_row _ _ _ _ _ _ hbk]; rfl
  have c3 : w1.cell? ⟨R.p, 3, none⟩ = some (.slice (some ⟨R.go, 0, none⟩) R.P R.co) := hm1.cell 3
  have c5 : w1.cell? ⟨R.p, 5, none⟩ = some (.slice R.Ab R.n R.cbt) := hm1.cell 5
  have hql : qp < R.os.length := by rw [hm1.st.ol]; exact hqp
  obtain ⟨A, c, hA⟩ : ∃ A c, R.os[qp]? = some (A, c) := ⟨_, _, List.getElem?_eq_getElem hql⟩
  have co : w1.cell? ⟨R.go, qp, none⟩ = some (.slice A R.n c) := by
    rw [hm1.st.ord.cellAt qp (by omega), List.getElem?_map, hA]; rfl
  obtain ⟨hnc, hro⟩ := hm1.st.ordr qp A c hA
  obtain ⟨A2, hsl, hr2⟩ := slice_cut (P := Try.prog) (t := 53) (sz := 1) Try.underlying53 Try.sizeOf3 (Rd.own hro) qf qt c hft hqt hnc
  have hn := hm1.st.hn
  have HR : Hid (Rd w1 w1.heap.size 1 A2 (qt - qf) ((placesL R.s R.n ⟨qp, qf, qt⟩).map (Value.int .i64))) := Lib.hid (by
    simpa [placesL, List.map_drop, List.map_take] using hr2)
  have HB := Lib.hid (Rd.own hm1.bits)
  have HP : Hid (∀ k : Nat, Calls Try.prog 54 #[.slice R.Ab R.n R.cbt, .slice A2 (qt - qf) (c - qf)] (w1.drewN k) fun e w' => e = .returned (.bool (parL S.b (placesL R.s R.n ⟨qp, qf, qt⟩))) ∧ w1.drewN k = w') := Lib.hid fun k =>
    refparity_any R.Ab A2 R.n R.cbt (qt - qf) (c - qf) S.b (placesL R.s R.n ⟨qp, qf, qt⟩) _ _ (by omega) (by omega) (HB.out.drewN k) (HR.out.drewN k) (fun x hx => placesL_mem hx)
  have HO : Hid (oddB R.L S.b ⟨qp, qf, qt⟩ a = (parL S.b (placesL R.s R.n ⟨qp, qf, qt⟩) != a)) := Lib.hid rfl
  have i1 : (qp : Int) < (R.P : Int) := by omega
  have HW := Lib.hid hw1
  clear hw1 hm hm1 hbk hr2 hro hA hql
  generalize parL S.b (placesL R.s R.n ⟨qp, qf, qt⟩) = pv at HP HO
  go_enter Try.func74, Try.ntmps74
  go_wp2_with fail
  rw [← HW.out]
  go_quiet ((go_at_call 54; exact quiet_e (HP.out _)))
  go_wp2_with fail
  go_ret
  exact ⟨by rw [HO.out]; rfl, hb1.trans (Qw.below ⟨_, rfl⟩ _)⟩
end Go.Proofs.Ytoofnkkbebjldaa
/- Contracts of set, has, add of the rows of the program's Rank. Conditions: as each statement says. -/
namespace Go.Proofs.Ytoofnkkbebjldaa
open Go.RowKit
set_option linter.unusedVariables false
/-- The words of a row. -/
structure WordsAt (w : World) (H : Nat) (ws : List Nat) : Prop where
  blk : w.heap[H]? = some (.cells (ws.map fun x : Nat => Value.int .u64 x).toArray 98 (0, 0))
  len : ws.length = 8
  lt : ∀ i, ws.getD i 0 < two64
def bitW (ws : List Nat) (i : Nat) : Bool := (ws.getD (i / 64) 0).testBit (i % 64)
theorem WordsAt.cell {w : World} {H : Nat} {ws : List Nat} (h : WordsAt w H ws) {j : Nat} (hj : j < 8) : w.cell? ⟨H, j, none⟩ = some (.int .u64 (ws.getD j 0 : Nat)) := by
  rw [cell_of_row _ _ _ _ _ _ h.blk]
  have := h.len
  simp [List.getD_eq_getElem?_getD, List.getElem?_eq_getElem (show j < ws.length by omega)]
theorem WordsAt.frozen {w : World} {H : Nat} {ws : List Nat} (h : WordsAt w H ws) (j : Nat) : w.frozen? ⟨H, j, none⟩ = false := by simp [World.frozen?, h.blk]
theorem WordsAt.set {w : World} {H : Nat} {ws : List Nat} (h : WordsAt w H ws) {j x : Nat} (hj : j < 8) (hx : x < two64) : WordsAt (w.setCell ⟨H, j, none⟩ (.int .u64 x)) H (ws.set j x) where
  blk := by
    have := blk_setR (o := j) h.blk (.int .u64 x)
    rw [this]
    simp [List.map_set]
  len := by rw [List.length_set]; exact h.len
  lt := fun i => by
    rw [List.getD_eq_getElem?_getD, List.getElem?_set]
    split
    · split
      · exact hx
      · decide
    · rw [← List.getD_eq_getElem?_getD]; exact h.lt i
theorem WordsAt.q {w w' : World} {H : Nat} {ws : List Nat} (h : WordsAt w H ws) (hq : Qw w w') : WordsAt w' H ws := ⟨by rw [hq.heap]; exact h.blk, h.len, h.lt⟩
theorem WordsAt.below {w w' : World} {H B : Nat} {ws : List Nat} (h : WordsAt w H ws) (hb : Below B w w') (hB : H < B) : WordsAt w' H ws := ⟨(hb.block _ hB).trans h.blk, h.len, h.lt⟩
theorem only_set (w : World) (H j k : Nat) (u : Value) : w.grownBy ((w.drewN k).setCell ⟨H, j, none⟩ u) (some H) :=
  ⟨rfl, rfl, rfl, by simp [World.setCell], fun b _ hb => (Below.heap_setCell _ _ _ _ (by simpa using hb)).trans rfl⟩
theorem wrap_nat64 (y : Nat) (h : y < two64) : IntKind.u64.wrap (y : Int) = (y : Int) := by
  rw [IntKind.wrap_u64]; unfold two64 at h; omega
set_option maxHeartbeats 1000000 in
theorem set_any (H i : Nat) (ws : List Nat) (w : World) (h : WordsAt w H ws) (hi : i < 512) :
    Calls Try.prog 60 #[.pointer (some ⟨H, 0, none⟩), .int .i64 i] w fun e w' => e = .returned (.tuple #[]) ∧ WordsAt w' H (ws.set (i / 64) (ws.getD (i / 64) 0 ^^^ 2 ^ (i % 64))) ∧ w.grownBy w' (some H) := by
  have hj : i / 64 < 8 := by omega
  have c0 := h.cell hj
  have f0 := h.frozen (i / 64)
  have hlt := h.lt (i / 64)
  generalize ws.getD (i / 64) 0 = x at c0 hlt ⊢
  have j1 : (0 : Int) ≤ (i : Int) / 64 := by omega
  have j2 : (i : Int) / 64 < 8 := by omega
  have j3 : ((i : Int) / 64).toNat = i / 64 := by omega
  have j4 : (0 : Int) ≤ (i : Int) % 64 := by omega
  go_enter Try.func60, Try.ntmps60
  have hi64 : i % 64 < 64 := Nat.mod_lt _ (by decide)
  have hp : 2 ^ (i % 64) < two64 := Nat.lt_of_lt_of_le (show 2 ^ (i % 64) < 2 ^ 64 from Nat.pow_lt_pow_right (by decide) hi64) (by decide)
  have hx : bits BinOp.xor IntKind.u64 (x : Int) (IntKind.u64.wrap (2 ^ (i % 64))) = ((x ^^^ 2 ^ (i % 64) : Nat) : Int) := by
    have e : IntKind.u64.wrap (2 ^ (i % 64)) = ((2 ^ (i % 64) : Nat) : Int) := by
      have : ((2 ^ (i % 64) : Nat) : Int) = 2 ^ (i % 64) := by simp
      rw [← this]
      exact wrap_nat64 _ hp
    rw [e]
    exact u64_xor_nat _ _ hlt hp
  go_region
  have hxl : x ^^^ 2 ^ (i % 64) < two64 := Nat.xor_lt_two_pow (n := 64) hlt hp
  have hs := h.set hj hxl
  have hq := hs.q (⟨1, rfl⟩ : Qw _ (World.drew _))
  generalize x ^^^ 2 ^ (i % 64) = y at hq ⊢
  go_end0
  exact ⟨rfl, hq, ⟨rfl, rfl, rfl, by simp [World.setCell], fun b _ hb => Below.heap_setCell _ _ _ _ (by simpa using hb)⟩⟩
theorem has_val (x k : Nat) (hx : x < two64) (hk : k < 64) : (bits BinOp.and IntKind.u64 ((x : Int) / 2 ^ k) 1 == 1) = x.testBit k := by
  have e : (x : Int) / 2 ^ k = ((x / 2 ^ k : Nat) : Int) := by simp
  have hl : x / 2 ^ k < two64 := Nat.lt_of_le_of_lt (Nat.div_le_self _ _) hx
  rw [e, mask_odd hl, Nat.testBit_eq_decide_div_mod_eq]
  rw [Bool.eq_iff_iff]; simp
set_option maxHeartbeats 1000000 in
theorem has_any (H i : Nat) (ws : List Nat) (w : World) (h : WordsAt w H ws) (hi : i < 512) :
    Calls Try.prog 61 #[.pointer (some ⟨H, 0, none⟩), .int .i64 i] w fun e w' => e = .returned (.bool (bitW ws i)) ∧ w = w' := by
  have hj : i / 64 < 8 := by omega
  have c0 := h.cell hj
  have hlt := h.lt (i / 64)
  have hb : bitW ws i = (ws.getD (i / 64) 0).testBit (i % 64) := rfl
  have HB := Lib.hid hb
  clear hb
  generalize ws.getD (i / 64) 0 = x at c0 hlt HB
  have HV := Lib.hid (has_val x (i % 64) hlt (by omega))
  have j1 : (0 : Int) ≤ (i : Int) / 64 := by omega
  have j2 : (i : Int) / 64 < 8 := by omega
  have j3 : ((i : Int) / 64).toNat = i / 64 := by omega
  have j4 : (0 : Int) ≤ (i : Int) % 64 := by omega
  go_enter Try.func61, Try.ntmps61
  go_wp2_with fail
  go_ret
  refine ⟨?_, rfl⟩
  rw [HB.out, ← HV.out]
  rfl
/-- Two rows added, up to a word. -/
def xw (ws vs : List Nat) (k : Nat) : List Nat := (List.range 8).map fun j => if j < k then ws.getD j 0 ^^^ vs.getD j 0 else ws.getD j 0
theorem xw_get (ws vs : List Nat) (k : Nat) {j : Nat} (hj : j < 8) : (xw ws vs k).getD j 0 = if j < k then ws.getD j 0 ^^^ vs.getD j 0 else ws.getD j 0 := by
  simp [xw, List.getD_eq_getElem?_getD, hj]
theorem xw_zero {ws : List Nat} (vs : List Nat) (h : ws.length = 8) : xw ws vs 0 = ws := by
  apply List.ext_getElem (by simp [xw, h])
  intro i h1 h2
  simp [xw, List.getD_eq_getElem?_getD, List.getElem?_eq_getElem h2]
theorem xw_set (ws vs : List Nat) {k : Nat} (hk : k < 8) : (xw ws vs k).set k (ws.getD k 0 ^^^ vs.getD k 0) = xw ws vs (k + 1) := by
  apply List.ext_getElem (by simp [xw])
  intro i h1 h2
  rw [List.getElem_set]
  simp only [xw, List.getElem_map, List.getElem_range]
  by_cases e : k = i
  · subst e; simp
  · rw [if_neg e]
    by_cases g : i < k
    · rw [if_pos g, if_pos (by omega)]
    · rw [if_neg g, if_neg (by omega)]
set_option maxHeartbeats 2000000 in
theorem add_any (H H2 : Nat) (ws vs : List Nat) (w : World) (h : WordsAt w H ws) (h2 : WordsAt w H2 vs) (hne : H ≠ H2) :
    Calls Try.prog 62 #[.pointer (some ⟨H, 0, none⟩), .pointer (some ⟨H2, 0, none⟩)] w fun e w' => e = .returned (.tuple #[]) ∧ WordsAt w' H (xw ws vs 8) ∧ w.grownBy w' (some H) := by
  have HW := Lib.hid h; have HV := Lib.hid h2; have HN := Lib.hid hne
  clear h h2 hne
  go_enter Try.func62, Try.ntmps62
  go_wp2_with fail
  go_loopw [5] (fun i wr => ∃ k : Nat, k ≤ 8 ∧ i = .int .i64 k ∧ WordsAt wr H (xw ws vs k) ∧ w.grownBy wr (some H)) (fun i _ => 8 - (intOf i).toNat)
  case atStart => exact ⟨0, by omega, rfl, by rw [xw_zero vs HW.out.len]; exact HW.out, ⟨rfl, rfl, rfl, Nat.le_refl _, fun _ _ _ => rfl⟩⟩
  case round =>
    obtain ⟨k, hk, rfl, hws, hg⟩ := hrel
    by_cases hlt : k < 8
    · have hki : (k : Int) < 8 := by omega
      have c0 := hws.cell hlt
      have f0 := hws.frozen k
      have h2lt : H2 < w.heap.size := (Array.getElem?_eq_some_iff.1 HV.out.blk).1
      have hv2 : WordsAt wr H2 vs := ⟨(hg.block _ h2lt (fun e => HN.out (by injection e with e; exact e.symm))).trans HV.out.blk, HV.out.len, HV.out.lt⟩
      have c1 := hv2.cell hlt
      rw [xw_get _ _ _ hlt, if_neg (Nat.lt_irrefl k)] at c0
      have l1 := HW.out.lt k; have l2 := HV.out.lt k
      have hs := hws.set hlt (x := ws.getD k 0 ^^^ vs.getD k 0) (Nat.xor_lt_two_pow (n := 64) l1 l2)
      rw [xw_set _ _ hlt] at hs
      have HS := Lib.hid hs; have HG := Lib.hid hg
      have hx : bits BinOp.xor IntKind.u64 ((ws.getD k 0 : Nat) : Int) ((vs.getD k 0 : Nat) : Int) = ((ws.getD k 0 ^^^ vs.getD k 0 : Nat) : Int) := u64_xor_nat _ _ l1 l2
      generalize ws.getD k 0 = x at c0 hx HS
      generalize vs.getD k 0 = y at c1 hx HS
      clear hws hs hg hv2 l1 l2
      go_wp2_with fail
      go_region
      go_wp2_with fail
      go_roundw
      case rel => exact ⟨k + 1, hlt, by go_num, HS.out.q (⟨1, rfl⟩ : Qw _ (World.drew _)), ⟨HG.out.os, HG.out.tape, HG.out.output, by have := HG.out.size; simpa [World.setCell] using this, fun b h1 h2 => (Below.heap_setCell _ _ _ _ (by simpa using h2)).trans (HG.out.block b h1 h2)⟩⟩
      case measure => simp [intOf]; omega
    · obtain rfl : k = 8 := by omega
      have hki : ¬ ((8 : Int) < 8) := by omega
      go_wp2_with fail
      go_end0
      exact ⟨rfl, hws, hg⟩
/-- A row's bits. -/
def RowW (w : World) (H : Nat) (r : List Bool) : Prop := ∃ ws, WordsAt w H ws ∧ ∀ i, i < 512 → bitW ws i = r.getD i false
theorem testBit_xor_pow (x i : Nat) {j k : Nat} : (x ^^^ 2 ^ k).testBit j = (x.testBit j != decide (k = j)) := by
  rw [Nat.testBit_xor, Nat.testBit_two_pow]
theorem RowW.lt {w : World} {H : Nat} {r : List Bool} (h : RowW w H r) : H < w.heap.size := by
  obtain ⟨ws, h, _⟩ := h; exact (Array.getElem?_eq_some_iff.1 h.blk).1
theorem RowW.keep {w w' : World} {H : Nat} {r : List Bool} (h : RowW w H r) (hk : w'.heap[H]? = w.heap[H]?) : RowW w' H r := by
  obtain ⟨ws, h, hb⟩ := h; exact ⟨ws, ⟨hk.trans h.blk, h.len, h.lt⟩, hb⟩
theorem bitW_set {ws : List Nat} (hl : ws.length = 8) {i j : Nat} (hi : i < 512) (hj : j < 512) : bitW (ws.set (i / 64) (ws.getD (i / 64) 0 ^^^ 2 ^ (i % 64))) j = (bitW ws j != decide (i = j)) := by
  unfold bitW
  rw [List.getD_eq_getElem?_getD, List.getElem?_set]
  by_cases e : i / 64 = j / 64
  · rw [if_pos e, if_pos (by omega)]
    simp only [Option.getD_some]
    rw [testBit_xor_pow _ 0, e]
    congr 1
    rw [decide_eq_decide]; omega
  · rw [if_neg e, ← List.getD_eq_getElem?_getD]
    rw [show decide (i = j) = false by rw [decide_eq_false_iff_not]; rintro rfl; exact e rfl]
    simp
theorem flipL_getD (r : List Bool) (i j : Nat) (hi : i < r.length) : (r.set i (!(r.getD i false))).getD j false = (r.getD j false != decide (i = j)) := by
  rw [List.getD_eq_getElem?_getD, List.getElem?_set]
  by_cases e : i = j
  · subst e; rw [if_pos rfl, if_pos hi]; simp
  · rw [if_neg e, ← List.getD_eq_getElem?_getD]; simp [e]
theorem set_row (H i : Nat) (r : List Bool) (w : World) (h : RowW w H r) (hi : i < r.length) (hr : r.length ≤ 512) :
    Calls Try.prog 60 #[.pointer (some ⟨H, 0, none⟩), .int .i64 i] w fun e w' => e = .returned (.tuple #[]) ∧ RowW w' H (r.set i (!(r.getD i false))) ∧ w.grownBy w' (some H) := by
  obtain ⟨ws, h, hb⟩ := h
  refine (set_any H i ws w h (by omega)).mono fun e w' ⟨he, hw, hg⟩ => ⟨he, ⟨_, hw, fun j hj => ?_⟩, hg⟩
  rw [bitW_set h.len (by omega) hj, hb j hj, flipL_getD _ _ _ hi]
theorem has_row (H i : Nat) (r : List Bool) (w : World) (h : RowW w H r) (hi : i < 512) :
    Calls Try.prog 61 #[.pointer (some ⟨H, 0, none⟩), .int .i64 i] w fun e w' => e = .returned (.bool (r.getD i false)) ∧ w = w' := by
  obtain ⟨ws, h, hb⟩ := h
  rw [← hb i hi]
  exact has_any H i ws w h hi
theorem add_row (H H2 : Nat) (r s : List Bool) (w : World) (h : RowW w H r) (h2 : RowW w H2 s) (hne : H ≠ H2) (hl : r.length = s.length) :
    Calls Try.prog 62 #[.pointer (some ⟨H, 0, none⟩), .pointer (some ⟨H2, 0, none⟩)] w fun e w' => e = .returned (.tuple #[]) ∧ RowW w' H (xorV r s) ∧ w.grownBy w' (some H) := by
  obtain ⟨ws, h, hb⟩ := h
  obtain ⟨vs, h2, hb2⟩ := h2
  refine (add_any H H2 ws vs w h h2 hne).mono fun e w' ⟨he, hw, hg⟩ => ⟨he, ⟨_, hw, fun j hj => ?_⟩, hg⟩
  rw [xorV_get _ _ hl, ← hb j hj, ← hb2 j hj]
  unfold bitW
  rw [xw_get _ _ _ (by omega), if_pos (by omega), Nat.testBit_xor]
theorem row_new (w : World) (n : Nat) : RowW (w.alloc (.cells #[.int .u64 0, .int .u64 0, .int .u64 0, .int .u64 0, .int .u64 0, .int .u64 0, .int .u64 0, .int .u64 0] 98)) w.heap.size (List.replicate n false) := by
  refine ⟨List.replicate 8 0, ⟨heap_alloc_new w _, rfl, fun i => ?_⟩, fun i hi => ?_⟩
  · rw [List.getD_eq_getElem?_getD, List.getElem?_replicate]; split <;> decide
  · unfold bitW
    rw [List.getD_eq_getElem?_getD, List.getD_eq_getElem?_getD, List.getElem?_replicate, List.getElem?_replicate]
    split <;> split <;> simp
end Go.Proofs.Ytoofnkkbebjldaa
/- What Rank says, in plain terms, and the program's leading rows in memory. Conditions: as each statement says. -/
namespace Go.Proofs.Ytoofnkkbebjldaa
open Go.RowKit
set_option linter.unusedVariables false
/-- The row of some places: each place inverts a bit. -/
def rowF (n : Nat) (l : List Int) : List Bool := l.foldl (fun r x => r.set x.toNat (!(r.getD x.toNat false))) (List.replicate n false)
/-- The row of some places: each place is set. -/
def rowT (n : Nat) (l : List Int) : List Bool := l.foldl (fun r x => r.set x.toNat true) (List.replicate n false)
theorem rowF_snoc (n : Nat) (l : List Int) (x : Int) : rowF n (l ++ [x]) = (rowF n l).set x.toNat (!((rowF n l).getD x.toNat false)) := by simp [rowF]
theorem rowT_snoc (n : Nat) (l : List Int) (x : Int) : rowT n (l ++ [x]) = (rowT n l).set x.toNat true := by simp [rowT]
theorem gd_eq (l : List Bool) (j : Nat) (h : j < l.length) : l[j] = l.getD j false := by simp [List.getD_eq_getElem?_getD, h]
theorem rowF_len (n : Nat) : ∀ l, (rowF n l).length = n := snoc_ind (by simp [rowF]) fun l x ih => by rw [rowF_snoc, List.length_set, ih]
theorem rowT_len (n : Nat) : ∀ l, (rowT n l).length = n := snoc_ind (by simp [rowT]) fun l x ih => by rw [rowT_snoc, List.length_set, ih]
theorem rowT_get (n : Nat) (j : Nat) (hj : j < n) : ∀ l : List Int, (rowT n l).getD j false = decide (∃ x ∈ l, x.toNat = j) := by
  refine snoc_ind ?_ fun l x ih => ?_
  · simp [rowT, List.getD_eq_getElem?_getD, hj]
  · rw [rowT_snoc, List.getD_eq_getElem?_getD, List.getElem?_set, rowT_len]
    by_cases e : x.toNat = j
    · rw [if_pos e, if_pos (by omega)]
      simp [e]
    · rw [if_neg e, ← List.getD_eq_getElem?_getD, ih]
      rw [Bool.eq_iff_iff]
      simp only [decide_eq_true_eq, List.mem_append, List.mem_singleton]
      constructor
      · rintro ⟨y, hy, h⟩; exact ⟨y, .inl hy, h⟩
      · rintro ⟨y, hy | rfl, h⟩
        · exact ⟨y, hy, h⟩
        · exact absurd h e
/-- Where no place comes twice both rows are one. -/
theorem rowF_eq (n : Nat) : ∀ l : List Int, l.Nodup → (∀ x ∈ l, 0 ≤ x ∧ x < n) → rowF n l = rowT n l := by
  refine snoc_ind (fun _ _ => rfl) fun l x ih hd hx => ?_
  have hd' := List.nodup_append.1 hd
  have hxx := hx x (by simp)
  rw [rowF_snoc, rowT_snoc, ih hd'.1 (fun y hy => hx y (by simp [hy])), rowT_get n _ (by omega)]
  have : decide (∃ y ∈ l, y.toNat = x.toNat) = false := by
    rw [decide_eq_false_iff_not]
    rintro ⟨y, hy, h⟩
    have := hx y (by simp [hy])
    obtain rfl : y = x := by omega
    exact hd'.2.2 y hy y (by simp) rfl
  rw [this]; rfl
theorem dotL_set (w : List Bool) : ∀ (r : List Bool) (i : Nat), r.length = w.length → i < r.length → dotL (r.set i (!(r.getD i false))) w = (dotL r w != w.getD i false)
  := by
  intro r i h hi
  have e : r.set i (!(r.getD i false)) = xorV r (unitV r.length i) := by
    apply List.ext_getElem (by rw [List.length_set, xorV_len _ _ (by rw [unitV_len]), unitV_len])
    intro j h1 h2
    rw [gd_eq _ _ h1, gd_eq _ _ h2]
    rw [flipL_getD _ _ _ hi, xorV_get _ _ (by rw [unitV_len])]
    congr 1
    have hj : j < r.length := by rw [List.length_set] at h1; exact h1
    simp only [unitV, List.getD_eq_getElem?_getD, List.getElem?_set, List.getElem?_replicate, List.length_replicate]
    by_cases e : i = j
    · subst e; simp [hi]
    · simp [e, hj]
  have hu : (unitV r.length i).length = w.length := by rw [unitV_len]; exact h
  rw [e, dotL_xor_left _ _ _ h hu]
  congr 1
  have hc : ∀ a b : List Bool, a.length = b.length → dotL a b = dotL b a := by
    intro a
    induction a with
    | nil => intro b hb; cases b <;> rfl
    | cons x a ih =>
      intro b hb
      cases b with
      | nil => simp at hb
      | cons y b =>
        show ((x && y) != dotL a b) = ((y && x) != dotL b a)
        rw [ih b (by simpa using hb), Bool.and_comm]
  rw [hc _ _ hu, h]
  exact dotL_unit w i (by omega)
theorem dotL_rowF (w : List Bool) : ∀ l : List Int, (∀ x ∈ l, 0 ≤ x ∧ x < w.length) → dotL (rowF w.length l) w = parL w l := by
  refine snoc_ind (fun _ => ?_) fun l x ih hx => ?_
  · rw [show rowF w.length [] = List.replicate w.length false from rfl, dotL_zero _ _ (fun i hi => by rw [List.getD_eq_getElem?_getD, List.getElem?_replicate]; split <;> rfl)]; rfl
  · have hxx := hx x (by simp)
    rw [rowF_snoc, parL_snoc, dotL_set _ _ _ (rowF_len _ _) (by rw [rowF_len]; omega), ih (fun y hy => hx y (by simp [hy]))]
theorem placesL_nodup (s n : Nat) (q : Qn) : (placesL s n q).Nodup := by
  have h : (orderL s n q.p).Nodup := by
    have hi : (idL n).Nodup := by
      unfold idL
      rw [List.Nodup, List.pairwise_map]
      exact List.nodup_range.imp (fun h e => h (by omega))
    unfold orderL
    split
    · exact hi
    · exact (permL_perm _ n).nodup_iff.2 hi
  exact ((h.sublist (List.drop_sublist _ _)).sublist (List.take_sublist _ _))
/-- The first error of some questions. -/
def badE (P B n : Int) : List QuestionArg → Int
  | [] => 0
  | q :: l => if placeE P B n q.f0 q.f1 q.f2 ≠ 0 then placeE P B n q.f0 q.f1 q.f2 else badE P B n l
theorem badE_at {P B n : Int} : ∀ {l : List QuestionArg} {k : Nat} (hk : k < l.length), (∀ j (h : j < l.length), j < k → placeE P B n (l[j]).f0 (l[j]).f1 (l[j]).f2 = 0) → placeE P B n (l[k]).f0 (l[k]).f1 (l[k]).f2 ≠ 0 → badE P B n l = placeE P B n (l[k]).f0 (l[k]).f1 (l[k]).f2
  | [], _, h, _, _ => by simp at h
  | q :: l, 0, _, _, h => by simp only [badE, List.getElem_cons_zero] at h ⊢; rw [if_pos h]
  | q :: l, k + 1, hk, h0, h => by
    have := h0 0 (by simp) (by omega)
    simp only [List.getElem_cons_zero] at this
    simp only [badE, this, List.getElem_cons_succ, ne_eq, not_true_eq_false, if_false]
    exact badE_at (by simpa using hk) (fun j hj hjk => by have := h0 (j + 1) (by simpa using hj) (by omega); simpa using this) h
theorem badE_none {P B n : Int} : ∀ {l : List QuestionArg}, (∀ j (h : j < l.length), placeE P B n (l[j]).f0 (l[j]).f1 (l[j]).f2 = 0) → badE P B n l = 0
  | [], _ => rfl
  | q :: l, h0 => by
    have := h0 0 (by simp)
    simp only [List.getElem_cons_zero] at this
    simp only [badE, this, ne_eq, not_true_eq_false, if_false]
    exact badE_none fun j hj => by have := h0 (j + 1) (by simpa using hj); simpa using this
def rowQ (P B : Int) (s : Nat) (n : Int) (q : QuestionArg) : List Bool := rowF n.toNat (placesX P B s n q.f0 q.f1 q.f2)
def rowsQ (P B : Int) (s : Nat) (n : Int) (l : List QuestionArg) : List (List Bool) := l.map (rowQ P B s n)
theorem rowsQ_len (P B : Int) (s : Nat) (n : Int) (l : List QuestionArg) : ∀ r ∈ rowsQ P B s n l, r.length = n.toNat := by
  intro r hr
  obtain ⟨q, _, rfl⟩ := List.mem_map.1 hr
  exact rowF_len _ _
def rankE (P B n : Int) (l : List QuestionArg) : Int := if saneE P B n ≠ 0 then saneE P B n else if 4096 < l.length then 5 else badE P B n l
def rankV (P B : Int) (s : Nat) (n : Int) (l : List QuestionArg) : Nat := if rankE P B n l = 0 then (indL (rowsQ P B s n l)).length else 0
/-- The cells of questions that came in. -/
def q3Cells : List QuestionArg → List Value
  | [] => []
  | q :: l => .int .i64 q.f0 :: .int .i64 q.f1 :: .int .i64 q.f2 :: q3Cells l
theorem q3Cells_len : ∀ l : List QuestionArg, (q3Cells l).length = l.length * 3
  | [] => rfl
  | _ :: l => by simp [q3Cells, q3Cells_len l]; omega
theorem q3Cells_at : ∀ (l : List QuestionArg) (i : Nat) (h : i < l.length), (q3Cells l)[i * 3]? = some (.int .i64 (l[i]).f0) ∧ (q3Cells l)[i * 3 + 1]? = some (.int .i64 (l[i]).f1) ∧ (q3Cells l)[i * 3 + 2]? = some (.int .i64 (l[i]).f2)
  | [], _, h => by simp at h
  | q :: l, 0, _ => ⟨rfl, rfl, rfl⟩
  | q :: l, i + 1, h => by
    rw [Nat.add_mul]; exact q3Cells_at l i (by simpa using h)
/-- The leading rows in memory. -/
def ledV : Option Nat → Value
  | none => .pointer none
  | some H => .pointer (some ⟨H, 0, none⟩)
structure LedAt (w : World) (B g n : Nat) (hs : List (Option Nat)) (led : List (Option (List Bool))) : Prop where
  own : w.ownsRow B 101 1 (.slice (some ⟨g, 0, none⟩) n n) n (hs.map ledV)
  ok : LedOk n led
  row : ∀ (i H : Nat), hs[i]? = some (some H) → B ≤ H ∧ ∃ r, led[i]? = some (some r) ∧ RowW w H r
  nil : ∀ i : Nat, hs[i]? = some none → led[i]? = some none
theorem LedAt.len {w : World} {B g n : Nat} {hs : List (Option Nat)} {led : List (Option (List Bool))} (h : LedAt w B g n hs led) : hs.length = n := by have := h.own.1; simpa using this
theorem LedAt.below {w w' : World} {B g n L : Nat} {hs : List (Option Nat)} {led : List (Option (List Bool))} (h : LedAt w B g n hs led) (hb : Below L w w') (hL : w.heap.size ≤ L) : LedAt w' B g n hs led where
  own := ownsRow_below h.own hb hL
  ok := h.ok
  row := fun i H hi => by
    obtain ⟨h1, r, h2, h3⟩ := h.row i H hi
    exact ⟨h1, r, h2, h3.keep (hb.block _ (Nat.lt_of_lt_of_le h3.lt hL))⟩
  nil := h.nil
theorem LedAt.made (w : World) (n : Nat) (hn : n ≤ 512) : LedAt (w.alloc (.cells (Array.replicate n (.pointer none)) 101)) w.heap.size w.heap.size n (List.replicate n none) (List.replicate n none) where
  own := by
    have := own_new w (Array.replicate n (.pointer none)) 101 n (by simp) (by omega)
    simpa [ledV] using this
  ok := led0_ok n
  row := fun i H h => by
    rw [List.getElem?_replicate] at h
    split at h <;> simp at h
  nil := fun i h => by
    rw [List.getElem?_replicate] at h ⊢
    split at h
    · rename_i g; rw [if_pos g]
    · cases h
theorem LedAt.store {w : World} {B g n i H : Nat} {hs : List (Option Nat)} {led : List (Option (List Bool))} {r : List Bool} (h : LedAt w B g n hs led) (hi : hs[i]? = some none) (hr : RowW w H r) (hBH : B ≤ H) (hok : LedOk n (led.set i (some r))) :
    LedAt (w.setCell ⟨g, i, none⟩ (.pointer (some ⟨H, 0, none⟩))) B g n (hs.set i (some H)) (led.set i (some r)) where
  own := by
    have := (h.own.stored i (ledV (some H))).1
    rw [← List.map_set] at this
    exact this
  ok := hok
  row := fun j G hj => by
    have hg : ∀ {H : Nat} {r : List Bool}, RowW w H r → RowW (w.setCell ⟨g, i, none⟩ (.pointer (some ⟨H, 0, none⟩))) H r := by
      intro H r hr
      refine hr.keep (Below.heap_setCell _ _ _ _ ?_)
      rintro rfl
      obtain ⟨ws, hw, _⟩ := hr
      rcases h.own.2 with ⟨hl, _⟩ | ⟨g', cap', cur', hv, _, hg', _⟩
      · cases hl
      · injection hv with hv _ _
        injection hv with hv
        injection hv with hv _ _
        subst hv
        have := hg'.symm.trans hw.blk
        injection this with this
        injection this with _ e _
        exact absurd e (by decide)
    have hg : ∀ {K : Nat} {r : List Bool} (u : Value), RowW w K r → RowW (w.setCell ⟨g, i, none⟩ u) K r := by
      intro K r u hr
      refine hr.keep (Below.heap_setCell _ _ _ _ ?_)
      rintro rfl
      obtain ⟨ws, hw, _⟩ := hr
      rcases h.own.2 with ⟨hl, _⟩ | ⟨g', cap', cur', hv, _, hg', _⟩
      · cases hl
      · injection hv with hv _ _
        injection hv with hv
        injection hv with hv _ _
        subst hv
        have := hg'.symm.trans hw.blk
        injection this with this
        injection this with _ e _
        exact absurd e (by decide)
    have hil : i < led.length := by rw [h.ok.len, ← h.len]; exact (List.getElem?_eq_some_iff.1 hi).1
    rw [List.getElem?_set] at hj
    by_cases e : i = j
    · subst e
      rw [if_pos rfl, if_pos (List.getElem?_eq_some_iff.1 hi).1] at hj
      injection hj with hj; injection hj with hj; subst hj
      exact ⟨hBH, r, by rw [List.getElem?_set, if_pos rfl, if_pos hil], hg _ hr⟩
    · rw [if_neg e] at hj
      obtain ⟨h1, r', h2, h3⟩ := h.row j G hj
      exact ⟨h1, r', by rw [List.getElem?_set, if_neg e]; exact h2, hg _ h3⟩
  nil := fun j hj => by
    rw [List.getElem?_set] at hj ⊢
    by_cases e : i = j
    · subst e
      rw [if_pos rfl, if_pos (List.getElem?_eq_some_iff.1 hi).1] at hj
      cases hj
    · rw [if_neg e] at hj ⊢
      exact h.nil j hj
theorem ledCount_set {led : List (Option (List Bool))} {i : Nat} {r : List Bool} (h : led[i]? = some none) : ledCount (led.set i (some r)) = ledCount led + 1 := by
  unfold ledCount
  have hi := (List.getElem?_eq_some_iff.1 h).1
  have hv := (List.getElem?_eq_some_iff.1 h).2
  have e1 : led.set i (some r) = led.take i ++ some r :: led.drop (i + 1) := List.set_eq_take_append_cons_drop .. |>.trans (by rw [if_pos hi])
  have e2 : led = led.take i ++ none :: led.drop (i + 1) := by
    rw [← hv, List.getElem_cons_drop hi, List.take_append_drop]
  rw [e1]
  conv => rhs; rw [e2]
  simp [List.countP_append]
  omega
theorem rankStep_at {n : Nat} (rows : List (List Bool)) (r : List Bool) : ledL n (rows ++ [r]) = rankStep n (ledL n rows) r := by simp [ledL]
theorem elimP_no {n j : Nat} {led : List (Option (List Bool))} {r : List Bool} (hj : j < n) (h : r.getD j false = false) : elimP n led (n - j) r = elimP n led (n - (j + 1)) r := by
  obtain ⟨m, hm⟩ : ∃ m, n - j = m + 1 := ⟨n - (j + 1), by omega⟩
  have hm2 : n - (j + 1) = m := by omega
  have hm3 : n - (m + 1) = j := by omega
  rw [hm, hm2]
  conv => lhs; unfold elimP
  rw [hm3, if_pos h]
theorem elimP_nil {n j : Nat} {led : List (Option (List Bool))} {r : List Bool} (hj : j < n) (h : r.getD j false = true) (hl : led[j]? = some none) : elimP n led (n - j) r = led.set j (some r) := by
  obtain ⟨m, hm⟩ : ∃ m, n - j = m + 1 := ⟨n - (j + 1), by omega⟩
  have hm3 : n - (m + 1) = j := by omega
  rw [hm]
  unfold elimP
  rw [hm3, if_neg (by rw [h]; decide)]
  have : led.getD j none = none := by rw [List.getD_eq_getElem?_getD, hl]; rfl
  rw [this]
theorem elimP_add {n j : Nat} {led : List (Option (List Bool))} {r s : List Bool} (hj : j < n) (h : r.getD j false = true) (hl : led[j]? = some (some s)) : elimP n led (n - j) r = elimP n led (n - (j + 1)) (xorV r s) := by
  obtain ⟨m, hm⟩ : ∃ m, n - j = m + 1 := ⟨n - (j + 1), by omega⟩
  have hm2 : n - (j + 1) = m := by omega
  have hm3 : n - (m + 1) = j := by omega
  rw [hm, hm2]
  conv => lhs; unfold elimP
  rw [hm3, if_neg (by rw [h]; decide)]
  have : led.getD j none = some s := by rw [List.getD_eq_getElem?_getD, hl]; rfl
  rw [this]
end Go.Proofs.Ytoofnkkbebjldaa
/- The walk of ReconcilePlans: it returns true for any input. Conditions: none beyond the arguments' types. -/
namespace Go.Proofs.Ytoofnkkbebjldaa
open Go.RowKit
set_option linter.unusedVariables false
/-- A plan and a question in their boxes, at any numbers. -/
structure BoxI (w : World) (H : Nat) (a b : Int) (c : Value) (t : TypeId) : Prop where
  blk : w.heap[H]? = some (.cells #[.int .i64 a, .int .i64 b, c] t (0, 0))
theorem BoxI.c0 {w : World} {H : Nat} {a b : Int} {c : Value} {t : TypeId} (h : BoxI w H a b c t) : w.cell? ⟨H, 0, none⟩ = some (.int .i64 a) := by rw [cell_of_row _ _ _ _ _ _ h.blk]; rfl
theorem BoxI.c1 {w : World} {H : Nat} {a b : Int} {c : Value} {t : TypeId} (h : BoxI w H a b c t) : w.cell? ⟨H, 1, none⟩ = some (.int .i64 b) := by rw [cell_of_row _ _ _ _ _ _ h.blk]; rfl
theorem BoxI.c2 {w : World} {H : Nat} {a b : Int} {c : Value} {t : TypeId} (h : BoxI w H a b c t) : w.cell? ⟨H, 2, none⟩ = some c := by rw [cell_of_row _ _ _ _ _ _ h.blk]; rfl
theorem BoxI.past {w w' : World} {H : Nat} {a b : Int} {c : Value} {t : TypeId} (h : BoxI w H a b c t) (hb : Below w.heap.size w w') : BoxI w' H a b c t := ⟨(hb.block _ (Array.getElem?_eq_some_iff.1 h.blk).1).trans h.blk⟩
structure PlI (w0 w : World) (P B : Int) (s : Nat) (a b c : Int) (A : Option Addr) (n : Nat) (x : List Bool) : Prop where
  bl : Below w0.heap.size w0 w
  p : BoxI w w0.heap.size P B (.int .u64 s) 24
  q : BoxI w (w0.heap.size + 1) a b (.int .i64 c) 44
  x : Rd w w.heap.size 1 A n (x.map Value.bool)
theorem PlI.past {w0 w w' : World} {P B : Int} {s : Nat} {a b c : Int} {A : Option Addr} {n : Nat} {x : List Bool} (h : PlI w0 w P B s a b c A n x) (hb : Below w.heap.size w w') : PlI w0 w' P B s a b c A n x :=
  ⟨bnext h.bl hb, h.p.past hb, h.q.past hb, h.x.past hb⟩
theorem PlI.start (w : World) (P B : Int) (s : Nat) (a b c : Int) (A : Option Addr) (n : Nat) (x : List Bool) (h : Rd w w.heap.size 1 A n (x.map Value.bool)) :
    PlI w ((w.alloc (.cells (casC P B s) 24)).alloc (.cells #[.int .i64 a, .int .i64 b, .int .i64 c] 44)) P B s a b c A n x where
  bl := ((Below.refl _ _).alloc (Nat.le_refl _) _).alloc (by simp) _
  p := (BoxI.mk (heap_alloc_new w _)).past ((Below.refl _ _).alloc (Nat.le_refl _) _)
  q := ⟨by
    have := heap_alloc_new (w.alloc (.cells (casC P B s) 24)) (.cells #[.int .i64 a, .int .i64 b, .int .i64 c] 44)
    rw [World.size_alloc] at this
    exact this⟩
  x := (h.past ((Below.refl _ _).alloc (Nat.le_refl _) _)).past ((Below.refl _ _).alloc (Nat.le_refl _) _)
theorem passE_sane {P B n p : Int} (h : passE P B n p = 0) : saneE P B n = 0 := by
  by_cases g : saneE P B n = 0
  · exact g
  · rw [passE_bad g] at h; exact h
theorem placeE_sane {P B n a b c : Int} (h : placeE P B n a b c = 0) : saneE P B n = 0 := by
  by_cases g : saneE P B n = 0
  · exact g
  · rw [placeE_bad g] at h; exact h
theorem orderX_le (P B : Int) (s : Nat) (n p : Int) : (orderX P B s n p).length ≤ 512 := by
  unfold orderX
  split
  · rename_i h
    have := saneE_ok.1 (passE_sane h)
    rw [orderL_len]; omega
  · simp
theorem blocksX_le (P B n p : Int) : (blocksX P B n p).length ≤ 512 := by
  unfold blocksX
  split
  · rename_i h
    have := saneE_ok.1 (passE_sane h)
    rw [cutL, cutK_len]
    have := cutN_le (n := n.toNat) (sizeP_pos (B := B.toNat) (by omega) p.toNat)
    omega
  · simp
theorem placesX_le (P B : Int) (s : Nat) (n a b c : Int) : (placesX P B s n a b c).length ≤ 512 := by
  unfold placesX
  split
  · rename_i h
    have := saneE_ok.1 (placeE_sane h)
    simp [placesL, orderL_len]; omega
  · simp
set_option maxRecDepth 100000 in
set_option maxHeartbeats 4000000 in
theorem ReconcilePlans_walk (v0 : Value) (i0 : CascadeArg) (n p : Int) (v3 : Value) (i3 : QuestionArg) (v4 : Value) (i4 : BitsArg) (w : World) (hx0 : IsCascade w v0 i0) (_ : -9223372036854775808 ≤ n ∧ n ≤ 9223372036854775807) (_ : -9223372036854775808 ≤ p ∧ p ≤ 9223372036854775807) (hx3 : IsQuestion w v3 i3) (hx4 : IsBits w v4 i4) :
    Calls Try.prog 7 #[v0, .int .i64 n, .int .i64 p, v3, v4] w fun e w' => e = .returned (.bool true) ∧ Below w.heap.size w w' := by
  obtain ⟨P, B, s⟩ := i0
  obtain ⟨qp, qf, qt⟩ := i3
  obtain ⟨A, m, c, x⟩ := i4
  obtain ⟨rfl, _, _, hs⟩ := hx0
  obtain ⟨rfl, _, _, _⟩ := hx3
  obtain ⟨rfl, hc, hm, hl, h⟩ := hx4
  simp only at hl hc hs ⊢
  have hs2 : s < two64 := hs
  have HI := Lib.hid (PlI.start w P B s qp qf qt A m x h)
  obtain ⟨w1, hw1⟩ : ∃ z, z = (w.alloc (.cells (casC P B s) 24)).alloc (.cells #[.int .i64 qp, .int .i64 qf, .int .i64 qt] 44) := ⟨_, rfl⟩
  rw [← hw1] at HI
  have HW := Lib.hid hw1
  clear h hs hw1 hl hm hc
  by_cases hbig : 600 < m
  · have j0 : (600 : Int) < (m : Int) := by omega
    go_enter Try.func7, Try.ntmps7
    go_wp2_with fail
    rw [← HW.out]
    refine (works_any _).mono ?_
    rintro e w2 ⟨rfl, hb2⟩
    have HB := Lib.hid (bnext HI.out.bl hb2)
    clear hb2
    go_wp2_with fail
    go_ret
    exact ⟨rfl, HB.out⟩
  · have j0 : ¬ ((600 : Int) < (m : Int)) := by omega
    go_enter Try.func7, Try.ntmps7
    go_wp2_with fail
    rw [← HW.out]
    have c0 := HI.out.p.c0; have c1 := HI.out.p.c1; have c2 := HI.out.p.c2
    go_region_held3 (fun w' => w'.cell? ⟨w.heap.size, 0, none⟩ = some (.int .i64 P) ∧ w'.cell? ⟨w.heap.size, 1, none⟩ = some (.int .i64 B) ∧ w'.cell? ⟨w.heap.size, 2, none⟩ = some (.int .u64 s)) (first | exact ⟨c0, c1, c2⟩ | exact ⟨d0, d1, d2⟩ | exact ⟨f0, f1, f2⟩)
      ((first
        | (go_at_call 24
           refine (Check_ex _ _ _ _).mono ?_
           rintro e w2 ⟨⟨E, hE, rfl⟩, hsz2, hb2⟩
           have HE := Lib.hid hE
           have HI2 := Lib.hid ((HI.out.past (Qw.below (⟨1, rfl⟩ : Qw w1 w1.drew) _)).past hb2)
           have d0 := HI2.out.p.c0; have d1 := HI2.out.p.c1; have d2 := HI2.out.p.c2
           clear hE hsz2 hb2)
        | (go_at_call 25
           refine (refCheck_ex _ _ _ _).mono ?_
           rintro e w3 ⟨⟨E2, hE2, rfl⟩, hsz3, hb3⟩
           obtain rfl : E2 = E := hE2.trans HE.out.symm
           have HI3 := Lib.hid (HI2.out.past hb3)
           have f0 := HI3.out.p.c0; have f1 := HI3.out.p.c1; have f2 := HI3.out.p.c2
           clear hE2 hsz3 hb3)))
    clear HE
    go_wp2_with fail
    refine (Order_two P B s n p _ hs2).mono ?_
    rintro e w4 ⟨A1, k1, rfl, hk1, hr1, hb4⟩
    obtain ⟨E1, hE1⟩ : ∃ z, z = passE P B n p := ⟨_, rfl⟩
    obtain ⟨X1, hX1⟩ : ∃ z, z = orderX P B s n p := ⟨_, rfl⟩
    have hX1l : X1.length ≤ 512 := by rw [hX1]; exact orderX_le _ _ _ _ _
    rw [← hE1]
    rw [← hX1] at hr1 hk1 ⊢
    have HI4 := Lib.hid (HI3.out.past hb4); have HR1 := Lib.hid hr1; have HE1 := Lib.hid hE1; have HX1 := Lib.hid hX1
    have g0 := HI4.out.p.c0; have g1 := HI4.out.p.c1; have g2 := HI4.out.p.c2
    clear hE1 hX1 hr1 hb4 c0 c1 c2 d0 d1 d2 f0 f1 f2 HI HI2 HI3
    go_wp2_with fail
    refine (refOrder_two P B s n p _ hs2).mono ?_
    rintro e w5 ⟨A2, k2, rfl, hk2, hr2, hb5⟩
    rw [← HE1.out]
    rw [← HX1.out] at hr2 hk2 ⊢
    have HI5 := Lib.hid (HI4.out.past hb5); have HR2 := Lib.hid hr2; have HR1 := Lib.hid (HR1.out.past hb5)
    clear hr2 hb5 g0 g1 g2 HI4
    go_wp2_with fail
    refine (Ints_eq A1 A2 X1.length k1 k2 X1 _ (by omega) HR1.out HR2.out).mono ?_
    rintro e w6 ⟨rfl, hq6⟩
    have HI6 := Lib.hid (HI5.out.past (hq6.below _))
    have g0 := HI6.out.p.c0; have g1 := HI6.out.p.c1; have g2 := HI6.out.p.c2
    clear hq6 HR1 HR2 HI5 hX1l hk1 hk2
    go_wp2_with fail
    refine (Blocks_two P B s n p _ hs2).mono ?_
    rintro e w7 ⟨A3, k3, rfl, hk3, hr3, hb7⟩
    obtain ⟨X3, hX3⟩ : ∃ z, z = blocksX P B n p := ⟨_, rfl⟩
    have hX3l : X3.length ≤ 512 := by rw [hX3]; exact blocksX_le _ _ _ _
    rw [← HE1.out]
    rw [← hX3] at hr3 hk3 ⊢
    have HI7 := Lib.hid (HI6.out.past hb7); have HR3 := Lib.hid hr3; have HX3 := Lib.hid hX3
    clear hX3 hr3 hb7 g0 g1 g2 HI6
    have g0 := HI7.out.p.c0; have g1 := HI7.out.p.c1; have g2 := HI7.out.p.c2
    go_wp2_with fail
    refine (refBlocks_two P B s n p _ hs2).mono ?_
    rintro e w8 ⟨A4, k4, rfl, hk4, hr4, hb8⟩
    rw [← HE1.out]
    rw [← HX3.out] at hr4 hk4 ⊢
    have HI8 := Lib.hid (HI7.out.past hb8); have HR4 := Lib.hid hr4; have HR3 := Lib.hid (HR3.out.past hb8)
    obtain ⟨N3, hN3⟩ : ∃ z, z = X3.length := ⟨_, rfl⟩
    rw [← hN3] at HR3 HR4 hX3l ⊢
    have HN3 := Lib.hid hN3
    clear hr4 hb8 g0 g1 g2 HI7 hk3 hk4 hN3
    go_wp2_with fail
    go_loopw [17] (fun i wr => ∃ k : Nat, k ≤ N3 ∧ i = .int .i64 k ∧ Qw w8 wr) (fun i _ => N3 - (intOf i).toNat)
    case atStart => exact ⟨0, Nat.zero_le _, rfl, Qw.refl _⟩
    case round =>
      obtain ⟨k, hk, rfl, hq⟩ := hrel
      by_cases hlt : k < N3
      · have hki : (k : Int) < (N3 : Int) := by omega
        obtain ⟨b, off, rfl, hb, hc⟩ := HR3.out.2 (by omega)
        obtain ⟨b', off', rfl, hb', hc'⟩ := HR4.out.2 (by omega)
        have hlk : k < X3.length := by rw [← HN3.out]; exact hlt
        obtain ⟨a0, a1, a2⟩ := qCells_at X3 k hlk
        have d0 := (hq.cell _).trans (hc _ _ a0)
        have d1 := (hq.cell _).trans (hc _ _ a1)
        have d2 := (hq.cell _).trans (hc _ _ a2)
        have e0 := (hq.cell _).trans (hc' _ _ a0)
        have e1 := (hq.cell _).trans (hc' _ _ a1)
        have e2 := (hq.cell _).trans (hc' _ _ a2)
        simp only [← Nat.add_assoc] at d1 d2 e1 e2
        clear a0 a1 a2
        generalize X3[k].p = x0 at d0 e0
        generalize X3[k].f = x1 at d1 e1
        generalize X3[k].t = x2 at d2 e2
        have HQ := Lib.hid hq
        clear hc hc' hlk hq
        go_wp2_with fail
        go_quiet (fail)
        go_wp2_with fail
        go_roundw
        case rel => exact ⟨k + 1, by omega, by go_num, HQ.out.drewN _⟩
        case measure => simp [intOf]; omega
      · have hki : ¬ (k : Int) < (N3 : Int) := by omega
        obtain ⟨wa, rfl⟩ : ∃ z : World, z = wr := ⟨_, rfl⟩
        have HI9 := Lib.hid (HI8.out.past (hq.below _))
        have g0 := HI9.out.p.c0; have g1 := HI9.out.p.c1; have g2 := HI9.out.p.c2
        have q0 := HI9.out.q.c0; have q1 := HI9.out.q.c1; have q2 := HI9.out.q.c2
        clear hq HI8
        go_wp2_with fail
        refine (Places_two P B s n qp qf qt _ hs2).mono ?_
        rintro e w10 ⟨A5, k5, rfl, hk5, hr5, hb10⟩
        obtain ⟨E5, hE5⟩ : ∃ z, z = placeE P B n qp qf qt := ⟨_, rfl⟩
        obtain ⟨X5, hX5⟩ : ∃ z, z = placesX P B s n qp qf qt := ⟨_, rfl⟩
        have hX5l : X5.length ≤ 512 := by rw [hX5]; exact placesX_le _ _ _ _ _ _ _
        rw [← hE5]
        rw [← hX5] at hr5 hk5 ⊢
        have HI10 := Lib.hid (HI9.out.past hb10); have HR5 := Lib.hid hr5; have HE5 := Lib.hid hE5; have HX5 := Lib.hid hX5
        clear g0 g1 g2 q0 q1 q2 hE5 hX5 hr5 hb10 HI9
        have g0 := HI10.out.p.c0; have g1 := HI10.out.p.c1; have g2 := HI10.out.p.c2
        have q0 := HI10.out.q.c0; have q1 := HI10.out.q.c1; have q2 := HI10.out.q.c2
        go_wp2_with fail
        refine (refPlaces_two P B s n qp qf qt _ hs2).mono ?_
        rintro e w11 ⟨A6, k6, rfl, hk6, hr6, hb11⟩
        rw [← HE5.out]
        rw [← HX5.out] at hr6 hk6 ⊢
        have HI11 := Lib.hid (HI10.out.past hb11); have HR6 := Lib.hid hr6; have HR5 := Lib.hid (HR5.out.past hb11)
        clear g0 g1 g2 q0 q1 q2 hr6 hb11 HI10
        go_wp2_with fail
        refine (Ints_eq A5 A6 X5.length k5 k6 X5 _ (by omega) HR5.out HR6.out).mono ?_
        rintro e w12 ⟨rfl, hq12⟩
        have HI12 := Lib.hid (HI11.out.past (hq12.below _))
        clear hq12 HI11 HR5 HR6 hk5 hk6 hX5l
        have g0 := HI12.out.p.c0; have g1 := HI12.out.p.c1; have g2 := HI12.out.p.c2
        have q0 := HI12.out.q.c0; have q1 := HI12.out.q.c1; have q2 := HI12.out.q.c2
        go_wp2_with fail
        refine (Reply_two P B s A m c x qp qf qt _ hs2 HI12.out.x).mono ?_
        rintro e w13 ⟨⟨E6, pv, hE6, hpv, rfl⟩, hb13⟩
        have HI13 := Lib.hid (HI12.out.past hb13); have HE6 := Lib.hid hE6; have HPV := Lib.hid hpv
        clear g0 g1 g2 q0 q1 q2 hb13 hE6 hpv HI12
        have g0 := HI13.out.p.c0; have g1 := HI13.out.p.c1; have g2 := HI13.out.p.c2
        have q0 := HI13.out.q.c0; have q1 := HI13.out.q.c1; have q2 := HI13.out.q.c2
        go_wp2_with fail
        refine (refReply_two P B s A m c x qp qf qt _ hs2 HI13.out.x).mono ?_
        rintro e w14 ⟨⟨E7, pv2, hE7, hpv2, rfl⟩, hb14⟩
        obtain rfl : E7 = E6 := hE7.trans HE6.out.symm
        obtain rfl : pv2 = pv := hpv2.trans HPV.out.symm
        have HI14 := Lib.hid (HI13.out.past hb14)
        clear g0 g1 g2 q0 q1 q2 hb14 hE7 hpv2 HI13 HE6 HPV
        go_wp2_with fail
        refine (works_any _).mono ?_
        rintro e w15 ⟨rfl, hb15⟩
        have HB := Lib.hid (bnext HI14.out.bl hb15)
        clear hb15
        go_wp2_with fail
        go_ret
        exact ⟨rfl, HB.out⟩
end Go.Proofs.Ytoofnkkbebjldaa
/- The contract of the program's Rank. Conditions: as each statement says. -/
namespace Go.Proofs.Ytoofnkkbebjldaa
open Go.RowKit
set_option linter.unusedVariables false
theorem info_prow : (Try.prog.info? 101).map (fun i => (i.zero, i.size, i.bytes)) = some (some (.pointer none), 1, 8) := by kernel_rfl
theorem make_prow (w : World) (c : Nat) (hc : c ≤ 1000000) : (Instr.makeSlice 96 (.int .i64 c) (.int .i64 c)).run Try.prog w = .ok (.slice (some ⟨w.heap.size, 0, none⟩) c c) (w.alloc (.cells (Array.replicate c (.pointer none)) 101)) := by
  obtain ⟨i, hi, hz, hs, hb⟩ := info_parts info_prow
  have h := run_make (P := Try.prog) w _ _ i _ Try.underlying96 hi hz .i64 .i64 c c (by omega) (by omega) (by rw [hb]; omega) (by omega)
  rw [hs] at h
  simpa [madeCells_one, Value.cells] using h
/-- What Rank hands back. -/
def RankP (P B : Int) (s : Nat) (n : Int) (l : List QuestionArg) (w : World) (e : Ending) (w' : World) : Prop :=
  (∃ (V : Nat) (E : Int), V = rankV P B s n l ∧ E = rankE P B n l ∧ e = .returned (.tuple #[.int .i64 V, .int .i64 E])) ∧ Below w.heap.size w w'
/-- What holds at each round of the outer loop. -/
structure RkI (w0 w : World) (P B s n g k : Nat) (l : List QuestionArg) (hs : List (Option Nat)) : Prop where
  bl : Below w0.heap.size w0 w
  pl : PlanAt w w0.heap.size P B s
  led : LedAt w w0.heap.size g n hs (ledL n (rowsQ P B s n (l.take k)))
  ok : ∀ j (h : j < l.length), j < k → placeE P B n (l[j]).f0 (l[j]).f1 (l[j]).f2 = 0
theorem RkI.past {w0 w w' : World} {P B s n g k : Nat} {l : List QuestionArg} {hs : List (Option Nat)} (h : RkI w0 w P B s n g k l hs) (hb : Below w.heap.size w w') : RkI w0 w' P B s n g k l hs :=
  ⟨bnext h.bl hb, h.pl.past hb, h.led.below hb (Nat.le_refl _), h.ok⟩
theorem below_only {w w' : World} {L H : Nat} {w0 : World} (h : Below L w0 w) (hg : w.grownBy w' (some H)) (hL : L ≤ w.heap.size) (hH : L ≤ H) : Below L w0 w' :=
  h.grown hg hL (fun k hk => by injection hk with hk; omega)
set_option maxRecDepth 100000 in
set_option maxHeartbeats 8000000 in
theorem Rank_go (P B s n : Nat) (A : Option Addr) (m c : Nat) (l : List QuestionArg) (w : World) (hP : 1 ≤ P) (hP6 : P ≤ 6) (hB : 1 ≤ B) (hB5 : B ≤ 512) (hs2 : s < two64) (hn : n ≤ 512) (hm : m ≤ 4096) (hl : l.length = m) (h : Rd w w.heap.size 3 A m (q3Cells l)) :
    Calls Try.prog 43 #[casV P B s, .int .i64 n, .slice A m c] w (RankP P B s n l w) := by
  have hsn : saneE P B n = 0 := saneE_ok.2 ⟨by omega, by omega, by omega, by omega, by omega, by omega⟩
  have j0 : ¬ ((4096 : Int) < (m : Int)) := by omega
  have hmk := fun w => make_prow w n (by omega)
  have H := Lib.hid h; have HL := Lib.hid hl; have HSN := Lib.hid hsn
  clear h hl hsn
  go_enter Try.func43, Try.ntmps43
  go_wp2_with fail
  refine (sane_ok P B s n _ hP hP6 hB hB5 hn).mono ?_
  rintro e w1 ⟨rfl, hb1⟩
  have hpl := (PlanAt.new w P B s).below hb1 (Nat.le_refl _)
  have B1 : Below w.heap.size w w1 := ((Below.refl _ _).alloc (Nat.le_refl _) _).trans (hb1.mono (by simp))
  have HP := Lib.hid hpl; have HB := Lib.hid B1
  clear hb1 B1 hpl
  go_wp2_with fail
  clear hmk
  have hI0 : RkI w (w1.alloc (.cells (Array.replicate n (.pointer none)) 101)) P B s n w1.heap.size 0 l (List.replicate n none) := by
    refine ⟨HB.out.alloc HB.out.size _, HP.out.past ((Below.refl _ _).alloc (Nat.le_refl _) _), ?_, fun j h hj => absurd hj (by omega)⟩
    have := LedAt.made w1 n hn
    exact ⟨ownsRow_mono this.own HB.out.size, this.ok, fun i H h => by
      obtain ⟨a, b⟩ := this.row i H h; exact ⟨Nat.le_trans HB.out.size a, b⟩, this.nil⟩
  have HI0 := Lib.hid hI0
  clear hI0
  obtain ⟨g, hg⟩ : ∃ g, g = w1.heap.size := ⟨_, rfl⟩
  have HGW : Hid (w.heap.size < g) := Lib.hid (by rw [hg]; exact HP.out.lt)
  rw [← hg] at HI0 ⊢
  clear hg
  go_loopw [10, 32] (fun rk i wr => ∃ (k : Nat) (hs : List (Option Nat)), k ≤ m ∧ i = .int .i64 k ∧ rk = .int .i64 (ledCount (ledL n (rowsQ P B s n (l.take k))) : Nat) ∧ RkI w wr P B s n g k l hs) (fun _ i _ => m - (intOf i).toNat)
  case atStart => exact ⟨0, _, Nat.zero_le _, rfl, by
    have : ledCount (List.replicate n none) = 0 := by unfold ledCount; rw [List.countP_eq_zero]; intro x hx; rw [List.eq_of_mem_replicate hx]; simp
    simp only [List.take_zero, rowsQ, List.map_nil, ledL, List.foldl_nil, this]; rfl, HI0.out⟩
  case round =>
    obtain ⟨k, hs, hk, rfl, rfl, hI⟩ := hrel
    obtain ⟨wa, rfl⟩ : ∃ z : World, z = wr := ⟨_, rfl⟩
    have HI := Lib.hid hI
    clear hI HI0
    by_cases hlt : k < m
    · have hki : (k : Int) < (m : Int) := by omega
      obtain ⟨ba, oa, rfl, hba, hc⟩ := H.out.2 (by omega)
      have hlk : k < l.length := by rw [HL.out]; exact hlt
      obtain ⟨a0, a1, a2⟩ := q3Cells_at l k hlk
      have d0 := (HI.out.bl.cell (p := ⟨ba, oa + k * 3, none⟩) hba).trans (hc _ _ a0)
      have d1 := (HI.out.bl.cell (p := ⟨ba, oa + (k * 3 + 1), none⟩) hba).trans (hc _ _ a1)
      have d2 := (HI.out.bl.cell (p := ⟨ba, oa + (k * 3 + 2), none⟩) hba).trans (hc _ _ a2)
      simp only [← Nat.add_assoc] at d1 d2
      clear a0 a1 a2 hc
      obtain ⟨q, hq⟩ : ∃ q, q = l[k] := ⟨_, rfl⟩
      rw [← hq] at d0 d1 d2
      have HQ := Lib.hid hq
      obtain ⟨qp, qf, qt⟩ := q
      simp only at d0 d1 d2
      clear hq
      have hI2 := HI.out.past ((Below.refl _ _).alloc (Nat.le_refl _) (.cells #[.int .i64 qp, .int .i64 qf, .int .i64 qt] 44))
      have c0 := hI2.pl.c0; have c1 := hI2.pl.c1; have c2 := hI2.pl.c2
      have HI2 := Lib.hid hI2
      clear hI2
      go_wp2_with fail
      refine (Places_two P B s n qp qf qt _ hs2).mono ?_
      rintro e w3 ⟨Ap, cp, rfl, hcp, hrp, hb3⟩
      obtain ⟨X, hX⟩ : ∃ X, X = placesX P B s n qp qf qt := ⟨_, rfl⟩
      obtain ⟨E, hE⟩ : ∃ E, E = placeE P B n qp qf qt := ⟨_, rfl⟩
      rw [← hX] at hrp ⊢
      rw [← hE]
      have HX := Lib.hid hX; have HE := Lib.hid hE
      have HI3 := Lib.hid (HI2.out.past hb3)
      have HR := Lib.hid hrp
      have hXl : X.length ≤ 512 := by rw [hX]; exact placesX_le _ _ _ _ _ _ _
      clear hrp hb3 hX hE c0 c1 c2 HI2 hcp d0 d1 d2
      by_cases h0 : E = 0
      · subst h0
        have HM : Hid (∀ x ∈ X, 0 ≤ x ∧ x < n) := Lib.hid (by
          intro x hx
          rw [HX.out] at hx
          unfold placesX at hx
          rw [if_pos HE.out.symm] at hx
          have := placesL_mem hx
          simpa using this)
        have hrw := row_new w3 n
        have hal := (Below.refl w3.heap.size w3).alloc (Nat.le_refl _) (.cells #[.int .u64 0, .int .u64 0, .int .u64 0, .int .u64 0, .int .u64 0, .int .u64 0, .int .u64 0, .int .u64 0] 98)
        have HRW := Lib.hid hrw; have HAL := Lib.hid hal
        clear hrw hal
        go_wp2_with fail
        obtain ⟨w4, hw4⟩ : ∃ z, z = w3.alloc (.cells #[.int .u64 0, .int .u64 0, .int .u64 0, .int .u64 0, .int .u64 0, .int .u64 0, .int .u64 0, .int .u64 0] 98) := ⟨_, rfl⟩
        rw [← hw4] at HRW HAL ⊢
        clear hw4
        go_loopw [48] (fun i wr => ∃ j : Nat, j ≤ X.length ∧ i = .int .i64 j ∧ RowW wr w3.heap.size (rowF n (X.take j)) ∧ Below w3.heap.size w3 wr) (fun i _ => X.length - (intOf i).toNat)
        case atStart => exact ⟨0, Nat.zero_le _, rfl, HRW.out, HAL.out⟩
        case round =>
          obtain ⟨j, hj, rfl, hrow, hbw⟩ := hrel
          have HRW2 := Lib.hid hrow; have HBW := Lib.hid hbw
          obtain ⟨wb, rfl⟩ : ∃ z : World, z = wr := ⟨_, rfl⟩
          clear hrow hbw HRW HAL
          by_cases hlj : j < X.length
          · have hji : (j : Int) < (X.length : Int) := by omega
            obtain ⟨bp, op, rfl, hbp, hcp⟩ := HR.out.2 (by omega)
            have e0 : wb.cell? ⟨bp, op + j, none⟩ = some (.int .i64 X[j]) := (HBW.out.cell (p := ⟨bp, op + j, none⟩) hbp).trans (hcp j _ (by simp [hlj]))
            have hx := HM.out _ (List.getElem_mem hlj)
            have HS : Hid (rowF n (X.take (j + 1)) = (rowF n (X.take j)).set (X[j]).toNat (!((rowF n (X.take j)).getD (X[j]).toNat false))) := Lib.hid (by rw [take_snoc _ _ hlj, rowF_snoc])
            generalize X[j] = x at e0 hx HS
            obtain ⟨y, rfl⟩ := Int.eq_ofNat_of_zero_le hx.1
            have hyn : y < n := by omega
            simp only [Int.toNat_natCast] at HS
            clear hcp hx
            go_wp2_with fail
            refine (set_row w3.heap.size y _ _ HRW2.out (by rw [rowF_len]; exact hyn) (by rw [rowF_len]; exact hn)).mono ?_
            rintro e w5 ⟨rfl, hr5, hg5⟩
            rw [← HS.out] at hr5
            have HR5 := Lib.hid hr5; have HB5 := Lib.hid (below_only HBW.out hg5 HBW.out.size (Nat.le_refl _))
            clear hr5 hg5
            go_wp2_with fail
            go_roundw
            case rel => exact ⟨j + 1, hlj, by go_num, HR5.out, HB5.out⟩
            case measure => simp [intOf]; omega
          · have hji : ¬ (j : Int) < (X.length : Int) := by omega
            have HRF : Hid (RowW wb w3.heap.size (rowQ P B s n l[k])) := Lib.hid (by
              have e : rowQ P B s n l[k] = rowF n X := by rw [← HQ.out, HX.out]; rfl
              rw [e]
              have := HRW2.out
              rwa [List.take_of_length_le (by omega)] at this)
            have HRL : Hid ((rowQ P B s n l[k]).length = n) := Lib.hid (rowF_len _ _)
            have hsn' : ledL n (rowsQ P B s n (l.take (k + 1))) = elimP n (ledL n (rowsQ P B s n (l.take k))) n (rowQ P B s n l[k]) := by
              rw [take_snoc _ _ hlk, rowsQ, List.map_append, ← rowsQ]
              exact rankStep_at _ _
            have HOK : Hid (∀ j (h : j < l.length), j < k + 1 → placeE P B n (l[j]).f0 (l[j]).f1 (l[j]).f2 = 0) := Lib.hid (by
              intro j hj hjk
              by_cases e : j = k
              · subst e; rw [← HQ.out]; exact HE.out.symm
              · exact HI3.out.ok j hj (by omega))
            have HLD := Lib.hid HI3.out.led
            obtain ⟨led, hled⟩ : ∃ z, z = ledL n (rowsQ P B s n (l.take k)) := ⟨_, rfl⟩
            obtain ⟨led', hled'⟩ : ∃ z, z = ledL n (rowsQ P B s n (l.take (k + 1))) := ⟨_, rfl⟩
            rw [← hled, ← hled'] at hsn'
            rw [← hled] at HLD ⊢
            have HST := Lib.hid hsn'; have HL1 := Lib.hid hled; have HL2 := Lib.hid hled'
            clear hsn' hled hled' HRW2 HR HM
            generalize rowQ P B s n l[k] = r0 at HRF HRL HST
            go_wp2_with fail
            have HB4 := Lib.hid HBW.out
            clear HBW
            go_loopw [10, 56] (fun rk i wr => ∃ (j : Nat) (r : List Bool), j ≤ n ∧ i = .int .i64 j ∧ rk = .int .i64 (ledCount led : Nat) ∧ r.length = n ∧ RowW wr w3.heap.size r ∧ elimP n led (n - j) r = led' ∧ Below w3.heap.size w3 wr) (fun _ i _ => n - (intOf i).toNat)
            case atStart => exact ⟨0, r0, Nat.zero_le _, rfl, rfl, HRL.out, HRF.out, HST.out.symm, HB4.out⟩
            case round =>
              obtain ⟨j, r, hj, rfl, rfl, hrl, hrow, hel, hbw⟩ := hrel
              have HRL2 := Lib.hid hrl; have HRW3 := Lib.hid hrow; have HEL := Lib.hid hel; have HB5 := Lib.hid hbw
              obtain ⟨wc, rfl⟩ : ∃ z : World, z = wr := ⟨_, rfl⟩
              have HLC := Lib.hid (HLD.out.below hbw (Nat.le_refl _))
              clear hrl hrow hel hbw HB4 HRF HRL HST
              by_cases hlj : j < n
              · have hji : (j : Int) < (n : Int) := by omega
                by_cases hbit : r.getD j false = true
                · have hsl : j < hs.length := by rw [HLC.out.len]; exact hlj
                  have cg : wc.cell? ⟨g, j, none⟩ = some (ledV hs[j]) := by
                    rw [HLC.out.own.cellAt j (by omega), List.getElem?_map, List.getElem?_eq_getElem hsl]; rfl
                  have hsj : hs[j]? = some hs[j] := List.getElem?_eq_getElem hsl
                  generalize hs[j] = x at cg hsj
                  cases x with
                  | none =>
                    have hln := HLC.out.nil j hsj
                    have hle := elimP_nil (led := led) hlj hbit hln
                    rw [HEL.out] at hle
                    have hok : LedOk n (led.set j (some r)) := by
                      rw [← hle, HL2.out]
                      exact ledL_ok (fun x hx => by have := rowsQ_len (P : Int) B s n (l.take (k + 1)) x hx; simpa using this)
                    have hst := HLC.out.store hsj HRW3.out (Nat.le_trans HI3.out.bl.size (Nat.le_refl _)) hok
                    have hct := ledCount_set (r := r) hln
                    have hfg := HLC.out.own.frozenAt j
                    have hgl := (HLC.out.own.lt g rfl).1
                    rw [← hle] at hst hct
                    have HSTO := Lib.hid hst; have HCT := Lib.hid hct
                    simp only [ledV] at cg
                    clear hst hct hok hle hln hsj
                    go_wp2_with fail
                    refine (has_row w3.heap.size j r _ HRW3.out (by omega)).mono ?_
                    rintro e w6 ⟨rfl, rfl⟩
                    rw [hbit]
                    go_wp2_with fail
                    go_roundw
                    case rel =>
                      have hcb : ledCount led ≤ 512 := by
                        have := HLC.out.ok.len
                        have h2 : ledCount led ≤ led.length := List.countP_le_length
                        omega
                      refine ⟨k + 1, hs.set j (some w3.heap.size), hlt, by go_num, ?_, ?_, ?_, ?_, HOK.out⟩
                      · rw [← HL2.out, HCT.out]
                        have e : wrap64 ((ledCount led : Int) + 1) = ((ledCount led + 1 : Nat) : Int) := by unfold wrap64; omega
                        rw [e]
                      · exact (bnext HI3.out.bl HB5.out).setCell (p := ⟨g, j, none⟩) hgl _
                      · have := HI3.out.pl.past HB5.out
                        exact ⟨(Below.heap_setCell _ _ _ _ (by have := HGW.out; simp only; omega)).trans this.blk⟩
                      · rw [← HL2.out]; exact HSTO.out
                    case measure => simp [intOf]; omega
                  | some K =>
                    obtain ⟨hBK, sr, hls, hrK⟩ := HLC.out.row j K hsj
                    have hle := elimP_add (led := led) hlj hbit hls
                    rw [HEL.out] at hle
                    have hsl2 := (HLC.out.ok.row j sr hls).1
                    have hKlt : K < w3.heap.size := by
                      obtain ⟨_, _, _, h3⟩ := HLD.out.row j K hsj
                      exact h3.lt
                    have HLE := Lib.hid hle; have HRK := Lib.hid hrK; have HSL2 := Lib.hid hsl2
                    simp only [ledV] at cg
                    clear hle hls hrK hsl2 hsj
                    go_wp2_with fail
                    refine (has_row w3.heap.size j r _ HRW3.out (by omega)).mono ?_
                    rintro e w6 ⟨rfl, rfl⟩
                    rw [hbit]
                    go_wp2_with fail
                    refine (add_row w3.heap.size K r sr _ HRW3.out HRK.out (by omega) (by rw [HRL2.out, HSL2.out])).mono ?_
                    rintro e w7 ⟨rfl, hr7, hg7⟩
                    have HR7 := Lib.hid hr7; have HB7 := Lib.hid (below_only HB5.out hg7 HB5.out.size (Nat.le_refl _))
                    clear hr7 hg7
                    go_wp2_with fail
                    go_roundw
                    case rel => exact ⟨j + 1, xorV r sr, hlj, by go_num, rfl, by rw [xorV_len _ _ (by rw [HRL2.out, HSL2.out]), HSL2.out], HR7.out, HLE.out.symm, HB7.out⟩
                    case measure => simp [intOf]; omega
                · have hbit' : r.getD j false = false := by simpa using hbit
                  have hle := elimP_no (led := led) hlj hbit'
                  rw [HEL.out] at hle
                  have HLE := Lib.hid hle
                  clear hle hbit
                  go_wp2_with fail
                  refine (has_row w3.heap.size j r _ HRW3.out (by omega)).mono ?_
                  rintro e w6 ⟨rfl, rfl⟩
                  rw [hbit']
                  go_wp2_with fail
                  go_roundw
                  case rel => exact ⟨j + 1, r, hlj, by go_num, rfl, HRL2.out, HRW3.out, HLE.out.symm, HB5.out⟩
                  case measure => simp [intOf]; omega
              · obtain rfl : j = n := by omega
                have hji : ¬ (j : Int) < (j : Int) := by omega
                have hfin : led = led' := by
                  have := HEL.out
                  rw [Nat.sub_self] at this
                  exact this
                have HFIN := Lib.hid hfin
                clear hfin
                go_wp2_with fail
                go_roundw
                case rel =>
                  refine ⟨k + 1, hs, hlt, by go_num, ?_, bnext HI3.out.bl HB5.out, HI3.out.pl.past HB5.out, ?_, HOK.out⟩
                  · rw [← HL2.out, ← HFIN.out]
                  · rw [← HL2.out, ← HFIN.out]; exact HLC.out
                case measure => simp [intOf]; omega
      · have hne : (E != 0) = true := by simpa using h0
        have HRE : Hid (E = rankE P B n l ∧ 0 = rankV P B s n l) := Lib.hid (by
          have hb := badE_at (P := P) (B := B) (n := n) hlk (fun j hj hjk => HI3.out.ok j hj hjk) (by rw [← HQ.out, ← HE.out]; exact h0)
          rw [← HQ.out, ← HE.out] at hb
          have hr : rankE P B n l = E := by
            unfold rankE
            rw [if_neg (by rw [HSN.out]; simp), if_neg (by have := HL.out; omega)]
            exact hb
          refine ⟨hr.symm, ?_⟩
          unfold rankV
          rw [if_neg (by rw [hr]; exact h0)])
        clear h0
        go_wp2_with fail
        go_ret2
        exact ⟨⟨0, E, HRE.out.2, HRE.out.1, rfl⟩, HI3.out.bl⟩
    · have hki : ¬ (k : Int) < (m : Int) := by omega
      obtain rfl : k = m := by omega
      have hE : rankE P B n l = 0 := by
        unfold rankE
        rw [if_neg (by rw [HSN.out]; simp), if_neg (by have := HL.out; omega)]
        exact badE_none fun j hj => HI.out.ok j hj (by have := HL.out; omega)
      have hV : rankV P B s n l = ledCount (ledL n (rowsQ P B s n (l.take k))) := by
        unfold rankV
        rw [if_pos hE, List.take_of_length_le (by have := HL.out; omega)]
        exact (rank_same (fun x hx => by have := rowsQ_len (P : Int) B s n l x hx; simpa using this)).symm
      have HV := Lib.hid hV; have HE := Lib.hid hE
      clear hV hE
      rw [← HV.out]
      go_wp2_with fail
      go_ret2
      exact ⟨⟨_, _, rfl, HE.out.symm, rfl⟩, HI.out.bl⟩
end Go.Proofs.Ytoofnkkbebjldaa
/- Rows of bits that a call makes, and a list of them. Conditions: as each statement says. -/
namespace Go.Proofs.Ytoofnkkbebjldaa
open Go.RowKit
set_option linter.unusedVariables false
theorem info_bools : (Try.prog.info? 25).map (fun i => (i.zero, i.size, i.bytes)) = some (some (.slice none 0 0), 1, 24) := by kernel_rfl
theorem elB_bools : ElemB Try.prog 103 25 1 24 := ElemB.of Try.underlying103 info_bools rfl (by decide)
/-- Two own rows of different types lie apart. -/
theorem rows_apart {w : World} {B B' t t' sz sz' n n' : Nat} {v v' : Value} {xs ys : List Value} (h : w.ownsRow B t sz v n xs) (h' : w.ownsRow B' t' sz' v' n' ys) (hne : t ≠ t') : ∀ k, v.ownBlock = some k → some k ≠ v'.ownBlock := by
  intro k hk e
  rcases h.2 with ⟨rfl, _⟩ | ⟨g, cap, cur, rfl, _, hg, _⟩
  · cases hk
  · rcases h'.2 with ⟨rfl, _⟩ | ⟨g', cap', cur', rfl, _, hg', _⟩
    · cases e
    · simp only [Value.ownBlock, Option.some.injEq] at hk e
      subst hk
      subst e
      have := hg.symm.trans hg'
      injection this with this
      injection this with _ e _
      exact hne e
theorem row_other {w w' : World} {B B' t t' sz sz' n n' : Nat} {v v' : Value} {xs ys : List Value} (h : w.ownsRow B t sz v n xs) (h' : w.ownsRow B' t' sz' v' n' ys) (hne : t ≠ t') (hg : w.grownBy w' v'.ownBlock) : w'.ownsRow B t sz v n xs :=
  ownsRow_grown h hg (rows_apart h h' hne)
/-- A list of rows of n bits. -/
structure RowsB (w : World) (B : Nat) (vo : Value) (vs : List (Option Addr × Nat)) (n : Nat) (rows : List (List Bool)) : Prop where
  own : w.ownsRow B 25 1 vo rows.length (vs.map fun a => .slice a.1 n a.2)
  row : ∀ (i : Nat) A c r, vs[i]? = some (A, c) → rows[i]? = some r → n ≤ c ∧ w.ownsRow B 4 1 (.slice A n c) n (r.map Value.bool)
theorem RowsB.len {w : World} {B : Nat} {vo : Value} {vs : List (Option Addr × Nat)} {n : Nat} {rows : List (List Bool)} (h : RowsB w B vo vs n rows) : vs.length = rows.length := by have := h.own.1; simpa using this
theorem RowsB.nil (w : World) (B n : Nat) : RowsB w B (.slice none 0 0) [] n [] := ⟨World.ownsRow_nil _ _ _ _, fun i A c r h => by simp at h⟩
theorem RowsB.below {w w' : World} {B L : Nat} {vo : Value} {vs : List (Option Addr × Nat)} {n : Nat} {rows : List (List Bool)} (h : RowsB w B vo vs n rows) (hb : Below L w w') (hL : w.heap.size ≤ L) : RowsB w' B vo vs n rows :=
  ⟨ownsRow_below h.own hb hL, fun i A c r h1 h2 => ⟨(h.row i A c r h1 h2).1, ownsRow_below (h.row i A c r h1 h2).2 hb hL⟩⟩
theorem RowsB.other {w w' : World} {B B' t' sz' n' : Nat} {vo v' : Value} {vs : List (Option Addr × Nat)} {n : Nat} {rows : List (List Bool)} {ys : List Value} (h : RowsB w B vo vs n rows) (h' : w.ownsRow B' t' sz' v' n' ys) (h1 : 25 ≠ t') (h2 : 4 ≠ t') (hg : w.grownBy w' v'.ownBlock) : RowsB w' B vo vs n rows :=
  ⟨row_other h.own h' h1 hg, fun i A c r a b => ⟨(h.row i A c r a b).1, row_other (h.row i A c r a b).2 h' h2 hg⟩⟩
theorem RowsB.push {w w' : World} {B c : Nat} {A : Option Addr} {vo v' : Value} {vs : List (Option Addr × Nat)} {n : Nat} {rows : List (List Bool)} {r : List Bool} (h : RowsB w B vo vs n rows) (hr : w.ownsRow B 4 1 (.slice A n c) n (r.map Value.bool)) (hc : n ≤ c)
    (hown : w'.ownsRow B 25 1 v' (rows.length + 1) ((vs.map fun a => Value.slice a.1 n a.2) ++ [.slice A n c])) (hg : w.grownBy w' vo.ownBlock) : RowsB w' B v' (vs ++ [(A, c)]) n (rows ++ [r]) where
  own := by simpa using hown
  row := fun i A' c' r' h1 h2 => by
    by_cases hi : i < rows.length
    · rw [List.getElem?_append_left (by rw [h.len]; exact hi)] at h1
      rw [List.getElem?_append_left hi] at h2
      exact ⟨(h.row i A' c' r' h1 h2).1, row_other (h.row i A' c' r' h1 h2).2 h.own (by decide) hg⟩
    · have hil := (List.getElem?_eq_some_iff.1 h2).1
      have hie : i = rows.length := by simp at hil; omega
      rw [List.getElem?_append_right (by rw [h.len]; omega)] at h1
      rw [List.getElem?_append_right (by omega)] at h2
      have e1 : i - vs.length = 0 := by rw [h.len]; omega
      have e2 : i - rows.length = 0 := by omega
      simp only [e1, e2, List.getElem?_cons_zero, Option.some.injEq, Prod.mk.injEq] at h1 h2
      obtain ⟨rfl, rfl⟩ := h1
      subst h2
      exact ⟨hc, row_other hr h.own (by decide) hg⟩
theorem RowsB.cell {w : World} {B : Nat} {vo : Value} {vs : List (Option Addr × Nat)} {n : Nat} {rows : List (List Bool)} (h : RowsB w B vo vs n rows) {i : Nat} (hi : i < rows.length) :
    ∃ (g : Nat) (cap : Nat) (A : Option Addr) (c : Nat), vo = .slice (some ⟨g, 0, none⟩) rows.length cap ∧ w.cell? ⟨g, i, none⟩ = some (.slice A n c) ∧ n ≤ c ∧ w.ownsRow B 4 1 (.slice A n c) n (rows[i].map Value.bool) := by
  obtain ⟨g, cap, rfl⟩ := own_head h.own (by omega)
  have hvl : i < vs.length := by rw [h.len]; exact hi
  obtain ⟨h1, h2⟩ := h.row i (vs[i]).1 (vs[i]).2 rows[i] (List.getElem?_eq_getElem hvl) (List.getElem?_eq_getElem hi)
  refine ⟨g, cap, (vs[i]).1, (vs[i]).2, rfl, ?_, h1, h2⟩
  rw [h.own.cellAt i (by omega), List.getElem?_map, List.getElem?_eq_getElem hvl]; rfl
theorem firstT_is {row : List Bool} {j : Nat} (h1 : j < row.length) (h2 : row.getD j false = true) (h3 : ∀ i, i < j → row.getD i false = false) : firstT row = some j := by
  cases h : firstT row with
  | none => rw [firstT_none h j h1] at h2; cases h2
  | some k =>
    obtain ⟨k1, k2, k3⟩ := firstT_some h
    rcases Nat.lt_trichotomy j k with g | g | g
    · rw [k3 j g] at h2; cases h2
    · rw [g]
    · rw [h3 k g] at k2; cases k2
theorem firstT_not {row : List Bool} (h : ∀ i, i < row.length → row.getD i false = false) : firstT row = none := by
  cases e : firstT row with
  | none => rfl
  | some k =>
    obtain ⟨k1, k2, _⟩ := firstT_some e
    rw [h k k1] at k2; cases k2
theorem indStep_none {kept : List (Nat × List Bool)} {row : List Bool} (h : firstT (redK kept row) = none) : indStep kept row = kept := by unfold indStep; rw [h]
theorem indStep_some {kept : List (Nat × List Bool)} {row : List Bool} {j : Nat} (h : firstT (redK kept row) = some j) : indStep kept row = kept ++ [(j, redK kept row)] := by unfold indStep; rw [h]
theorem redK_take (kept : List (Nat × List Bool)) (row : List Bool) (j : Nat) (h : j < kept.length) : redK (kept.take (j + 1)) row = if (redK (kept.take j) row).getD (kept[j]).1 false = true then xorV (redK (kept.take j) row) (kept[j]).2 else redK (kept.take j) row := by
  rw [take_snoc _ _ h, redK, List.foldl_append]; rfl
/-- A row xored up to a place. -/
def xorK (r s : List Bool) (k : Nat) : List Bool := (xorV r s).take k ++ r.drop k
theorem xorK_zero (r s : List Bool) : xorK r s 0 = r := by simp [xorK]
theorem xorK_all {r s : List Bool} (h : r.length = s.length) {k : Nat} (hk : r.length ≤ k) : xorK r s k = xorV r s := by
  unfold xorK
  rw [List.drop_of_length_le hk, List.append_nil, List.take_of_length_le (by rw [xorV_len _ _ h]; omega)]
theorem xorK_len {r s : List Bool} (h : r.length = s.length) (k : Nat) : (xorK r s k).length = r.length := by
  unfold xorK
  rw [List.length_append, List.length_take, List.length_drop, xorV_len _ _ h]; omega
theorem xorK_get {r s : List Bool} (h : r.length = s.length) {k : Nat} (hk : k < r.length) : (xorK r s k).getD k false = r.getD k false := by
  unfold xorK
  have hl : ((xorV r s).take k).length = k := by rw [List.length_take, xorV_len _ _ h]; omega
  rw [List.getD_eq_getElem?_getD, List.getElem?_append_right (by omega), hl, Nat.sub_self, List.getElem?_drop, Nat.add_zero, ← List.getD_eq_getElem?_getD]
theorem xorK_set {r s : List Bool} (h : r.length = s.length) {k : Nat} (hk : k < r.length) : (xorK r s k).set k (r.getD k false != s.getD k false) = xorK r s (k + 1) := by
  have hl : ((xorV r s).take k).length = k := by rw [List.length_take, xorV_len _ _ h]; omega
  have hxl : k < (xorV r s).length := by rw [xorV_len _ _ h]; omega
  unfold xorK
  rw [List.set_append_right _ _ (by omega), hl, Nat.sub_self, List.drop_eq_getElem_cons hk, List.set_cons_zero, take_snoc _ _ hxl, List.append_assoc, gd_eq _ _ hxl, xorV_get _ _ h]
  rfl
end Go.Proofs.Ytoofnkkbebjldaa
/- The lists of known answers of the document's course: an answer comes to them. Conditions: as each statement says. -/
namespace Go.Proofs.Ytoofnkkbebjldaa
open Go.RowKit
set_option linter.unusedVariables false
theorem RTurn.grow {w w' : World} {base B t sz n : Nat} {v : Value} {xs : List Value} (h : w.ownsRow B t sz v n xs) (ht : t = 4 ∨ t = 46 ∨ t = 27) (hg : w.grownBy w' v.ownBlock) (hb : Below base w w') : RTurn base w w' :=
  ⟨hb, fun k cs t' hk h1 h2 h3 h4 => hg.block k (Array.getElem?_eq_some_iff.1 hk).1 (fun e => row_ne h hk (by rcases ht with rfl | rfl | rfl <;> intro e <;> first | exact h2 e.symm | exact h3 e.symm | exact h4 e.symm) e.symm)⟩
theorem RTurn.store {w : World} {base B t sz n g o : Nat} {c : Nat} {xs : List Value} (h : w.ownsRow B t sz (.slice (some ⟨g, 0, none⟩) n c) n xs) (ht : t = 4 ∨ t = 46 ∨ t = 27) (hb : base ≤ B) (u : Value) : RTurn base w (w.setCell ⟨g, o, none⟩ u) :=
  ⟨(Below.refl _ _).setCell (p := ⟨g, o, none⟩) (Nat.le_trans hb (h.lt g rfl).1) u, fun k cs t' hk h1 h2 h3 h4 => Below.heap_setCell _ _ _ _ (fun e => by
    simp only at e
    subst e
    exact row_ne h hk (by rcases ht with rfl | rfl | rfl <;> intro e <;> first | exact h2 e.symm | exact h3 e.symm | exact h4 e.symm) rfl)⟩
def kvU (kv : Nat → Nat → Value) (p f : Nat) (v : Value) : Nat → Nat → Value := fun a b => if a = p ∧ b = f then v else kv a b
theorem kvU_same (kv : Nat → Nat → Value) (p f : Nat) (v : Value) : kvU kv p f v p f = v := by simp [kvU]
theorem kvU_other (kv : Nat → Nat → Value) {p f a b : Nat} (v : Value) (h : ¬ (a = p ∧ b = f)) : kvU kv p f v a b = kv a b := by unfold kvU; rw [if_neg h]
theorem range_set {n f : Nat} (hf : f < n) (g : Nat → Value) (v : Value) : ((List.range n).map g).set f v = (List.range n).map fun b => if b = f then v else g b := by
  apply List.ext_getElem (by simp)
  intro i h1 h2
  rw [List.getElem_set]
  simp only [List.getElem_map, List.getElem_range]
  by_cases e : f = i
  · subst e; simp
  · rw [if_neg e, if_neg (fun h => e h.symm)]
theorem RKn.push {w w' : World} {R : RLay} {kv : Nat → Nat → Value} {vt v' : Value} {told : List (Qn × Bool)} {q : Qn} {a : Bool} {H m : Nat} {xs : List Value} (h : RKn w R kv vt told) (hp : q.p < R.P) (hf : q.f < R.n)
    (hown : w'.ownsRow R.base 46 4 v' ((knL told q.p q.f).length + 1) (aCells (knL told q.p q.f) ++ [.int .i64 q.p, .int .i64 q.f, .int .i64 q.t, .bool a])) (hg : w.grownBy w' (kv q.p q.f).ownBlock) (hl : Lies (kv q.p q.f) v' H) (hH : w.heap.size ≤ H) (ht : w.ownsRow R.base 46 4 vt m xs) :
    RKn (w'.setCell ⟨R.kb q.p, q.f, none⟩ v') R (kvU kv q.p q.f v') vt (told ++ [(q, a)]) := by
  have hr0 := h.row q.p q.f hp hf
  have hout : ∀ p, p < R.P → w'.ownsRow R.base 27 1 (.slice (some ⟨R.kb p, 0, none⟩) R.n R.n) R.n ((List.range R.n).map (kv p)) := fun p hp' => row_other (h.out p hp') hr0 (by decide) hg
  have hkb : ∃ cs, w'.heap[R.kb q.p]? = some (.cells cs 27 (0, 0)) := by
    rcases (hout q.p hp).2 with ⟨hl, _⟩ | ⟨g', cap', cur', hv, _, hg', _⟩
    · cases hl
    · injection hv with hv _ _; injection hv with hv; injection hv with hv _ _
      rw [hv]; exact ⟨_, hg'⟩
  obtain ⟨cs, hkb⟩ := hkb
  have hrow : ∀ p f, p < R.P → f < R.n → ¬ (p = q.p ∧ f = q.f) → w'.ownsRow R.base 46 4 (kv p f) (knL told p f).length (aCells (knL told p f)) := fun p f hp' hf' hne =>
    ownsRow_grown (h.row p f hp' hf') hg (fun k hk e => h.apart p f q.p q.f hp' hf' hp hf hne k hk e.symm)
  refine ⟨fun p hp' => ?_, fun p f hp' hf' => ?_, fun p f p' f' h1 h2 h3 h4 hne => ?_, fun p f h1 h2 => ?_, h.inj⟩
  · by_cases e : p = q.p
    · subst e
      have := ((hout q.p hp).stored q.f v').1
      rw [range_set hf] at this
      have e : (fun b => if b = q.f then v' else kv q.p b) = kvU kv q.p q.f v' q.p := by funext b; simp [kvU]
      rw [← e]; exact this
    · have e2 : kvU kv q.p q.f v' p = kv p := by funext b; exact kvU_other _ _ (fun h => e h.1)
      rw [e2]
      exact ownsRow_setCell_other (hout p hp') (fun eb => h.inj p q.p hp' hp e (by simpa [Value.ownBlock] using eb)) v'
  · by_cases e : p = q.p ∧ f = q.f
    · obtain ⟨rfl, rfl⟩ := e
      rw [kvU_same, knL_same, aCells_snoc, List.length_append]
      exact ownsRow_setCell_other hown (row_ne hown hkb (by decide)) v'
    · rw [kvU_other _ _ e, knL_other _ _ _ (fun g => e ⟨g.1.symm, g.2.symm⟩)]
      exact ownsRow_setCell_other (hrow p f hp' hf' e) (row_ne (hrow p f hp' hf' e) hkb (by decide)) v'
  · by_cases e : p = q.p ∧ f = q.f
    · obtain ⟨rfl, rfl⟩ := e
      have e2 : ¬ (p' = q.p ∧ f' = q.f) := fun g => hne ⟨g.1.symm, g.2.symm⟩
      rw [kvU_same, kvU_other _ _ e2]
      exact (h.apart _ _ p' f' hp hf h3 h4 (fun g => e2 ⟨g.1.symm, g.2.symm⟩)).lies hl (h.row p' f' h3 h4) hH
    · rw [kvU_other _ _ e]
      by_cases e2 : p' = q.p ∧ f' = q.f
      · obtain ⟨rfl, rfl⟩ := e2
        rw [kvU_same]
        exact ((h.apart _ _ p f hp hf h1 h2 (fun g => e ⟨g.1.symm, g.2.symm⟩)).lies hl (h.row p f h1 h2) hH).symm
      · rw [kvU_other _ _ e2]; exact h.apart p f p' f' h1 h2 h3 h4 hne
  · by_cases e : p = q.p ∧ f = q.f
    · obtain ⟨rfl, rfl⟩ := e
      rw [kvU_same]
      exact (h.apT _ _ hp hf).lies hl ht hH
    · rw [kvU_other _ _ e]; exact h.apT p f h1 h2
/-- The list of all that was told grows. -/
theorem RKn.grownT {w w' : World} {R : RLay} {kv : Nat → Nat → Value} {vt vt' : Value} {told : List (Qn × Bool)} {H m : Nat} {xs : List Value} (h : RKn w R kv vt told) (ht : w.ownsRow R.base 46 4 vt m xs) (hg : w.grownBy w' vt.ownBlock) (hl : Lies vt vt' H) (hH : w.heap.size ≤ H) : RKn w' R kv vt' told :=
  ⟨fun p hp => row_other (h.out p hp) ht (by decide) hg, fun p f hp hf => ownsRow_grown (h.row p f hp hf) hg (fun k hk e => h.apT p f hp hf k hk e.symm), h.apart, fun p f h1 h2 => ((h.apT p f h1 h2).symm.lies hl (h.row p f h1 h2) hH).symm, h.inj⟩
theorem RKn.setP {w : World} {R : RLay} {kv : Nat → Nat → Value} {vt : Value} {told : List (Qn × Bool)} {cs : Array Value} (h : RKn w R kv vt told) (hc : w.heap[R.p]? = some (.cells cs 74 (0, 0))) (o : Nat) (u : Value) : RKn (w.setCell ⟨R.p, o, none⟩ u) R kv vt told :=
  { h with
    out := fun p hp => ownsRow_setCell_other (h.out p hp) (row_ne (h.out p hp) hc (by decide)) u
    row := fun p f hp hf => ownsRow_setCell_other (h.row p f hp hf) (row_ne (h.row p f hp hf) hc (by decide)) u }
/-- The known answers do not hold the question, or its answer. -/
theorem kn_none {told : List (Qn × Bool)} {q : Qn} (h : ∀ j (hj : j < (knL told q.p q.f).length), ((knL told q.p q.f)[j]).1.t ≠ q.t) : toldHas told q = false := by
  unfold toldHas
  rw [List.any_eq_false]
  intro a ha hq
  simp only [decide_eq_true_eq] at hq
  have hm : a ∈ knL told q.p q.f := by
    unfold knL; rw [List.mem_filter]; subst hq; exact ⟨ha, by simp⟩
  obtain ⟨j, hj, rfl⟩ := List.getElem_of_mem hm
  exact h j hj (by rw [hq])
theorem kn_some {told : List (Qn × Bool)} {q : Qn} {k : Nat} (hk : k < (knL told q.p q.f).length) (h : ∀ j (hj : j < (knL told q.p q.f).length), j < k → ((knL told q.p q.f)[j]).1.t ≠ q.t) (he : ((knL told q.p q.f)[k]).1.t = q.t) : toldHas told q = true ∧ toldAns told q = ((knL told q.p q.f)[k]).2 := by
  obtain ⟨h1, h2, h3⟩ := knL_mem (List.getElem_mem hk)
  have hq : ((knL told q.p q.f)[k]).1 = q := by
    cases e : ((knL told q.p q.f)[k]).1
    rw [e] at h1 h2 he
    cases q
    simp only at h1 h2 he
    rw [h1, h2, he]
  refine ⟨?_, ?_⟩
  · unfold toldHas
    rw [List.any_eq_true]
    exact ⟨_, h3, by simp [hq]⟩
  · unfold toldAns
    rw [← knL_find, List.find?_eq_some_iff_getElem.2 ⟨by simp [hq], k, hk, rfl, fun j hj => ?_⟩]
    · rfl
    · have := h j (by omega) hj
      simp only [Bool.not_eq_true', decide_eq_false_iff_not]
      intro e
      exact this (by rw [e])
end Go.Proofs.Ytoofnkkbebjldaa
/- The walk of ReconcileNil: it returns true for any number. Conditions: none beyond the argument's type. -/
namespace Go.Proofs.Ytoofnkkbebjldaa
open Go.RowKit
set_option linter.unusedVariables false
/-- No machine: nil, or one that New did not make. -/
def BadM (w : World) (v : Value) : Prop := v = .pointer none ∨ ∃ b, v = .pointer (some ⟨b, 0, none⟩) ∧ w.cell? ⟨b, 0, none⟩ = some (.bool false)
theorem valid_bad (v : Value) (w : World) (h : BadM w v) : Calls Try.prog 57 #[v] w fun e w' => e = .returned (.bool false) ∧ w = w' := by
  rcases h with rfl | ⟨b, rfl, hc⟩
  · go_enter Try.func57, Try.ntmps57
    go_wp2_with fail
    go_ret
    exact ⟨rfl, rfl⟩
  · go_enter Try.func57, Try.ntmps57
    go_wp2_with fail
    go_ret
    exact ⟨rfl, rfl⟩
theorem Tell_bad (v : Value) (a : Bool) (w : World) (h : BadM w v) : Calls Try.prog 37 #[v, .bool a] w fun e w' => e = .returned (.int .i64 1) ∧ w = w' := by
  have H := Lib.hid h; clear h
  go_enter Try.func37, Try.ntmps37
  go_wp2_with fail
  refine (valid_bad v _ H.out).mono ?_
  rintro e w' ⟨rfl, rfl⟩
  go_wp2_with fail
  go_ret
  exact ⟨rfl, rfl⟩
theorem Bits_bad (v : Value) (w : World) (h : BadM w v) : Calls Try.prog 35 #[v] w fun e w' => e = .returned (.slice none 0 0) ∧ w = w' := by
  have H := Lib.hid h; clear h
  go_enter Try.func35, Try.ntmps35
  go_wp2_with fail
  refine (valid_bad v _ H.out).mono ?_
  rintro e w' ⟨rfl, rfl⟩
  go_wp2_with fail
  go_ret
  exact ⟨rfl, rfl⟩
theorem Known_bad (v : Value) (w : World) (h : BadM w v) : Calls Try.prog 42 #[v] w fun e w' => e = .returned (.slice none 0 0) ∧ w = w' := by
  have H := Lib.hid h; clear h
  go_enter Try.func42, Try.ntmps42
  go_wp2_with fail
  refine (valid_bad v _ H.out).mono ?_
  rintro e w' ⟨rfl, rfl⟩
  go_wp2_with fail
  go_ret
  exact ⟨rfl, rfl⟩
theorem Flips_bad (v : Value) (w : World) (h : BadM w v) : Calls Try.prog 36 #[v] w fun e w' => e = .returned (.int .i64 0) ∧ w = w' := by
  have H := Lib.hid h; clear h
  go_enter Try.func36, Try.ntmps36
  go_wp2_with fail
  refine (valid_bad v _ H.out).mono ?_
  rintro e w' ⟨rfl, rfl⟩
  go_wp2_with fail
  go_ret
  exact ⟨rfl, rfl⟩
theorem Failed_bad (v : Value) (w : World) (h : BadM w v) : Calls Try.prog 38 #[v] w fun e w' => e = .returned (.bool false) ∧ w = w' := by
  have H := Lib.hid h; clear h
  go_enter Try.func38, Try.ntmps38
  go_wp2_with fail
  refine (valid_bad v _ H.out).mono ?_
  rintro e w' ⟨rfl, rfl⟩
  go_wp2_with fail
  go_ret
  exact ⟨rfl, rfl⟩
theorem Copy_bad (v : Value) (w : World) (h : BadM w v) : Calls Try.prog 41 #[v] w fun e w' => e = .returned (.pointer none) ∧ w = w' := by
  have H := Lib.hid h; clear h
  go_enter Try.func41, Try.ntmps41
  go_wp2_with fail
  refine (valid_bad v _ H.out).mono ?_
  rintro e w' ⟨rfl, rfl⟩
  go_wp2_with fail
  go_ret
  exact ⟨rfl, rfl⟩
theorem BadM.below {w w' : World} {v : Value} (h : BadM w v) (hb : Below w.heap.size w w') : BadM w' v := by
  rcases h with h | ⟨b, h1, h2⟩
  · exact .inl h
  · refine .inr ⟨b, h1, ?_⟩
    rw [hb.cell (p := ⟨b, 0, none⟩) (World.block_lt_of_cell? w _ h2)]; exact h2
theorem Ask_bad (v : Value) (w : World) (h : BadM w v) : Calls Try.prog 34 #[v] w fun e w' => e = .returned (.tuple #[kq ⟨0, 0, 0⟩, .bool false, .int .i64 1]) ∧ Below w.heap.size w w' := by
  have H := Lib.hid h; clear h
  go_enter Try.func34, Try.ntmps34
  go_wp2_with fail
  refine (valid_bad v _ (H.out.below ((Below.refl _ _).alloc (Nat.le_refl _) _))).mono ?_
  rintro e w' ⟨rfl, rfl⟩
  go_wp2_with fail
  refine bodyPost_ret (v := .tuple #[kq ⟨0, 0, 0⟩, .bool false, .int .i64 1]) (by simp [results, Try.results34, go_sem]) rfl ⟨rfl, ?_⟩
  first
  | exact (((((Below.refl _ _).alloc (Nat.le_refl _) _).setCell (Nat.le_refl _) _).setCell (Nat.le_refl _) _).setCell (Nat.le_refl _) _)
  | exact (Below.refl _ _).alloc (Nat.le_refl _) _
set_option maxHeartbeats 1000000 in
theorem New_bad (A : Option Addr) (n c : Nat) (P B : Int) (s : Nat) (w : World) (hne : saneE P B n ≠ 0) :
    Calls Try.prog 33 #[casV P B s, .slice A n c] w fun e w' => (∃ E, E = saneE P B n ∧ e = .returned (.tuple #[.pointer none, .int .i64 E])) ∧ Below w.heap.size w w' := by
  go_enter Try.func33, Try.ntmps33
  go_wp2_with fail
  refine (sane_any _ _ s _ _).mono ?_
  rintro e w1 ⟨rfl, hb1⟩
  have HB := Lib.hid (((Below.refl w.heap.size w).alloc (Nat.le_refl _) _).trans (hb1.mono (by simp)))
  obtain ⟨E, hE⟩ : ∃ E, E = saneE P B n := ⟨_, rfl⟩
  rw [← hE] at hne ⊢
  have hEb : (E != 0) = true := by simpa using hne
  have HE := Lib.hid hE
  clear hb1 hE hne
  go_wp2_with fail
  go_ret2
  exact ⟨⟨E, HE.out, rfl⟩, HB.out⟩
set_option maxRecDepth 100000 in
set_option maxHeartbeats 4000000 in
theorem ReconcileNil_walk (a : Nat) (w : World) (ha : a < 256) :
    Calls Try.prog 10 #[.int .u8 a] w fun e w' => e = .returned (.bool true) ∧ Below w.heap.size w w' := by
  go_enter Try.func10, Try.ntmps10
  go_wp2_with fail
  obtain ⟨w2, hw2⟩ : ∃ z, z = (w.alloc (.cells #[.bool false, .int .i64 0, .int .i64 0, .int .u64 0, .slice none 0 0, .slice none 0 0, .slice none 0 0, .map none, .slice none 0 0, .int .i64 0, .bool false, .int .i64 0, .int .i64 0, .bool false, .int .i64 0, .int .i64 0, .int .i64 0, .bool false, .int .i64 0, .int .i64 0, .int .i64 0, .bool false] 79)).alloc (.cells #[.pointer none, .pointer (some ⟨w.heap.size, 0, none⟩)] 59) := ⟨_, rfl⟩
  have HB2 : Hid (Below w.heap.size w w2) := Lib.hid (by rw [hw2]; exact ((Below.refl _ _).alloc (Nat.le_refl _) _).alloc (by simp) _)
  have hr : w2.heap[w.heap.size + 1]? = some (.cells #[.pointer none, .pointer (some ⟨w.heap.size, 0, none⟩)] 59 (0, 0)) := by
    rw [hw2]
    have := heap_alloc_new (w.alloc (.cells #[.bool false, .int .i64 0, .int .i64 0, .int .u64 0, .slice none 0 0, .slice none 0 0, .slice none 0 0, .map none, .slice none 0 0, .int .i64 0, .bool false, .int .i64 0, .int .i64 0, .bool false, .int .i64 0, .int .i64 0, .int .i64 0, .bool false, .int .i64 0, .int .i64 0, .int .i64 0, .bool false] 79)) (.cells #[.pointer none, .pointer (some ⟨w.heap.size, 0, none⟩)] 59)
    rw [World.size_alloc] at this
    exact this
  have hz : w2.cell? ⟨w.heap.size, 0, none⟩ = some (.bool false) := by
    rw [hw2, World.cell?_alloc_lt _ _ _ (by simp), cell_of_row _ _ _ _ _ _ (heap_alloc_new w _)]; rfl
  have r0 : w2.cell? ⟨w.heap.size + 1, 0, none⟩ = some (.pointer none) := by rw [cell_of_row _ _ _ _ _ _ hr]; rfl
  have r1 : w2.cell? ⟨w.heap.size + 1, 1, none⟩ = some (.pointer (some ⟨w.heap.size, 0, none⟩)) := by rw [cell_of_row _ _ _ _ _ _ hr]; rfl
  have HZ := Lib.hid hz; have HR0 := Lib.hid r0; have HR1 := Lib.hid r1
  have HLT : Hid (w.heap.size + 1 < w2.heap.size) := Lib.hid (Array.getElem?_eq_some_iff.1 hr).1
  rw [← hw2]
  clear hr hz r0 r1 hw2
  go_loopw [4] (fun i wr => ∃ k : Nat, k ≤ 2 ∧ i = .int .i64 k ∧ Below w2.heap.size w2 wr) (fun i _ => 2 - (intOf i).toNat)
  case atStart => exact ⟨0, by omega, rfl, Below.refl _ _⟩
  case round =>
    obtain ⟨k, hk, rfl, hbw⟩ := hrel
    have HBW := Lib.hid hbw
    have hlt := HLT.out
    have r0 := (hbw.cell (p := ⟨w.heap.size + 1, 0, none⟩) hlt).trans HR0.out
    have r1 := (hbw.cell (p := ⟨w.heap.size + 1, 1, none⟩) hlt).trans HR1.out
    have HV : Hid (∀ v : Value, v = .pointer none ∨ v = .pointer (some ⟨w.heap.size, 0, none⟩) → BadM wr v) := Lib.hid (by
      rintro v (h | h)
      · exact .inl h
      · exact .inr ⟨_, h, (hbw.cell (p := ⟨w.heap.size, 0, none⟩) (by simp only; omega)).trans HZ.out⟩)
    clear hbw hlt
    have hk3 : k = 0 ∨ k = 1 ∨ k = 2 := by omega
    rcases hk3 with rfl | rfl | rfl
    · have hv := HV.out (.pointer none) (.inl rfl)
      have HV1 := Lib.hid hv
      clear hv HV
      go_wp2_with fail
      refine (Ask_bad _ _ HV1.out).mono ?_
      rintro e w3 ⟨rfl, hb3⟩
      have HV2 := Lib.hid (HV1.out.below hb3); have HB3 := Lib.hid (bnext HBW.out hb3)
      have HV3 := Lib.hid (HV2.out.below ((Below.refl w3.heap.size w3).alloc (Nat.le_refl _) (.cells #[.int .i64 0, .int .i64 0, .int .i64 0] 44)))
      have HB4 := Lib.hid (bnext HB3.out ((Below.refl w3.heap.size w3).alloc (Nat.le_refl _) (.cells #[.int .i64 0, .int .i64 0, .int .i64 0] 44)))
      clear hb3 r0 r1
      go_wp2_with (first
        | (go_at_call 37; with_reducible refine (Tell_bad _ _ _ HV3.out).mono ?_; rintro e w9 ⟨rfl, rfl⟩)
        | (go_at_call 35; with_reducible refine (Bits_bad _ _ HV3.out).mono ?_; rintro e w9 ⟨rfl, rfl⟩)
        | (go_at_call 42; with_reducible refine (Known_bad _ _ HV3.out).mono ?_; rintro e w9 ⟨rfl, rfl⟩)
        | (go_at_call 36; with_reducible refine (Flips_bad _ _ HV3.out).mono ?_; rintro e w9 ⟨rfl, rfl⟩)
        | (go_at_call 38; with_reducible refine (Failed_bad _ _ HV3.out).mono ?_; rintro e w9 ⟨rfl, rfl⟩)
        | (go_at_call 41; with_reducible refine (Copy_bad _ _ HV3.out).mono ?_; rintro e w9 ⟨rfl, rfl⟩))
      exact ⟨⟨1, by omega, rfl, HB4.out⟩, by simp [intOf]⟩
    · have hv := HV.out (.pointer (some ⟨w.heap.size, 0, none⟩)) (.inr rfl)
      have HV1 := Lib.hid hv
      clear hv HV
      go_wp2_with fail
      refine (Ask_bad _ _ HV1.out).mono ?_
      rintro e w3 ⟨rfl, hb3⟩
      have HV2 := Lib.hid (HV1.out.below hb3); have HB3 := Lib.hid (bnext HBW.out hb3)
      have HV3 := Lib.hid (HV2.out.below ((Below.refl w3.heap.size w3).alloc (Nat.le_refl _) (.cells #[.int .i64 0, .int .i64 0, .int .i64 0] 44)))
      have HB4 := Lib.hid (bnext HB3.out ((Below.refl w3.heap.size w3).alloc (Nat.le_refl _) (.cells #[.int .i64 0, .int .i64 0, .int .i64 0] 44)))
      clear hb3 r0 r1
      go_wp2_with (first
        | (go_at_call 37; with_reducible refine (Tell_bad _ _ _ HV3.out).mono ?_; rintro e w9 ⟨rfl, rfl⟩)
        | (go_at_call 35; with_reducible refine (Bits_bad _ _ HV3.out).mono ?_; rintro e w9 ⟨rfl, rfl⟩)
        | (go_at_call 42; with_reducible refine (Known_bad _ _ HV3.out).mono ?_; rintro e w9 ⟨rfl, rfl⟩)
        | (go_at_call 36; with_reducible refine (Flips_bad _ _ HV3.out).mono ?_; rintro e w9 ⟨rfl, rfl⟩)
        | (go_at_call 38; with_reducible refine (Failed_bad _ _ HV3.out).mono ?_; rintro e w9 ⟨rfl, rfl⟩)
        | (go_at_call 41; with_reducible refine (Copy_bad _ _ HV3.out).mono ?_; rintro e w9 ⟨rfl, rfl⟩))
      exact ⟨⟨2, by omega, rfl, HB4.out⟩, by simp [intOf]⟩
    · have hk513 : (513 : Int) + (a : Int) = ((513 + a : Nat) : Int) := by omega
      have hmk1 : ∀ w : World, (Instr.makeSlice 25 (.int .i64 (513 + (a : Int))) (.int .i64 (513 + (a : Int)))).run Try.prog w = .ok (.slice (some ⟨w.heap.size, 0, none⟩) (513 + a) (513 + a)) (w.alloc (.cells (Array.replicate (513 + a) (.bool false)) 4)) := fun w => by
        rw [hk513]; exact make_bool w (513 + a) (by omega)
      have hmk2 : ∀ w : World, (Instr.makeSlice 25 (.int .i64 512) (.int .i64 512)).run Try.prog w = .ok (.slice (some ⟨w.heap.size, 0, none⟩) 512 512) (w.alloc (.cells (Array.replicate 512 (.bool false)) 4)) := fun w => make_bool w 512 (by decide)
      clear r0 r1 hk513
      have HB0 := Lib.hid (bnext HB2.out HBW.out)
      clear HV
      have HK2 := Lib.hid hmk2
      clear hmk2
      go_wp2_with fail
      refine (New_bad _ (513 + a) (513 + a) 1 1 0 _ (by unfold saneE; rw [if_neg (by decide), if_pos (by omega)]; decide)).mono ?_
      rintro e w5 ⟨⟨E, hE, rfl⟩, hb5⟩
      obtain rfl : E = 4 := by rw [hE]; unfold saneE; rw [if_neg (by decide), if_pos (by omega)]
      have HB5 := Lib.hid (bnext HB0.out (((Below.refl _ _).alloc (Nat.le_refl _) _).trans (hb5.mono (by simp))))
      have hmk2 := HK2.out
      clear hE hb5 hmk1
      go_wp2_with fail
      clear hmk2
      have hr6 : Rd (w5.alloc (.cells (Array.replicate 512 (.bool false)) 4)) (w5.heap.size + 1) 1 (some ⟨w5.heap.size, 0, none⟩) 512 ((List.replicate 512 false).map Value.bool) := by
        have := Rd.new w5 (Array.replicate 512 (.bool false)) 4 1 512 (by simp)
        simpa using this
      refine (New_ok _ 512 512 1 1 0 (List.replicate 512 false) _ (by decide) (by decide) (by decide) (by decide) (by decide) (by decide) (hr6.mono (by simp))).mono ?_
      clear hr6
      rintro e w6 ⟨L, vt, rfl, hLn, hLP, hLB, hLs, hbase, hm, hb6⟩
      have HB6 := Lib.hid (bnext HB5.out (((Below.refl _ _).alloc (Nat.le_refl _) _).trans (hb6.mono (by simp))))
      clear hLn hLP hLB hLs hbase hm hb6
      go_wp2_with fail
      refine (works_any _).mono ?_
      rintro e w7 ⟨rfl, hb7⟩
      have HB7 := Lib.hid (bnext HB6.out hb7)
      clear hb7
      go_wp2_with fail
      go_ret
      exact ⟨rfl, HB7.out⟩
end Go.Proofs.Ytoofnkkbebjldaa
