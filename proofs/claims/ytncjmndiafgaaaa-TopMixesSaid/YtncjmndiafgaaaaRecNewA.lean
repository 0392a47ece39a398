/- The contract of New of the cascades. Conditions: as each statement says. -/
import Derived.Test.YtncjmndiafgaaaaRecSearch
import Derived.Carry
import Derived.Test.YtncjmndiafgaaaaOpen
import Derived.Test.YtncjmndiafgaaaaBits2
namespace Go.Proofs.Ytncjmndiafgaaaa
open Go.RowKit
set_option linter.unusedVariables false
set_option maxRecDepth 100000 in
theorem Clone_bool (A : Option Addr) (n c : Nat) (l : List Bool) (w : World) (hn : n ≤ 1073741824) (h : Rd w w.heap.size 1 A n (l.map (Value.bool))) :
    Calls Try.prog 56 #[.slice A n c] w fun e w' => ∃ A' c', e = .returned (.slice A' n c') ∧ n ≤ c' ∧ w'.ownsRow w.heap.size 4 1 (.slice A' n c') n (l.map (Value.bool)) ∧ Below w.heap.size w w' := by
  have H := Lib.hid h; clear h
  obtain ⟨i0, hi0, hz0, hz1, hz2⟩ := info_parts info_bool
  have HI0 := Lib.hid hi0; have HZ0 := Lib.hid hz0; have HZ1 := Lib.hid hz1; have HZ2 := Lib.hid hz2
  clear hi0 hz0 hz1 hz2
  have q : ∀ (w : World) (a : Option Addr) (n c n' c' : Nat), (binOp .eql 40 (.slice a n c) (.slice none n' c')).run Try.prog w = .ok (.bool a.isNone) w := fun w a n c n' c' => Lib.run_eql_slice_nil w _ _ a n c n' c' Try.underlying40
  cases A with
  | none =>
    have hn0 : n = 0 := by
      rcases Nat.eq_zero_or_pos n with h | h
      · exact h
      · obtain ⟨_, _, h1, _⟩ := H.out.2 h; cases h1
    subst hn0
    have hl : l = [] := by have := H.out.1; simpa using this
    subst hl
    clear H
    go_enter Try.func56, Try.ntmps56
    go_wp2_with fail
    go_ret
    exact ⟨none, 0, rfl, Nat.le_refl _, World.ownsRow_nil _ _ _ _, Below.refl _ _⟩
  | some a =>
    go_enter Try.func56, Try.ntmps56
    go_wp2_with (at_builtin; refine wpList_append_rd _ rfl (.tmp 5) (.tmp 6) _ rfl w.heap.size 4 i0 _ 1 1 Try.underlying40 HI0.out HZ0.out HZ1.out HZ2.out rfl (by decide) _ 0 [] rfl (World.ownsRow_made w #[] 0 (Nat.le_refl _) (by simp [maxLen]) (by simp)) _ (some a) n c _ rfl (H.out.alloc (Nat.le_refl _) _) (by intro u hu; obtain ⟨_, _, rfl⟩ := List.mem_map.1 hu; rfl) (by unfold maxLen; omega) (by omega) (by simp) ?_; intro v1 w1 hown1 hg1)
    rw [Nat.zero_add, List.nil_append] at hown1
    obtain ⟨A', c', rfl, hc⟩ := own_form hown1
    go_ret
    exact ⟨A', c', rfl, hc, hown1, (((Below.refl _ _).alloc (Nat.le_refl _) _).grown hg1 (by simp) (fun g hg => by cases hg; exact Nat.le_refl _))⟩
/-- A machine that is being made: k passes have their orders and blocks. -/
structure NAt (w : World) (base p km n P B s k j : Nat) (Ab : Option Addr) (cbt : Nat) (b : List Bool) (vo vb : Value) (os bs : List (Option Addr × Nat)) : Prop where
  cells : w.heap[p]? = some (.cells #[.bool true, .int .i64 P, .int .i64 B, .int .u64 s, vo, vb, .slice Ab n cbt, .map (some km), .slice none 0 0, .int .i64 0, .bool false, .int .i64 0, .int .i64 0, .bool false, .int .i64 0, .int .i64 0, .int .i64 0, .bool false, .int .i64 0, .int .i64 0, .int .i64 0, .bool false] 92 (0, 0))
  bits : w.ownsRow base 4 1 (.slice Ab n cbt) n (b.map Value.bool)
  known : KnAt w km []
  kmb : base ≤ km
  pb : base ≤ p
  nc : n ≤ cbt
  ol : os.length = k
  bl : bs.length = j
  ord : w.ownsRow base 95 1 vo k (os.map fun a => .slice a.1 n a.2)
  blk : w.ownsRow base 109 1 vb j (bs.mapIdx fun i a => .slice a.1 (cutL B n i).length a.2)
  ordr : ∀ i A c, os[i]? = some (A, c) → n ≤ c ∧ w.ownsRow base 3 1 (.slice A n c) n ((orderL s n i).map (Value.int .i64))
  blkr : ∀ i A c, bs[i]? = some (A, c) → (cutL B n i).length ≤ c ∧ w.ownsRow base 90 3 (.slice A (cutL B n i).length c) (cutL B n i).length (qCells (cutL B n i))
theorem NAt.below {w w' : World} {base p km n P B s k j : Nat} {Ab : Option Addr} {cbt : Nat} {b : List Bool} {vo vb : Value} {os bs : List (Option Addr × Nat)} (h : NAt w base p km n P B s k j Ab cbt b vo vb os bs) (hb : Below w.heap.size w w') : NAt w' base p km n P B s k j Ab cbt b vo vb os bs :=
  { h with
    cells := (hb.block _ (Array.getElem?_eq_some_iff.1 h.cells).1).trans h.cells
    bits := ownsRow_below h.bits hb (Nat.le_refl _)
    known := h.known.keep (hb.block _ h.known.lt)
    ord := ownsRow_below h.ord hb (Nat.le_refl _)
    blk := ownsRow_below h.blk hb (Nat.le_refl _)
    ordr := fun i A c hi => ⟨(h.ordr i A c hi).1, ownsRow_below (h.ordr i A c hi).2 hb (Nat.le_refl _)⟩
    blkr := fun i A c hi => ⟨(h.blkr i A c hi).1, ownsRow_below (h.blkr i A c hi).2 hb (Nat.le_refl _)⟩ }
theorem bcells_n {w w' : World} (h : Below w.heap.size w w') {b o : Nat} {v : Value} (hc : w.cell? ⟨b, o, none⟩ = some v) : w'.cell? ⟨b, o, none⟩ = some v := by
  refine (h.cell (p := ⟨b, o, none⟩) ?_).trans hc
  unfold World.cell? at hc
  split at hc
  · rename_i cc t fz hb; exact (Array.getElem?_eq_some_iff.1 hb).1
  · cases hc
/-- The machine as it is laid. -/
def NewA (w1 : World) (base n P B s : Nat) (b : List Bool) (v7 : Value) (wx : World) : Prop :=
  ∃ (p km cbt : Nat) (Ab : Option Addr), v7 = .pointer (some ⟨p, 0, none⟩) ∧ NAt wx base p km n P B s 0 0 Ab cbt b (.slice none 0 0) (.slice none 0 0) [] [] ∧ Below w1.heap.size w1 wx
abbrev nCells (P B s n : Nat) (Ab : Option Addr) (cbt km : Nat) : Array Value := #[.bool true, .int .i64 P, .int .i64 B, .int .u64 s, .slice none 0 0, .slice none 0 0, .slice Ab n cbt, .map (some km), .slice none 0 0, .int .i64 0, .bool false, .int .i64 0, .int .i64 0, .bool false, .int .i64 0, .int .i64 0, .int .i64 0, .bool false, .int .i64 0, .int .i64 0, .int .i64 0, .bool false]
theorem NewA_one {w1 wd wc : World} {base n P B s cbt : Nat} {Ab : Option Addr} {b : List Bool} (hd : Below w1.heap.size w1 wd) (hb : base ≤ w1.heap.size) (hc : n ≤ cbt) (ho : wc.ownsRow wd.heap.size 4 1 (.slice Ab n cbt) n (b.map Value.bool)) (hw : Below wd.heap.size wd wc) :
    NewA w1 base n P B s b (.pointer (some ⟨wc.heap.size + 1, 0, none⟩)) ((wc.alloc (.map #[] 0)).alloc (.cells (nCells P B s n Ab cbt wc.heap.size) 92)) := by
  have hsd := hd.size
  have hsz := hw.size
  have e1 : (wc.alloc (.map #[] 0)).heap.size = wc.heap.size + 1 := by simp
  have b1 : Below wc.heap.size wc (wc.alloc (.map #[] 0)) := (Below.refl _ _).alloc (Nat.le_refl _) _
  have b2 : Below (wc.alloc (.map #[] 0)).heap.size (wc.alloc (.map #[] 0)) ((wc.alloc (.map #[] 0)).alloc (.cells (nCells P B s n Ab cbt wc.heap.size) 92)) := (Below.refl _ _).alloc (Nat.le_refl _) _
  have b3 := b1.trans (b2.mono (by omega))
  refine ⟨wc.heap.size + 1, wc.heap.size, cbt, Ab, rfl, ⟨?_, ownsRow_below (ownsRow_mono ho (by omega)) b3 (Nat.le_refl _), ?_, by omega, by omega, hc, rfl, rfl, World.ownsRow_nil _ _ _ _, World.ownsRow_nil _ _ _ _, by simp, by simp⟩, hd.trans ((hw.mono hsd).trans (b3.mono (by omega)))⟩
  · rw [← e1]; exact heap_alloc_new _ _
  · exact (KnAt.made wc).keep (b2.block _ (by omega))
theorem NewA_two {w1 wd wc : World} {base n P B s cbt : Nat} {Ab : Option Addr} {b : List Bool} (hd : Below (w1.alloc (.map #[] 0)).heap.size (w1.alloc (.map #[] 0)) wd) (hb : base ≤ w1.heap.size) (hc : n ≤ cbt) (ho : wc.ownsRow wd.heap.size 4 1 (.slice Ab n cbt) n (b.map Value.bool)) (hw : Below wd.heap.size wd wc) :
    NewA w1 base n P B s b (.pointer (some ⟨wc.heap.size, 0, none⟩)) (wc.alloc (.cells (nCells P B s n Ab cbt w1.heap.size) 92)) := by
  have hsd := hd.size
  have hsz := hw.size
  have e1 : (w1.alloc (.map #[] 0)).heap.size = w1.heap.size + 1 := by simp
  have b1 : Below w1.heap.size w1 (w1.alloc (.map #[] 0)) := (Below.refl _ _).alloc (Nat.le_refl _) _
  have b2 : Below wc.heap.size wc (wc.alloc (.cells (nCells P B s n Ab cbt w1.heap.size) 92)) := (Below.refl _ _).alloc (Nat.le_refl _) _
  refine ⟨wc.heap.size, w1.heap.size, cbt, Ab, rfl, ⟨heap_alloc_new _ _, ownsRow_below (ownsRow_mono ho (by omega)) b2 (Nat.le_refl _), ?_, by omega, by omega, hc, rfl, rfl, World.ownsRow_nil _ _ _ _, World.ownsRow_nil _ _ _ _, by simp, by simp⟩, b1.trans ((hd.mono (by omega)).trans ((hw.mono (by omega)).trans (b2.mono (by omega))))⟩
  exact (((KnAt.made w1).keep (hd.block _ (by omega))).keep (hw.block _ (by omega))).keep (b2.block _ (by omega))
def st0 (b : List Bool) : Mst := ⟨b, [], 0, false, 0, 0, false, ⟨0, 0, 0⟩, false, ⟨0, 0, 0⟩, false⟩
/-- What New hands back. -/
def NewP (n P B s : Nat) (b : List Bool) (w : World) (e : Ending) (w' : World) : Prop :=
  ∃ (L : Lay) (vt : Value), e = .returned (.tuple #[ptrV L, .int .i64 0]) ∧ L.n = n ∧ L.P = P ∧ L.B = B ∧ L.s = s ∧ w.heap.size < L.base ∧ MAt w' L vt (advS L (st0 b)) ∧ Below w.heap.size w w'
end Go.Proofs.Ytncjmndiafgaaaa
/- The memory of New of the cascades. Conditions: as each statement says. -/
namespace Go.Proofs.Ytncjmndiafgaaaa
open Go.RowKit
set_option linter.unusedVariables false
theorem info_ints : (Try.prog.info? 95).map (fun i => (i.zero, i.size, i.bytes)) = some (some (.slice none 0 0), 1, 24) := by kernel_rfl
theorem elB_ints : ElemB Try.prog 86 95 1 24 := ElemB.of Try.underlying86 info_ints rfl (by decide)
theorem info_qs : (Try.prog.info? 109).map (fun i => (i.zero, i.size, i.bytes)) = some (some (.slice none 0 0), 1, 24) := by kernel_rfl
theorem elB_qs : ElemB Try.prog 87 109 1 24 := ElemB.of Try.underlying87 info_qs rfl (by decide)
/-- A row of another type stays where a row grows and a cell of the machine is set. -/
theorem row_keep {w9 w8 : World} {B B' t te sz sz' n n' p o : Nat} {v vo u : Value} {xs ys : List Value} {cs : Array Value} (h : w9.ownsRow B t sz v n xs) (hg : w9.grownBy w8 vo.ownBlock) (ho : w9.ownsRow B' te sz' vo n' ys) (hp : w8.heap[p]? = some (.cells cs 92 (0, 0))) (h1 : t ≠ te) (h2 : t ≠ 92) :
    (w8.setCell ⟨p, o, none⟩ u).ownsRow B t sz v n xs := by
  have h8 := ownsRow_grown h hg (fun k hk e => type_ne2 h hk ho e.symm h1)
  exact ownsRow_setCell_other h8 (a := ⟨p, o, none⟩) (fun e => type_ne h8 e hp h2) u
theorem NAt.p_ne {w : World} {base p km n P B s k j : Nat} {Ab : Option Addr} {cbt : Nat} {b : List Bool} {vo vb : Value} {os bs : List (Option Addr × Nat)} (h : NAt w base p km n P B s k j Ab cbt b vo vb os bs) : km ≠ p := fun e => map_ne_row (by rw [e]; exact h.cells) h.known
theorem NAt.pushO {w w9 w8 : World} {base p km n P B s k j c : Nat} {A Ab : Option Addr} {cbt : Nat} {b : List Bool} {vo vb v8 : Value} {os bs : List (Option Addr × Nat)} (h : NAt w base p km n P B s k j Ab cbt b vo vb os bs) (hbw : base ≤ w.heap.size) (hb : Below w.heap.size w w9) (hc : n ≤ c) (ho : w9.ownsRow w.heap.size 3 1 (.slice A n c) n ((orderL s n k).map (Value.int .i64)))
    (hown : w8.ownsRow base 95 1 v8 (k + 1) ((os.map fun a => Value.slice a.1 n a.2) ++ [.slice A n c])) (hg : w9.grownBy w8 vo.ownBlock) : NAt (w8.setCell ⟨p, 4, none⟩ v8) base p km n P B s (k + 1) j Ab cbt b v8 vb (os ++ [(A, c)]) bs := by
  have h9 := h.below hb
  have hp8 := (hg.block p (Array.getElem?_eq_some_iff.1 h9.cells).1 (fun e => type_ne h9.ord e.symm h9.cells (by decide))).trans h9.cells
  have hkp := h.p_ne
  refine ⟨?_, row_keep h9.bits hg h9.ord hp8 (by decide) (by decide), (h9.known.keep (hg.block km h9.known.lt (fun e => map_ne h9.ord e.symm h9.known))).keep (Below.heap_setCell _ _ _ _ hkp), h.kmb, h.pb, h.nc, by simp [h.ol], h.bl, ?_, row_keep h9.blk hg h9.ord hp8 (by decide) (by decide), ?_, ?_⟩
  · have := blk_setR hp8 (o := 4) v8
    rw [this]; rfl
  · rw [List.map_append]
    exact ownsRow_setCell_other hown (a := ⟨p, 4, none⟩) (fun e => type_ne hown e hp8 (by decide)) v8
  · intro i A' c' hi
    by_cases hik : i < os.length
    · rw [List.getElem?_append_left hik] at hi
      exact ⟨(h9.ordr i A' c' hi).1, row_keep (h9.ordr i A' c' hi).2 hg h9.ord hp8 (by decide) (by decide)⟩
    · rw [List.getElem?_append_right (by omega)] at hi
      obtain ⟨hl, hv⟩ := List.getElem?_eq_some_iff.1 hi
      simp only [List.length_singleton] at hl
      have hie : i = k := by have := h.ol; omega
      subst hie
      have h0 : i - os.length = 0 := by omega
      simp only [h0, List.getElem_singleton, Prod.mk.injEq] at hv
      obtain ⟨rfl, rfl⟩ := hv
      exact ⟨hc, row_keep (ownsRow_mono ho hbw) hg h9.ord hp8 (by decide) (by decide)⟩
  · intro i A' c' hi
    exact ⟨(h9.blkr i A' c' hi).1, row_keep (h9.blkr i A' c' hi).2 hg h9.ord hp8 (by decide) (by decide)⟩
theorem NAt.pushB {w w9 w8 : World} {base p km n P B s k j c : Nat} {A Ab : Option Addr} {cbt : Nat} {b : List Bool} {vo vb v8 : Value} {os bs : List (Option Addr × Nat)} (h : NAt w base p km n P B s k j Ab cbt b vo vb os bs) (hbw : base ≤ w.heap.size) (hb : Below w.heap.size w w9) (hc : (cutL B n j).length ≤ c) (ho : w9.ownsRow w.heap.size 90 3 (.slice A (cutL B n j).length c) (cutL B n j).length (qCells (cutL B n j)))
    (hown : w8.ownsRow base 109 1 v8 (j + 1) ((bs.mapIdx fun i a => Value.slice a.1 (cutL B n i).length a.2) ++ [.slice A (cutL B n j).length c])) (hg : w9.grownBy w8 vb.ownBlock) : NAt (w8.setCell ⟨p, 5, none⟩ v8) base p km n P B s k (j + 1) Ab cbt b vo v8 os (bs ++ [(A, c)]) := by
  have h9 := h.below hb
  have hp8 := (hg.block p (Array.getElem?_eq_some_iff.1 h9.cells).1 (fun e => type_ne h9.blk e.symm h9.cells (by decide))).trans h9.cells
  have hkp := h.p_ne
  refine ⟨?_, row_keep h9.bits hg h9.blk hp8 (by decide) (by decide), (h9.known.keep (hg.block km h9.known.lt (fun e => map_ne h9.blk e.symm h9.known))).keep (Below.heap_setCell _ _ _ _ hkp), h.kmb, h.pb, h.nc, h.ol, by simp [h.bl], row_keep h9.ord hg h9.blk hp8 (by decide) (by decide), ?_, ?_, ?_⟩
  · have := blk_setR hp8 (o := 5) v8
    rw [this]; rfl
  · rw [List.mapIdx_append]
    have e : (List.mapIdx (fun i (a : Option Addr × Nat) => Value.slice a.1 (cutL B n (i + bs.length)).length a.2) [(A, c)]) = [.slice A (cutL B n j).length c] := by simp [h.bl]
    rw [e]
    exact ownsRow_setCell_other hown (a := ⟨p, 5, none⟩) (fun e => type_ne hown e hp8 (by decide)) v8
  · intro i A' c' hi
    exact ⟨(h9.ordr i A' c' hi).1, row_keep (h9.ordr i A' c' hi).2 hg h9.blk hp8 (by decide) (by decide)⟩
  · intro i A' c' hi
    by_cases hik : i < bs.length
    · rw [List.getElem?_append_left hik] at hi
      exact ⟨(h9.blkr i A' c' hi).1, row_keep (h9.blkr i A' c' hi).2 hg h9.blk hp8 (by decide) (by decide)⟩
    · rw [List.getElem?_append_right (by omega)] at hi
      obtain ⟨hl, hv⟩ := List.getElem?_eq_some_iff.1 hi
      simp only [List.length_singleton] at hl
      have hie : i = j := by have := h.bl; omega
      subst hie
      have h0 : i - bs.length = 0 := by omega
      simp only [h0, List.getElem_singleton, Prod.mk.injEq] at hv
      obtain ⟨rfl, rfl⟩ := hv
      exact ⟨hc, row_keep (ownsRow_mono ho hbw) hg h9.blk hp8 (by decide) (by decide)⟩
/-- A machine all of whose passes are laid. -/
theorem NAt.done {w : World} {base p km n P B s : Nat} {Ab : Option Addr} {cbt : Nat} {b : List Bool} {vo vb : Value} {os bs : List (Option Addr × Nat)} (h : NAt w base p km n P B s P P Ab cbt b vo vb os bs) (hP : 1 ≤ P) (hP6 : P ≤ 6) (hB : 1 ≤ B) (hB5 : B ≤ 512) (hs : s < two64) (hn : n ≤ 512) :
    ∃ L : Lay, L.p = p ∧ L.base = base ∧ L.n = n ∧ L.P = P ∧ L.B = B ∧ L.s = s ∧ MAt w L (.slice none 0 0) (st0 b) ∧ WFm L (st0 b) := by
  obtain ⟨go, co, rfl⟩ := own_head h.ord (by omega)
  obtain ⟨gb, cb, rfl⟩ := own_head h.blk (by omega)
  obtain ⟨_, _, e1, hco⟩ := own_form h.ord
  obtain ⟨_, _, e2, hcb⟩ := own_form h.blk
  cases e1; cases e2
  refine ⟨⟨base, p, km, n, P, B, s, go, co, gb, cb, Ab, cbt, os, bs⟩, rfl, rfl, rfl, rfl, rfl, rfl, ⟨h.cells, World.ownsRow_nil _ _ _ _, h.bits, h.known, h.kmb, h.pb, ⟨⟨hP, hP6⟩, ⟨hB, hB5⟩, hn, hs, ⟨hco, hcb, h.nc⟩, h.ol, h.bl, h.ord, h.blk, h.ordr, h.blkr⟩⟩, ⟨Nat.zero_le _, Nat.zero_le _, Nat.zero_le _, fun e => by cases e⟩⟩
theorem cut_any2 (P : Int) (B s n p : Nat) (w : World) (hB : 1 ≤ B) (hB2 : B ≤ 512) (hn : n ≤ 512) (hp : p ≤ 6) :
    Calls Try.prog 58 #[casV P B s, .int .i64 n, .int .i64 p] w (RetOwn w 90 3 (cutL B n p).length (qCells (cutL B n p)) id) := by
  have h := cut_any P B s n p w hB hB2 hn hp
  rwa [show cutN n (sizeP B p) = (cutL B n p).length by rw [cutL, cutK_len]] at h
/-- k orders and j lists of blocks are laid. -/
def NL (w1 : World) (p n P B s : Nat) (b : List Bool) (k j : Nat) (wx : World) : Prop :=
  ∃ (km cbt : Nat) (Ab : Option Addr) (vo vb : Value) (os bs : List (Option Addr × Nat)), NAt wx w1.heap.size p km n P B s k j Ab cbt b vo vb os bs
theorem MTurn.old {w w' : World} {L : Lay} {vt : Value} {S : Mst} {B : Nat} (hT : MTurn L vt w w') (hm : MAt w L vt S) (hB : B ≤ L.base) : Below B w w' := by
  refine ⟨hT.os, hT.tape, hT.output, hT.size, fun k hk => hT.block k (by have := hm.lt; have := hm.pb; omega) (by have := hm.pb; omega) (by have := hm.kmb; omega) ?_ ?_⟩
  · intro e
    rcases hm.bits.2 with ⟨h1, _⟩ | ⟨g, cap, cur, h1, hg, _⟩
    · injection h1 with h1; rw [e] at h1; cases h1
    · injection h1 with h1; rw [e] at h1; injection h1 with h1; injection h1 with h1; omega
  · intro e
    rcases hm.told.2 with ⟨h1, _⟩ | ⟨g, cap, cur, h1, hg, _⟩
    · rw [h1] at e; cases e
    · rw [h1] at e; simp only [Value.ownBlock, Option.some.injEq] at e; omega
end Go.Proofs.Ytncjmndiafgaaaa
/- New of the cascades. Conditions: as each statement says. -/
namespace Go.Proofs.Ytncjmndiafgaaaa
open Go.RowKit
set_option linter.unusedVariables false
set_option maxRecDepth 100000 in
set_option maxHeartbeats 4000000 in
theorem New_ok (A : Option Addr) (n c P B s : Nat) (b : List Bool) (w : World) (hP : 1 ≤ P) (hP6 : P ≤ 6) (hB : 1 ≤ B) (hB5 : B ≤ 512) (hs : s < two64) (hn : n ≤ 512) (h : Rd w w.heap.size 1 A n (b.map Value.bool)) :
    Calls Try.prog 40 #[casV P B s, .slice A n c] w (NewP n P B s b w) := by
  have hsn : saneE P B n = 0 := saneE_ok.2 ⟨by omega, by omega, by omega, by omega, by omega, by omega⟩
  obtain ⟨w0, hw0⟩ : ∃ w0, w0 = w.alloc (.cells (casC P B s) 67) := ⟨_, rfl⟩
  have Bw0 : Below w.heap.size w w0 := by rw [hw0]; exact (Below.refl _ _).alloc (Nat.le_refl _) _
  have hbk0 : w0.heap[w.heap.size]? = some (.cells (casC P B s) 67 (0, 0)) := by rw [hw0]; exact heap_alloc_new w _
  have hs0 : w0.heap.size = w.heap.size + 1 := by rw [hw0]; simp
  have R0 := Lib.hid ((h.below Bw0).mono (by omega) : Rd w0 w0.heap.size 1 A n (b.map Value.bool))
  have HW0 := Lib.hid hw0; have HSN := Lib.hid hsn
  clear h hw0 hsn
  go_enter Try.func40, Try.ntmps40
  go_wp2_with fail
  rw [← HW0.out]
  clear HW0
  refine (sane_any _ _ s _ _).mono ?_
  rintro e w1 ⟨rfl, hb1⟩
  rw [HSN.out]
  have hs1 := hb1.size
  have hbk1 := (hb1.block w.heap.size (by omega)).trans hbk0
  have R1 := Lib.hid ((R0.out.below hb1).mono hs1)
  have B1 : Below w.heap.size w w1 := Bw0.trans (hb1.mono (by omega))
  have x0 : w1.cell? ⟨w.heap.size, 0, none⟩ = some (.int .i64 P) := by rw [cell_of_row _ _ _ _ _ _ hbk1]; rfl
  have x1 : w1.cell? ⟨w.heap.size, 1, none⟩ = some (.int .i64 B) := by rw [cell_of_row _ _ _ _ _ _ hbk1]; rfl
  have x2 : w1.cell? ⟨w.heap.size, 2, none⟩ = some (.int .u64 s) := by rw [cell_of_row _ _ _ _ _ _ hbk1]; rfl
  have HBK1 := Lib.hid hbk1
  have hmm := @run_makeMap Try.prog
  have hlt1 : w.heap.size < w1.heap.size := by omega
  clear hbk0 hbk1 hb1 R0 HSN Bw0 hs0 hs1
  go_wp2_with fail
  go_cut [7] (fun s7 wx => NewA w1 w1.heap.size n P B s b s7 wx)
  case first =>
    refine wp_region_held_drew (S := fun w' => Below w1.heap.size w1 w') (by kernel_rfl) ?_ (fun hHeld => ?_)
    · (try dsimp only); first | exact Below.refl _ _ | exact (Qw.refl w1).drew.below _ | exact hHeld.alloc hHeld.size _ | exact hHeld.trans (hbc.mono hHeld.size)
    refine wpAnyH_take (i := 0) (oi := ⟨some 16, _, _, _, _, _⟩) (v := .agg #[.int .i64 P, .int .i64 B, .int .u64 s]) rfl (by kernel_rfl) (by kernel_rfl) (by kernel_rfl) (fun _ _ _ h => h) (Or.inl ⟨by rfl, ?_⟩) (by assumption) ?_
    · (intro w hSw; (try dsimp only at hSw); have h0 := bcells_n hSw x0; have h1 := bcells_n hSw x1; have h2 := bcells_n hSw x2; go_simp)
    try simp only [Act.put, List.setIfInBounds_toArray, List.set_cons_zero, List.set_cons_succ]
    refine wpAnyH_take (i := 1) (oi := ⟨some 17, _, _, _, _, _⟩) (v := ?_) rfl (by kernel_rfl) (by kernel_rfl) (by kernel_rfl) (fun _ _ _ h => h) (Or.inl ⟨by rfl, ?_⟩) (by assumption) ?_
    rotate_left
    · (intro w hSw; (try dsimp only at hSw); go_simp; try with_reducible rfl)
    try simp only [Act.put, List.setIfInBounds_toArray, List.set_cons_zero, List.set_cons_succ]
    refine wpAnyH_ready (rs := [2, 3]) (by kernel_rfl) (by simp) ?_
    refine AllReadyH.cons (o := ⟨some 18, _, _, _, _, _⟩) rfl (fun K hK => ?_) ?_
    · skip
      go_simp
      refine (Clone_bool _ _ _ b _ (by omega) ((R1.out.below hHeld).mono hHeld.size)).mono ?_
      rintro e wc ⟨Ab, cbt, rfl, hcb, hob, hbc⟩
      go_wp2_with fail
      refine hK.out _ _ ?_ (fun hHeld => ?_)
      · (try dsimp only); first | exact Below.refl _ _ | exact (Qw.refl w1).drew.below _ | exact hHeld.alloc hHeld.size _ | exact hHeld.trans (hbc.mono hHeld.size)
      clear hK K
      try simp only [Act.put, List.setIfInBounds_toArray, List.set_cons_zero, List.set_cons_succ]
      refine wpAnyH_ready (rs := [3]) (by kernel_rfl) (by simp) ?_
      refine AllReadyH.cons (o := ⟨some 19, _, _, _, _, _⟩) rfl (fun K hK => ?_) AllReadyH.nil
      go_simp
      refine hK.out _ _ ?_ (fun hHeld => ?_)
      · (try dsimp only); first | exact Below.refl _ _ | exact (Qw.refl w1).drew.below _ | exact hHeld.alloc hHeld.size _ | exact hHeld.trans (hbc.mono hHeld.size)
      clear hK K
      try simp only [Act.put, List.setIfInBounds_toArray, List.set_cons_zero, List.set_cons_succ]
      refine wpAnyH_take (i := 4) (oi := ⟨some 20, _, _, _, _, _⟩) (v := ?_) rfl (by kernel_rfl) (by kernel_rfl) (by kernel_rfl) (fun _ _ _ h => h) (Or.inl ⟨by rfl, ?_⟩) (by assumption) ?_
      rotate_left
      · (intro w hSw; (try dsimp only at hSw); go_simp; try with_reducible rfl)
      try simp only [Act.put, List.setIfInBounds_toArray, List.set_cons_zero, List.set_cons_succ]
      refine wpAnyH_ready (rs := [5]) (by kernel_rfl) (by simp) ?_
      refine AllReadyH.cons (o := ⟨some 21, _, _, _, _, _⟩) rfl (fun K hK => ?_) AllReadyH.nil
      go_simp
      refine hK.out _ _ ?_ (fun hHeld => ?_)
      · (try dsimp only); first | exact Below.refl _ _ | exact (Qw.refl w1).drew.below _ | exact hHeld.alloc hHeld.size _ | exact hHeld.trans (hbc.mono hHeld.size)
      clear hK K
      try simp only [Act.put, List.setIfInBounds_toArray, List.set_cons_zero, List.set_cons_succ]
      refine wpAnyH_take (i := 6) (oi := ⟨some 7, _, _, _, _, _⟩) (v := ?_) rfl (by kernel_rfl) (by kernel_rfl) (by kernel_rfl) (fun _ _ _ h => h) (Or.inl ⟨by rfl, ?_⟩) (by assumption) ?_
      rotate_left
      · (intro w hSw; (try dsimp only at hSw); go_simp; try with_reducible rfl)
      try simp only [Act.put, List.setIfInBounds_toArray, List.set_cons_zero, List.set_cons_succ]
      refine wpAnyH_done (by kernel_rfl) ?_ _
      go_wp2_with fail
      go_meet
      exact NewA_one ((Qw.refl _).drew.below _) (by omega) hcb hob hbc
    refine AllReadyH.cons (o := ⟨some 19, _, _, _, _, _⟩) rfl (fun K hK => ?_) AllReadyH.nil
    go_simp
    refine hK.out _ _ ?_ (fun hHeld => ?_)
    · (try dsimp only); first | exact Below.refl _ _ | exact (Qw.refl w1).drew.below _ | exact hHeld.alloc hHeld.size _ | exact hHeld.trans (hbc.mono hHeld.size)
    clear hK K
    try simp only [Act.put, List.setIfInBounds_toArray, List.set_cons_zero, List.set_cons_succ]
    refine wpAnyH_ready (rs := [2]) (by kernel_rfl) (by simp) ?_
    refine AllReadyH.cons (o := ⟨some 18, _, _, _, _, _⟩) rfl (fun K hK => ?_) AllReadyH.nil
    go_simp
    refine (Clone_bool _ _ _ b _ (by omega) ((R1.out.below hHeld).mono hHeld.size)).mono ?_
    rintro e wc ⟨Ab, cbt, rfl, hcb, hob, hbc⟩
    go_wp2_with fail
    refine hK.out _ _ ?_ (fun hHeld => ?_)
    · (try dsimp only); first | exact Below.refl _ _ | exact (Qw.refl w1).drew.below _ | exact hHeld.alloc hHeld.size _ | exact hHeld.trans (hbc.mono hHeld.size)
    clear hK K
    try simp only [Act.put, List.setIfInBounds_toArray, List.set_cons_zero, List.set_cons_succ]
    refine wpAnyH_take (i := 4) (oi := ⟨some 20, _, _, _, _, _⟩) (v := ?_) rfl (by kernel_rfl) (by kernel_rfl) (by kernel_rfl) (fun _ _ _ h => h) (Or.inl ⟨by rfl, ?_⟩) (by assumption) ?_
    rotate_left
    · (intro w hSw; (try dsimp only at hSw); go_simp; try with_reducible rfl)
    try simp only [Act.put, List.setIfInBounds_toArray, List.set_cons_zero, List.set_cons_succ]
    refine wpAnyH_ready (rs := [5]) (by kernel_rfl) (by simp) ?_
    refine AllReadyH.cons (o := ⟨some 21, _, _, _, _, _⟩) rfl (fun K hK => ?_) AllReadyH.nil
    go_simp
    refine hK.out _ _ ?_ (fun hHeld => ?_)
    · (try dsimp only); first | exact Below.refl _ _ | exact (Qw.refl w1).drew.below _ | exact hHeld.alloc hHeld.size _ | exact hHeld.trans (hbc.mono hHeld.size)
    clear hK K
    try simp only [Act.put, List.setIfInBounds_toArray, List.set_cons_zero, List.set_cons_succ]
    refine wpAnyH_take (i := 6) (oi := ⟨some 7, _, _, _, _, _⟩) (v := ?_) rfl (by kernel_rfl) (by kernel_rfl) (by kernel_rfl) (fun _ _ _ h => h) (Or.inl ⟨by rfl, ?_⟩) (by assumption) ?_
    rotate_left
    · (intro w hSw; (try dsimp only at hSw); go_simp; try with_reducible rfl)
    try simp only [Act.put, List.setIfInBounds_toArray, List.set_cons_zero, List.set_cons_succ]
    refine wpAnyH_done (by kernel_rfl) ?_ _
    go_wp2_with fail
    go_meet
    exact NewA_two ((Qw.refl _).drew.below _) (by omega) hcb hob hbc
  case rest => as_aux_lemma =>
    obtain ⟨w2, hw2⟩ : ∃ x, x = wc := ⟨_, rfl⟩
    subst hw2
    obtain ⟨p, km, cbt, Ab, rfl, hna, hb2⟩ := hcut
    have y0 := bcells_n hb2 x0
    clear HBK1 R1 hmm
    go_wp2_with fail
    go_loopw [24] (fun v wr => ∃ k : Nat, k ≤ P ∧ v = .int .i64 k ∧ NL w1 p n P B s b k k wr ∧ Below w1.heap.size w1 wr) (fun v _ => P - (intOf v).toNat)
    case atStart => exact ⟨0, Nat.zero_le _, rfl, ⟨km, cbt, Ab, _, _, _, _, hna⟩, hb2⟩
    case round =>
      obtain ⟨wa, rfl⟩ : ∃ wa : World, wa = wr := ⟨_, rfl⟩
      clear hna y0
      obtain ⟨k, hk, rfl, ⟨km, cbt, Ab, vo, vb, os, bs, hna⟩, hbw⟩ := hrel
      have hsz := hbw.size
      by_cases hkP : k < P
      · have i1 : (k : Int) < (P : Int) := by omega
        obtain ⟨Ao, co, rfl, hco⟩ := own_form hna.ord
        have c4 : wa.cell? ⟨p, 4, none⟩ = some (.slice Ao k co) := by rw [cell_of_row _ _ _ _ _ _ hna.cells]; rfl
        have hpl : p < wa.heap.size := (Array.getElem?_eq_some_iff.1 hna.cells).1
        have HNA := Lib.hid hna; clear hna
        go_wp2_with fail
        go_cut [] (fun wx => NL w1 p n P B s b (k + 1) k wx ∧ Below w1.heap.size w1 wx)
        case first =>
          refine wp_region_held_drew (S := fun w' => Below w1.heap.size w1 w') (by kernel_rfl) ?_ (fun hHeld => ?_)
          · (try dsimp only); first | exact hbw | exact hbw.drew | exact hHeld | exact hbw.trans (HB9.out.mono hsz) | exact hHeld.alloc hHeld.size _ | exact (hbw.trans (HB9.out.mono hsz)).trans HB8.out | exact hHeld.setCell HNA.out.pb _
          refine wpAnyH_take (i := 0) (oi := ⟨some 27, _, _, _, _, _⟩) (v := ?_) rfl (by kernel_rfl) (by kernel_rfl) (by kernel_rfl) (fun _ _ _ h => h) (Or.inl ⟨by rfl, ?_⟩) (by assumption) ?_
          rotate_left
          · (intro w hSw; (try dsimp only at hSw); go_simp; try with_reducible rfl)
          try simp only [Act.put, List.setIfInBounds_toArray, List.set_cons_zero, List.set_cons_succ]
          refine wpAnyH_take (i := 1) (oi := ⟨some 28, _, _, _, _, _⟩) (v := ?_) rfl (by kernel_rfl) (by kernel_rfl) (by kernel_rfl) (fun _ _ _ h => h) (Or.inl ⟨by rfl, ?_⟩) (by assumption) ?_
          rotate_left
          · (intro w hSw; (try dsimp only at hSw); go_simp; try with_reducible rfl)
          try simp only [Act.put, List.setIfInBounds_toArray, List.set_cons_zero, List.set_cons_succ]
          refine wpAnyH_take (i := 2) (oi := ⟨some 29, _, _, _, _, _⟩) (v := ?_) rfl (by kernel_rfl) (by kernel_rfl) (by kernel_rfl) (fun _ _ _ h => h) (Or.inl ⟨by rfl, ?_⟩) (by assumption) ?_
          rotate_left
          · (intro w hSw; (try dsimp only at hSw); go_simp; try with_reducible rfl)
          try simp only [Act.put, List.setIfInBounds_toArray, List.set_cons_zero, List.set_cons_succ]
          refine wpAnyH_take (i := 3) (oi := ⟨some 30, _, _, _, _, _⟩) (v := ?_) rfl (by kernel_rfl) (by kernel_rfl) (by kernel_rfl) (fun _ _ _ h => h) (Or.inl ⟨by rfl, ?_⟩) (by assumption) ?_
          rotate_left
          · (intro w hSw; (try dsimp only at hSw); go_simp; try with_reducible rfl)
          try simp only [Act.put, List.setIfInBounds_toArray, List.set_cons_zero, List.set_cons_succ]
          refine wpAnyH_take (i := 5) (oi := ⟨some 32, _, _, _, _, _⟩) (v := .agg #[.int .i64 P, .int .i64 B, .int .u64 s]) rfl (by kernel_rfl) (by kernel_rfl) (by kernel_rfl) (fun _ _ _ h => h) (Or.inl ⟨by rfl, ?_⟩) (by assumption) ?_
          · (intro w hSw; (try dsimp only at hSw); have h0 := bcells_n hSw x0; have h1 := bcells_n hSw x1; have h2 := bcells_n hSw x2; go_simp)
          try simp only [Act.put, List.setIfInBounds_toArray, List.set_cons_zero, List.set_cons_succ]
          refine wpAnyH_take (i := 6) (oi := ⟨some 33, _, _, _, _, _⟩) (v := ?_) rfl (by kernel_rfl) (by kernel_rfl) (by kernel_rfl) (fun _ _ _ h => h) (Or.inl ⟨by rfl, ?_⟩) (by assumption) ?_
          rotate_left
          · (intro w hSw; (try dsimp only at hSw); go_simp; try with_reducible rfl)
          try simp only [Act.put, List.setIfInBounds_toArray, List.set_cons_zero, List.set_cons_succ]
          refine wpAnyH_take (i := 7) (oi := ⟨some 34, _, _, _, _, _⟩) (v := ?_) rfl (by kernel_rfl) (by kernel_rfl) (by kernel_rfl) (fun _ _ _ h => h) (Or.inl ⟨by rfl, ?_⟩) (by assumption) ?_
          rotate_left
          · (intro w hSw; (try dsimp only at hSw); go_simp; try with_reducible rfl)
          try simp only [Act.put, List.setIfInBounds_toArray, List.set_cons_zero, List.set_cons_succ]
          refine wpAnyH_take (i := 8) (oi := ⟨some 35, _, _, _, _, _⟩) (v := ?_) rfl (by kernel_rfl) (by kernel_rfl) (by kernel_rfl) (fun _ _ _ h => h) (Or.inl ⟨by rfl, ?_⟩) (by assumption) ?_
          rotate_left
          · (intro w hSw; (try dsimp only at hSw); go_simp; try with_reducible rfl)
          try simp only [Act.put, List.setIfInBounds_toArray, List.set_cons_zero, List.set_cons_succ]
          refine wpAnyH_ready (rs := [4, 9]) (by kernel_rfl) (by simp) ?_
          refine AllReadyH.cons (o := ⟨some 31, _, _, _, _, _⟩) rfl (fun K hK => ?_) ?_
          · skip
            go_simp
            refine hK.out _ _ ?_ (fun hHeld => ?_)
            · (try dsimp only); first | exact hbw | exact hbw.drew | exact hHeld | exact hbw.trans (HB9.out.mono hsz) | exact hHeld.alloc hHeld.size _ | exact (hbw.trans (HB9.out.mono hsz)).trans HB8.out | exact hHeld.setCell HNA.out.pb _
            clear hK K
            try simp only [Act.put, List.setIfInBounds_toArray, List.set_cons_zero, List.set_cons_succ]
            refine wpAnyH_ready (rs := [9]) (by kernel_rfl) (by simp) ?_
            refine AllReadyH.cons (o := ⟨some 36, _, _, _, _, _⟩) rfl (fun K hK => ?_) AllReadyH.nil
            go_simp
            refine (order_any _ _ s n k _ hs hn (by omega)).mono ?_
            rintro e w9 ⟨A9, c9, he9, hc9, ho9, hb9⟩
            obtain rfl : e = .returned (.slice A9 n c9) := he9
            have hb9' : Below wa.heap.size wa w9 := ((Qw.refl wa).drew.below _).trans hb9
            have d4 : w9.cell? ⟨p, 4, none⟩ = some (.slice Ao k co) := by rw [cell_of_row _ _ _ _ _ _ ((hb9'.block p hpl).trans HNA.out.cells)]; rfl
            have hpl9 : p < w9.heap.size := by have := hb9'.size; omega
            have HO9 := Lib.hid ho9; have HB9 := Lib.hid hb9'
            clear ho9 hb9 hb9'
            go_wp2_with fail
            refine hK.out _ _ ?_ (fun hHeld => ?_)
            · (try dsimp only); first | exact hbw | exact hbw.drew | exact hHeld | exact hbw.trans (HB9.out.mono hsz) | exact hHeld.alloc hHeld.size _ | exact (hbw.trans (HB9.out.mono hsz)).trans HB8.out | exact hHeld.setCell HNA.out.pb _
            clear hK K
            try simp only [Act.put, List.setIfInBounds_toArray, List.set_cons_zero, List.set_cons_succ]
            refine wpAnyH_ready (rs := [10]) (by kernel_rfl) (by simp) ?_
            refine AllReadyH.cons (o := ⟨some 37, _, _, _, _, _⟩) rfl (fun K hK => ?_) AllReadyH.nil
            go_simp
            refine hK.out _ _ ?_ (fun hHeld => ?_)
            · (try dsimp only); first | exact hbw | exact hbw.drew | exact hHeld | exact hbw.trans (HB9.out.mono hsz) | exact hHeld.alloc hHeld.size _ | exact (hbw.trans (HB9.out.mono hsz)).trans HB8.out | exact hHeld.setCell HNA.out.pb _
            clear hK K
            try simp only [Act.put, List.setIfInBounds_toArray, List.set_cons_zero, List.set_cons_succ]
            refine wpAnyH_ready (rs := [11]) (by kernel_rfl) (by simp) ?_
            refine AllReadyH.cons (o := ⟨some 38, _, _, _, _, _⟩) rfl (fun K hK => ?_) AllReadyH.nil
            refine step_pushL elB_ints (.tmp 31) (.tmp 37) (by rfl) (by rfl) w1.heap.size k _ (by rfl) (ownsRow_below HNA.out.ord HB9.out (Nat.le_refl _)) (by rfl) (by rfl) (by intro u hu; simp at hu; subst hu; rfl) (by omega) (by decide) (by have := HB9.out.size; omega) ?_
            intro v8 w8 hown8 hb8 hg8 hL8
            obtain ⟨A8, c8, rfl, hc8⟩ := own_form hown8
            have hp8 := (hg8.block p hpl9 (fun e => type_ne (ownsRow_below HNA.out.ord HB9.out (Nat.le_refl _)) e.symm ((HB9.out.block p hpl).trans HNA.out.cells) (by decide))).trans ((HB9.out.block p hpl).trans HNA.out.cells)
            have e4 : w8.cell? ⟨p, 4, none⟩ = some (.slice Ao k co) := by rw [cell_of_row _ _ _ _ _ _ hp8]; rfl
            have f4 : w8.frozen? ⟨p, 4, none⟩ = false := by simp [World.frozen?, hp8]
            have HW8 := Lib.hid hown8; have HG8 := Lib.hid hg8; have HB8 := Lib.hid hb8
            clear hp8 hown8 hg8 hb8 hL8
            refine hK.out _ _ ?_ (fun hHeld => ?_)
            · (try dsimp only); first | exact hbw | exact hbw.drew | exact hHeld | exact hbw.trans (HB9.out.mono hsz) | exact hHeld.alloc hHeld.size _ | exact (hbw.trans (HB9.out.mono hsz)).trans HB8.out | exact hHeld.setCell HNA.out.pb _
            clear hK K
            try simp only [Act.put, List.setIfInBounds_toArray, List.set_cons_zero, List.set_cons_succ]
            refine wpAnyH_take (i := 12) (oi := ⟨some 39, _, _, _, _, _⟩) (v := ?_) rfl (by kernel_rfl) (by kernel_rfl) (by kernel_rfl) (fun _ _ _ h => h) (Or.inl ⟨by rfl, ?_⟩) (by assumption) ?_
            rotate_left
            · (intro w hSw; (try dsimp only at hSw); go_simp; try with_reducible rfl)
            try simp only [Act.put, List.setIfInBounds_toArray, List.set_cons_zero, List.set_cons_succ]
            refine wpAnyH_take (i := 13) (oi := ⟨some 40, _, _, _, _, _⟩) (v := ?_) rfl (by kernel_rfl) (by kernel_rfl) (by kernel_rfl) (fun _ _ _ h => h) (Or.inl ⟨by rfl, ?_⟩) (by assumption) ?_
            rotate_left
            · (intro w hSw; (try dsimp only at hSw); go_simp; try with_reducible rfl)
            try simp only [Act.put, List.setIfInBounds_toArray, List.set_cons_zero, List.set_cons_succ]
            refine wpAnyH_ready (rs := [14]) (by kernel_rfl) (by simp) ?_
            refine AllReadyH.cons (o := ⟨none, _, _, _, _, _⟩) rfl (fun K hK => ?_) AllReadyH.nil
            go_simp
            refine hK.out _ _ ?_ (fun hHeld => ?_)
            · (try dsimp only); first | exact hbw | exact hbw.drew | exact hHeld | exact hbw.trans (HB9.out.mono hsz) | exact hHeld.alloc hHeld.size _ | exact (hbw.trans (HB9.out.mono hsz)).trans HB8.out | exact hHeld.setCell HNA.out.pb _
            clear hK K
            try simp only [Act.put, List.setIfInBounds_toArray, List.set_cons_zero, List.set_cons_succ]
            refine wpAnyH_done (by kernel_rfl) ?_ _
            go_wp2_with fail
            go_meet
            exact ⟨⟨km, cbt, Ab, _, _, _, _, HNA.out.pushO hsz HB9.out hc9 HO9.out HW8.out HG8.out⟩, hHeld⟩
          refine AllReadyH.cons (o := ⟨some 36, _, _, _, _, _⟩) rfl (fun K hK => ?_) AllReadyH.nil
          go_simp
          refine (order_any _ _ s n k _ hs hn (by omega)).mono ?_
          rintro e w9 ⟨A9, c9, he9, hc9, ho9, hb9⟩
          obtain rfl : e = .returned (.slice A9 n c9) := he9
          have hb9' : Below wa.heap.size wa w9 := ((Qw.refl wa).drew.below _).trans hb9
          have d4 : w9.cell? ⟨p, 4, none⟩ = some (.slice Ao k co) := by rw [cell_of_row _ _ _ _ _ _ ((hb9'.block p hpl).trans HNA.out.cells)]; rfl
          have hpl9 : p < w9.heap.size := by have := hb9'.size; omega
          have HO9 := Lib.hid ho9; have HB9 := Lib.hid hb9'
          clear ho9 hb9 hb9'
          go_wp2_with fail
          refine hK.out _ _ ?_ (fun hHeld => ?_)
          · (try dsimp only); first | exact hbw | exact hbw.drew | exact hHeld | exact hbw.trans (HB9.out.mono hsz) | exact hHeld.alloc hHeld.size _ | exact (hbw.trans (HB9.out.mono hsz)).trans HB8.out | exact hHeld.setCell HNA.out.pb _
          clear hK K
          try simp only [Act.put, List.setIfInBounds_toArray, List.set_cons_zero, List.set_cons_succ]
          refine wpAnyH_ready (rs := [4, 10]) (by kernel_rfl) (by simp) ?_
          refine AllReadyH.cons (o := ⟨some 31, _, _, _, _, _⟩) rfl (fun K hK => ?_) ?_
          · skip
            go_simp
            refine hK.out _ _ ?_ (fun hHeld => ?_)
            · (try dsimp only); first | exact hbw | exact hbw.drew | exact hHeld | exact hbw.trans (HB9.out.mono hsz) | exact hHeld.alloc hHeld.size _ | exact (hbw.trans (HB9.out.mono hsz)).trans HB8.out | exact hHeld.setCell HNA.out.pb _
            clear hK K
            try simp only [Act.put, List.setIfInBounds_toArray, List.set_cons_zero, List.set_cons_succ]
            refine wpAnyH_ready (rs := [10]) (by kernel_rfl) (by simp) ?_
            refine AllReadyH.cons (o := ⟨some 37, _, _, _, _, _⟩) rfl (fun K hK => ?_) AllReadyH.nil
            go_simp
            refine hK.out _ _ ?_ (fun hHeld => ?_)
            · (try dsimp only); first | exact hbw | exact hbw.drew | exact hHeld | exact hbw.trans (HB9.out.mono hsz) | exact hHeld.alloc hHeld.size _ | exact (hbw.trans (HB9.out.mono hsz)).trans HB8.out | exact hHeld.setCell HNA.out.pb _
            clear hK K
            try simp only [Act.put, List.setIfInBounds_toArray, List.set_cons_zero, List.set_cons_succ]
            refine wpAnyH_ready (rs := [11]) (by kernel_rfl) (by simp) ?_
            refine AllReadyH.cons (o := ⟨some 38, _, _, _, _, _⟩) rfl (fun K hK => ?_) AllReadyH.nil
            refine step_pushL elB_ints (.tmp 31) (.tmp 37) (by rfl) (by rfl) w1.heap.size k _ (by rfl) (ownsRow_below HNA.out.ord HB9.out (Nat.le_refl _)) (by rfl) (by rfl) (by intro u hu; simp at hu; subst hu; rfl) (by omega) (by decide) (by have := HB9.out.size; omega) ?_
            intro v8 w8 hown8 hb8 hg8 hL8
            obtain ⟨A8, c8, rfl, hc8⟩ := own_form hown8
            have hp8 := (hg8.block p hpl9 (fun e => type_ne (ownsRow_below HNA.out.ord HB9.out (Nat.le_refl _)) e.symm ((HB9.out.block p hpl).trans HNA.out.cells) (by decide))).trans ((HB9.out.block p hpl).trans HNA.out.cells)
            have e4 : w8.cell? ⟨p, 4, none⟩ = some (.slice Ao k co) := by rw [cell_of_row _ _ _ _ _ _ hp8]; rfl
            have f4 : w8.frozen? ⟨p, 4, none⟩ = false := by simp [World.frozen?, hp8]
            have HW8 := Lib.hid hown8; have HG8 := Lib.hid hg8; have HB8 := Lib.hid hb8
            clear hp8 hown8 hg8 hb8 hL8
            refine hK.out _ _ ?_ (fun hHeld => ?_)
            · (try dsimp only); first | exact hbw | exact hbw.drew | exact hHeld | exact hbw.trans (HB9.out.mono hsz) | exact hHeld.alloc hHeld.size _ | exact (hbw.trans (HB9.out.mono hsz)).trans HB8.out | exact hHeld.setCell HNA.out.pb _
            clear hK K
            try simp only [Act.put, List.setIfInBounds_toArray, List.set_cons_zero, List.set_cons_succ]
            refine wpAnyH_take (i := 12) (oi := ⟨some 39, _, _, _, _, _⟩) (v := ?_) rfl (by kernel_rfl) (by kernel_rfl) (by kernel_rfl) (fun _ _ _ h => h) (Or.inl ⟨by rfl, ?_⟩) (by assumption) ?_
            rotate_left
            · (intro w hSw; (try dsimp only at hSw); go_simp; try with_reducible rfl)
            try simp only [Act.put, List.setIfInBounds_toArray, List.set_cons_zero, List.set_cons_succ]
            refine wpAnyH_take (i := 13) (oi := ⟨some 40, _, _, _, _, _⟩) (v := ?_) rfl (by kernel_rfl) (by kernel_rfl) (by kernel_rfl) (fun _ _ _ h => h) (Or.inl ⟨by rfl, ?_⟩) (by assumption) ?_
            rotate_left
            · (intro w hSw; (try dsimp only at hSw); go_simp; try with_reducible rfl)
            try simp only [Act.put, List.setIfInBounds_toArray, List.set_cons_zero, List.set_cons_succ]
            refine wpAnyH_ready (rs := [14]) (by kernel_rfl) (by simp) ?_
            refine AllReadyH.cons (o := ⟨none, _, _, _, _, _⟩) rfl (fun K hK => ?_) AllReadyH.nil
            go_simp
            refine hK.out _ _ ?_ (fun hHeld => ?_)
            · (try dsimp only); first | exact hbw | exact hbw.drew | exact hHeld | exact hbw.trans (HB9.out.mono hsz) | exact hHeld.alloc hHeld.size _ | exact (hbw.trans (HB9.out.mono hsz)).trans HB8.out | exact hHeld.setCell HNA.out.pb _
            clear hK K
            try simp only [Act.put, List.setIfInBounds_toArray, List.set_cons_zero, List.set_cons_succ]
            refine wpAnyH_done (by kernel_rfl) ?_ _
            go_wp2_with fail
            go_meet
            exact ⟨⟨km, cbt, Ab, _, _, _, _, HNA.out.pushO hsz HB9.out hc9 HO9.out HW8.out HG8.out⟩, hHeld⟩
          refine AllReadyH.cons (o := ⟨some 37, _, _, _, _, _⟩) rfl (fun K hK => ?_) AllReadyH.nil
          go_simp
          refine hK.out _ _ ?_ (fun hHeld => ?_)
          · (try dsimp only); first | exact hbw | exact hbw.drew | exact hHeld | exact hbw.trans (HB9.out.mono hsz) | exact hHeld.alloc hHeld.size _ | exact (hbw.trans (HB9.out.mono hsz)).trans HB8.out | exact hHeld.setCell HNA.out.pb _
          clear hK K
          try simp only [Act.put, List.setIfInBounds_toArray, List.set_cons_zero, List.set_cons_succ]
          refine wpAnyH_ready (rs := [4]) (by kernel_rfl) (by simp) ?_
          refine AllReadyH.cons (o := ⟨some 31, _, _, _, _, _⟩) rfl (fun K hK => ?_) AllReadyH.nil
          go_simp
          refine hK.out _ _ ?_ (fun hHeld => ?_)
          · (try dsimp only); first | exact hbw | exact hbw.drew | exact hHeld | exact hbw.trans (HB9.out.mono hsz) | exact hHeld.alloc hHeld.size _ | exact (hbw.trans (HB9.out.mono hsz)).trans HB8.out | exact hHeld.setCell HNA.out.pb _
          clear hK K
          try simp only [Act.put, List.setIfInBounds_toArray, List.set_cons_zero, List.set_cons_succ]
          refine wpAnyH_ready (rs := [11]) (by kernel_rfl) (by simp) ?_
          refine AllReadyH.cons (o := ⟨some 38, _, _, _, _, _⟩) rfl (fun K hK => ?_) AllReadyH.nil
          refine step_pushL elB_ints (.tmp 31) (.tmp 37) (by rfl) (by rfl) w1.heap.size k _ (by rfl) (ownsRow_below HNA.out.ord HB9.out (Nat.le_refl _)) (by rfl) (by rfl) (by intro u hu; simp at hu; subst hu; rfl) (by omega) (by decide) (by have := HB9.out.size; omega) ?_
          intro v8 w8 hown8 hb8 hg8 hL8
          obtain ⟨A8, c8, rfl, hc8⟩ := own_form hown8
          have hp8 := (hg8.block p hpl9 (fun e => type_ne (ownsRow_below HNA.out.ord HB9.out (Nat.le_refl _)) e.symm ((HB9.out.block p hpl).trans HNA.out.cells) (by decide))).trans ((HB9.out.block p hpl).trans HNA.out.cells)
          have e4 : w8.cell? ⟨p, 4, none⟩ = some (.slice Ao k co) := by rw [cell_of_row _ _ _ _ _ _ hp8]; rfl
          have f4 : w8.frozen? ⟨p, 4, none⟩ = false := by simp [World.frozen?, hp8]
          have HW8 := Lib.hid hown8; have HG8 := Lib.hid hg8; have HB8 := Lib.hid hb8
          clear hp8 hown8 hg8 hb8 hL8
          refine hK.out _ _ ?_ (fun hHeld => ?_)
          · (try dsimp only); first | exact hbw | exact hbw.drew | exact hHeld | exact hbw.trans (HB9.out.mono hsz) | exact hHeld.alloc hHeld.size _ | exact (hbw.trans (HB9.out.mono hsz)).trans HB8.out | exact hHeld.setCell HNA.out.pb _
          clear hK K
          try simp only [Act.put, List.setIfInBounds_toArray, List.set_cons_zero, List.set_cons_succ]
          refine wpAnyH_take (i := 12) (oi := ⟨some 39, _, _, _, _, _⟩) (v := ?_) rfl (by kernel_rfl) (by kernel_rfl) (by kernel_rfl) (fun _ _ _ h => h) (Or.inl ⟨by rfl, ?_⟩) (by assumption) ?_
          rotate_left
          · (intro w hSw; (try dsimp only at hSw); go_simp; try with_reducible rfl)
          try simp only [Act.put, List.setIfInBounds_toArray, List.set_cons_zero, List.set_cons_succ]
          refine wpAnyH_take (i := 13) (oi := ⟨some 40, _, _, _, _, _⟩) (v := ?_) rfl (by kernel_rfl) (by kernel_rfl) (by kernel_rfl) (fun _ _ _ h => h) (Or.inl ⟨by rfl, ?_⟩) (by assumption) ?_
          rotate_left
          · (intro w hSw; (try dsimp only at hSw); go_simp; try with_reducible rfl)
          try simp only [Act.put, List.setIfInBounds_toArray, List.set_cons_zero, List.set_cons_succ]
          refine wpAnyH_ready (rs := [14]) (by kernel_rfl) (by simp) ?_
          refine AllReadyH.cons (o := ⟨none, _, _, _, _, _⟩) rfl (fun K hK => ?_) AllReadyH.nil
          go_simp
          refine hK.out _ _ ?_ (fun hHeld => ?_)
          · (try dsimp only); first | exact hbw | exact hbw.drew | exact hHeld | exact hbw.trans (HB9.out.mono hsz) | exact hHeld.alloc hHeld.size _ | exact (hbw.trans (HB9.out.mono hsz)).trans HB8.out | exact hHeld.setCell HNA.out.pb _
          clear hK K
          try simp only [Act.put, List.setIfInBounds_toArray, List.set_cons_zero, List.set_cons_succ]
          refine wpAnyH_done (by kernel_rfl) ?_ _
          go_wp2_with fail
          go_meet
          exact ⟨⟨km, cbt, Ab, _, _, _, _, HNA.out.pushO hsz HB9.out hc9 HO9.out HW8.out HG8.out⟩, hHeld⟩
        case rest => as_aux_lemma =>
          obtain ⟨w3, hw3⟩ : ∃ x, x = wc := ⟨_, rfl⟩
          subst hw3
          clear c4 hpl HNA hbw hsz
          obtain ⟨wa, rfl⟩ : ∃ x : World, x = w3 := ⟨_, rfl⟩
          obtain ⟨⟨km, cbt, Ab, vo, vb, os, bs, hna⟩, hbw⟩ := hcut
          have hsz := hbw.size
          obtain ⟨Ao, co, rfl, hco⟩ := own_form hna.blk
          have c4 : wa.cell? ⟨p, 5, none⟩ = some (.slice Ao k co) := by rw [cell_of_row _ _ _ _ _ _ hna.cells]; rfl
          have hpl : p < wa.heap.size := (Array.getElem?_eq_some_iff.1 hna.cells).1
          have HNA := Lib.hid hna; clear hna
          go_wp2_with fail
          have hk6 : (k : Int) ≤ 6 := by omega
          refine wp_region_held_drew (S := fun w' => Below w1.heap.size w1 w') (by kernel_rfl) ?_ (fun hHeld => ?_)
          · (try dsimp only); first | exact hbw | exact hbw.drew | exact hHeld | exact hbw.trans (HB9.out.mono hsz) | exact hHeld.alloc hHeld.size _ | exact (hbw.trans (HB9.out.mono hsz)).trans HB8.out | exact hHeld.setCell HNA.out.pb _
          refine wpAnyH_take (i := 0) (oi := ⟨some 41, _, _, _, _, _⟩) (v := ?_) rfl (by kernel_rfl) (by kernel_rfl) (by kernel_rfl) (fun _ _ _ h => h) (Or.inl ⟨by rfl, ?_⟩) (by assumption) ?_
          rotate_left
          · (intro w hSw; (try dsimp only at hSw); go_simp; try with_reducible rfl)
          try simp only [Act.put, List.setIfInBounds_toArray, List.set_cons_zero, List.set_cons_succ]
          refine wpAnyH_take (i := 1) (oi := ⟨some 42, _, _, _, _, _⟩) (v := ?_) rfl (by kernel_rfl) (by kernel_rfl) (by kernel_rfl) (fun _ _ _ h => h) (Or.inl ⟨by rfl, ?_⟩) (by assumption) ?_
          rotate_left
          · (intro w hSw; (try dsimp only at hSw); go_simp; try with_reducible rfl)
          try simp only [Act.put, List.setIfInBounds_toArray, List.set_cons_zero, List.set_cons_succ]
          refine wpAnyH_take (i := 2) (oi := ⟨some 43, _, _, _, _, _⟩) (v := ?_) rfl (by kernel_rfl) (by kernel_rfl) (by kernel_rfl) (fun _ _ _ h => h) (Or.inl ⟨by rfl, ?_⟩) (by assumption) ?_
          rotate_left
          · (intro w hSw; (try dsimp only at hSw); go_simp; try with_reducible rfl)
          try simp only [Act.put, List.setIfInBounds_toArray, List.set_cons_zero, List.set_cons_succ]
          refine wpAnyH_take (i := 3) (oi := ⟨some 44, _, _, _, _, _⟩) (v := ?_) rfl (by kernel_rfl) (by kernel_rfl) (by kernel_rfl) (fun _ _ _ h => h) (Or.inl ⟨by rfl, ?_⟩) (by assumption) ?_
          rotate_left
          · (intro w hSw; (try dsimp only at hSw); go_simp; try with_reducible rfl)
          try simp only [Act.put, List.setIfInBounds_toArray, List.set_cons_zero, List.set_cons_succ]
          refine wpAnyH_take (i := 5) (oi := ⟨some 46, _, _, _, _, _⟩) (v := .agg #[.int .i64 P, .int .i64 B, .int .u64 s]) rfl (by kernel_rfl) (by kernel_rfl) (by kernel_rfl) (fun _ _ _ h => h) (Or.inl ⟨by rfl, ?_⟩) (by assumption) ?_
          · (intro w hSw; (try dsimp only at hSw); have h0 := bcells_n hSw x0; have h1 := bcells_n hSw x1; have h2 := bcells_n hSw x2; go_simp)
          try simp only [Act.put, List.setIfInBounds_toArray, List.set_cons_zero, List.set_cons_succ]
          refine wpAnyH_take (i := 6) (oi := ⟨some 47, _, _, _, _, _⟩) (v := ?_) rfl (by kernel_rfl) (by kernel_rfl) (by kernel_rfl) (fun _ _ _ h => h) (Or.inl ⟨by rfl, ?_⟩) (by assumption) ?_
          rotate_left
          · (intro w hSw; (try dsimp only at hSw); go_simp; try with_reducible rfl)
          try simp only [Act.put, List.setIfInBounds_toArray, List.set_cons_zero, List.set_cons_succ]
          refine wpAnyH_take (i := 7) (oi := ⟨some 48, _, _, _, _, _⟩) (v := ?_) rfl (by kernel_rfl) (by kernel_rfl) (by kernel_rfl) (fun _ _ _ h => h) (Or.inl ⟨by rfl, ?_⟩) (by assumption) ?_
          rotate_left
          · (intro w hSw; (try dsimp only at hSw); go_simp; try with_reducible rfl)
          try simp only [Act.put, List.setIfInBounds_toArray, List.set_cons_zero, List.set_cons_succ]
          refine wpAnyH_take (i := 8) (oi := ⟨some 49, _, _, _, _, _⟩) (v := ?_) rfl (by kernel_rfl) (by kernel_rfl) (by kernel_rfl) (fun _ _ _ h => h) (Or.inl ⟨by rfl, ?_⟩) (by assumption) ?_
          rotate_left
          · (intro w hSw; (try dsimp only at hSw); go_simp; try with_reducible rfl)
          try simp only [Act.put, List.setIfInBounds_toArray, List.set_cons_zero, List.set_cons_succ]
          refine wpAnyH_ready (rs := [4, 9]) (by kernel_rfl) (by simp) ?_
          refine AllReadyH.cons (o := ⟨some 45, _, _, _, _, _⟩) rfl (fun K hK => ?_) ?_
          · skip
            go_simp
            refine hK.out _ _ ?_ (fun hHeld => ?_)
            · (try dsimp only); first | exact hbw | exact hbw.drew | exact hHeld | exact hbw.trans (HB9.out.mono hsz) | exact hHeld.alloc hHeld.size _ | exact (hbw.trans (HB9.out.mono hsz)).trans HB8.out | exact hHeld.setCell HNA.out.pb _
            clear hK K
            try simp only [Act.put, List.setIfInBounds_toArray, List.set_cons_zero, List.set_cons_succ]
            refine wpAnyH_ready (rs := [9]) (by kernel_rfl) (by simp) ?_
            refine AllReadyH.cons (o := ⟨some 50, _, _, _, _, _⟩) rfl (fun K hK => ?_) AllReadyH.nil
            go_simp
            refine (cut_any2 _ B s n k _ hB hB5 hn (by omega)).mono ?_
            rintro e w9 ⟨A9, c9, he9, hc9, ho9, hb9⟩
            obtain rfl : e = .returned (.slice A9 (cutL B n k).length c9) := he9
            have hb9' : Below wa.heap.size wa w9 := ((Qw.refl wa).drew.below _).trans hb9
            have d4 : w9.cell? ⟨p, 5, none⟩ = some (.slice Ao k co) := by rw [cell_of_row _ _ _ _ _ _ ((hb9'.block p hpl).trans HNA.out.cells)]; rfl
            have hpl9 : p < w9.heap.size := by have := hb9'.size; omega
            have HO9 := Lib.hid ho9; have HB9 := Lib.hid hb9'
            clear ho9 hb9 hb9'
            go_wp2_with fail
            refine hK.out _ _ ?_ (fun hHeld => ?_)
            · (try dsimp only); first | exact hbw | exact hbw.drew | exact hHeld | exact hbw.trans (HB9.out.mono hsz) | exact hHeld.alloc hHeld.size _ | exact (hbw.trans (HB9.out.mono hsz)).trans HB8.out | exact hHeld.setCell HNA.out.pb _
            clear hK K
            try simp only [Act.put, List.setIfInBounds_toArray, List.set_cons_zero, List.set_cons_succ]
            refine wpAnyH_ready (rs := [10]) (by kernel_rfl) (by simp) ?_
            refine AllReadyH.cons (o := ⟨some 51, _, _, _, _, _⟩) rfl (fun K hK => ?_) AllReadyH.nil
            go_simp
            refine hK.out _ _ ?_ (fun hHeld => ?_)
            · (try dsimp only); first | exact hbw | exact hbw.drew | exact hHeld | exact hbw.trans (HB9.out.mono hsz) | exact hHeld.alloc hHeld.size _ | exact (hbw.trans (HB9.out.mono hsz)).trans HB8.out | exact hHeld.setCell HNA.out.pb _
            clear hK K
            try simp only [Act.put, List.setIfInBounds_toArray, List.set_cons_zero, List.set_cons_succ]
            refine wpAnyH_ready (rs := [11]) (by kernel_rfl) (by simp) ?_
            refine AllReadyH.cons (o := ⟨some 52, _, _, _, _, _⟩) rfl (fun K hK => ?_) AllReadyH.nil
            refine step_pushL elB_qs (.tmp 45) (.tmp 51) (by rfl) (by rfl) w1.heap.size k _ (by rfl) (ownsRow_below HNA.out.blk HB9.out (Nat.le_refl _)) (by rfl) (by rfl) (by intro u hu; simp at hu; subst hu; rfl) (by omega) (by decide) (by have := HB9.out.size; omega) ?_
            intro v8 w8 hown8 hb8 hg8 hL8
            obtain ⟨A8, c8, rfl, hc8⟩ := own_form hown8
            have hp8 := (hg8.block p hpl9 (fun e => type_ne (ownsRow_below HNA.out.blk HB9.out (Nat.le_refl _)) e.symm ((HB9.out.block p hpl).trans HNA.out.cells) (by decide))).trans ((HB9.out.block p hpl).trans HNA.out.cells)
            have e4 : w8.cell? ⟨p, 5, none⟩ = some (.slice Ao k co) := by rw [cell_of_row _ _ _ _ _ _ hp8]; rfl
            have f4 : w8.frozen? ⟨p, 5, none⟩ = false := by simp [World.frozen?, hp8]
            have HW8 := Lib.hid hown8; have HG8 := Lib.hid hg8; have HB8 := Lib.hid hb8
            clear hp8 hown8 hg8 hb8 hL8
            refine hK.out _ _ ?_ (fun hHeld => ?_)
            · (try dsimp only); first | exact hbw | exact hbw.drew | exact hHeld | exact hbw.trans (HB9.out.mono hsz) | exact hHeld.alloc hHeld.size _ | exact (hbw.trans (HB9.out.mono hsz)).trans HB8.out | exact hHeld.setCell HNA.out.pb _
            clear hK K
            try simp only [Act.put, List.setIfInBounds_toArray, List.set_cons_zero, List.set_cons_succ]
            refine wpAnyH_take (i := 12) (oi := ⟨some 53, _, _, _, _, _⟩) (v := ?_) rfl (by kernel_rfl) (by kernel_rfl) (by kernel_rfl) (fun _ _ _ h => h) (Or.inl ⟨by rfl, ?_⟩) (by assumption) ?_
            rotate_left
            · (intro w hSw; (try dsimp only at hSw); go_simp; try with_reducible rfl)
            try simp only [Act.put, List.setIfInBounds_toArray, List.set_cons_zero, List.set_cons_succ]
            refine wpAnyH_take (i := 13) (oi := ⟨some 54, _, _, _, _, _⟩) (v := ?_) rfl (by kernel_rfl) (by kernel_rfl) (by kernel_rfl) (fun _ _ _ h => h) (Or.inl ⟨by rfl, ?_⟩) (by assumption) ?_
            rotate_left
            · (intro w hSw; (try dsimp only at hSw); go_simp; try with_reducible rfl)
            try simp only [Act.put, List.setIfInBounds_toArray, List.set_cons_zero, List.set_cons_succ]
            refine wpAnyH_ready (rs := [14]) (by kernel_rfl) (by simp) ?_
            refine AllReadyH.cons (o := ⟨none, _, _, _, _, _⟩) rfl (fun K hK => ?_) AllReadyH.nil
            go_simp
            refine hK.out _ _ ?_ (fun hHeld => ?_)
            · (try dsimp only); first | exact hbw | exact hbw.drew | exact hHeld | exact hbw.trans (HB9.out.mono hsz) | exact hHeld.alloc hHeld.size _ | exact (hbw.trans (HB9.out.mono hsz)).trans HB8.out | exact hHeld.setCell HNA.out.pb _
            clear hK K
            try simp only [Act.put, List.setIfInBounds_toArray, List.set_cons_zero, List.set_cons_succ]
            refine wpAnyH_done (by kernel_rfl) ?_ _
            go_wp2_with fail
            go_roundw
            case rel => exact ⟨k + 1, by omega, by go_num, ⟨km, cbt, Ab, _, _, _, _, HNA.out.pushB hsz HB9.out hc9 HO9.out HW8.out HG8.out⟩, hHeld⟩
            case measure => simp [intOf]; omega
          refine AllReadyH.cons (o := ⟨some 50, _, _, _, _, _⟩) rfl (fun K hK => ?_) AllReadyH.nil
          go_simp
          refine (cut_any2 _ B s n k _ hB hB5 hn (by omega)).mono ?_
          rintro e w9 ⟨A9, c9, he9, hc9, ho9, hb9⟩
          obtain rfl : e = .returned (.slice A9 (cutL B n k).length c9) := he9
          have hb9' : Below wa.heap.size wa w9 := ((Qw.refl wa).drew.below _).trans hb9
          have d4 : w9.cell? ⟨p, 5, none⟩ = some (.slice Ao k co) := by rw [cell_of_row _ _ _ _ _ _ ((hb9'.block p hpl).trans HNA.out.cells)]; rfl
          have hpl9 : p < w9.heap.size := by have := hb9'.size; omega
          have HO9 := Lib.hid ho9; have HB9 := Lib.hid hb9'
          clear ho9 hb9 hb9'
          go_wp2_with fail
          refine hK.out _ _ ?_ (fun hHeld => ?_)
          · (try dsimp only); first | exact hbw | exact hbw.drew | exact hHeld | exact hbw.trans (HB9.out.mono hsz) | exact hHeld.alloc hHeld.size _ | exact (hbw.trans (HB9.out.mono hsz)).trans HB8.out | exact hHeld.setCell HNA.out.pb _
          clear hK K
          try simp only [Act.put, List.setIfInBounds_toArray, List.set_cons_zero, List.set_cons_succ]
          refine wpAnyH_ready (rs := [4, 10]) (by kernel_rfl) (by simp) ?_
          refine AllReadyH.cons (o := ⟨some 45, _, _, _, _, _⟩) rfl (fun K hK => ?_) ?_
          · skip
            go_simp
            refine hK.out _ _ ?_ (fun hHeld => ?_)
            · (try dsimp only); first | exact hbw | exact hbw.drew | exact hHeld | exact hbw.trans (HB9.out.mono hsz) | exact hHeld.alloc hHeld.size _ | exact (hbw.trans (HB9.out.mono hsz)).trans HB8.out | exact hHeld.setCell HNA.out.pb _
            clear hK K
            try simp only [Act.put, List.setIfInBounds_toArray, List.set_cons_zero, List.set_cons_succ]
            refine wpAnyH_ready (rs := [10]) (by kernel_rfl) (by simp) ?_
            refine AllReadyH.cons (o := ⟨some 51, _, _, _, _, _⟩) rfl (fun K hK => ?_) AllReadyH.nil
            go_simp
            refine hK.out _ _ ?_ (fun hHeld => ?_)
            · (try dsimp only); first | exact hbw | exact hbw.drew | exact hHeld | exact hbw.trans (HB9.out.mono hsz) | exact hHeld.alloc hHeld.size _ | exact (hbw.trans (HB9.out.mono hsz)).trans HB8.out | exact hHeld.setCell HNA.out.pb _
            clear hK K
            try simp only [Act.put, List.setIfInBounds_toArray, List.set_cons_zero, List.set_cons_succ]
            refine wpAnyH_ready (rs := [11]) (by kernel_rfl) (by simp) ?_
            refine AllReadyH.cons (o := ⟨some 52, _, _, _, _, _⟩) rfl (fun K hK => ?_) AllReadyH.nil
            refine step_pushL elB_qs (.tmp 45) (.tmp 51) (by rfl) (by rfl) w1.heap.size k _ (by rfl) (ownsRow_below HNA.out.blk HB9.out (Nat.le_refl _)) (by rfl) (by rfl) (by intro u hu; simp at hu; subst hu; rfl) (by omega) (by decide) (by have := HB9.out.size; omega) ?_
            intro v8 w8 hown8 hb8 hg8 hL8
            obtain ⟨A8, c8, rfl, hc8⟩ := own_form hown8
            have hp8 := (hg8.block p hpl9 (fun e => type_ne (ownsRow_below HNA.out.blk HB9.out (Nat.le_refl _)) e.symm ((HB9.out.block p hpl).trans HNA.out.cells) (by decide))).trans ((HB9.out.block p hpl).trans HNA.out.cells)
            have e4 : w8.cell? ⟨p, 5, none⟩ = some (.slice Ao k co) := by rw [cell_of_row _ _ _ _ _ _ hp8]; rfl
            have f4 : w8.frozen? ⟨p, 5, none⟩ = false := by simp [World.frozen?, hp8]
            have HW8 := Lib.hid hown8; have HG8 := Lib.hid hg8; have HB8 := Lib.hid hb8
            clear hp8 hown8 hg8 hb8 hL8
            refine hK.out _ _ ?_ (fun hHeld => ?_)
            · (try dsimp only); first | exact hbw | exact hbw.drew | exact hHeld | exact hbw.trans (HB9.out.mono hsz) | exact hHeld.alloc hHeld.size _ | exact (hbw.trans (HB9.out.mono hsz)).trans HB8.out | exact hHeld.setCell HNA.out.pb _
            clear hK K
            try simp only [Act.put, List.setIfInBounds_toArray, List.set_cons_zero, List.set_cons_succ]
            refine wpAnyH_take (i := 12) (oi := ⟨some 53, _, _, _, _, _⟩) (v := ?_) rfl (by kernel_rfl) (by kernel_rfl) (by kernel_rfl) (fun _ _ _ h => h) (Or.inl ⟨by rfl, ?_⟩) (by assumption) ?_
            rotate_left
            · (intro w hSw; (try dsimp only at hSw); go_simp; try with_reducible rfl)
            try simp only [Act.put, List.setIfInBounds_toArray, List.set_cons_zero, List.set_cons_succ]
            refine wpAnyH_take (i := 13) (oi := ⟨some 54, _, _, _, _, _⟩) (v := ?_) rfl (by kernel_rfl) (by kernel_rfl) (by kernel_rfl) (fun _ _ _ h => h) (Or.inl ⟨by rfl, ?_⟩) (by assumption) ?_
            rotate_left
            · (intro w hSw; (try dsimp only at hSw); go_simp; try with_reducible rfl)
            try simp only [Act.put, List.setIfInBounds_toArray, List.set_cons_zero, List.set_cons_succ]
            refine wpAnyH_ready (rs := [14]) (by kernel_rfl) (by simp) ?_
            refine AllReadyH.cons (o := ⟨none, _, _, _, _, _⟩) rfl (fun K hK => ?_) AllReadyH.nil
            go_simp
            refine hK.out _ _ ?_ (fun hHeld => ?_)
            · (try dsimp only); first | exact hbw | exact hbw.drew | exact hHeld | exact hbw.trans (HB9.out.mono hsz) | exact hHeld.alloc hHeld.size _ | exact (hbw.trans (HB9.out.mono hsz)).trans HB8.out | exact hHeld.setCell HNA.out.pb _
            clear hK K
            try simp only [Act.put, List.setIfInBounds_toArray, List.set_cons_zero, List.set_cons_succ]
            refine wpAnyH_done (by kernel_rfl) ?_ _
            go_wp2_with fail
            go_roundw
            case rel => exact ⟨k + 1, by omega, by go_num, ⟨km, cbt, Ab, _, _, _, _, HNA.out.pushB hsz HB9.out hc9 HO9.out HW8.out HG8.out⟩, hHeld⟩
            case measure => simp [intOf]; omega
          refine AllReadyH.cons (o := ⟨some 51, _, _, _, _, _⟩) rfl (fun K hK => ?_) AllReadyH.nil
          go_simp
          refine hK.out _ _ ?_ (fun hHeld => ?_)
          · (try dsimp only); first | exact hbw | exact hbw.drew | exact hHeld | exact hbw.trans (HB9.out.mono hsz) | exact hHeld.alloc hHeld.size _ | exact (hbw.trans (HB9.out.mono hsz)).trans HB8.out | exact hHeld.setCell HNA.out.pb _
          clear hK K
          try simp only [Act.put, List.setIfInBounds_toArray, List.set_cons_zero, List.set_cons_succ]
          refine wpAnyH_ready (rs := [4]) (by kernel_rfl) (by simp) ?_
          refine AllReadyH.cons (o := ⟨some 45, _, _, _, _, _⟩) rfl (fun K hK => ?_) AllReadyH.nil
          go_simp
          refine hK.out _ _ ?_ (fun hHeld => ?_)
          · (try dsimp only); first | exact hbw | exact hbw.drew | exact hHeld | exact hbw.trans (HB9.out.mono hsz) | exact hHeld.alloc hHeld.size _ | exact (hbw.trans (HB9.out.mono hsz)).trans HB8.out | exact hHeld.setCell HNA.out.pb _
          clear hK K
          try simp only [Act.put, List.setIfInBounds_toArray, List.set_cons_zero, List.set_cons_succ]
          refine wpAnyH_ready (rs := [11]) (by kernel_rfl) (by simp) ?_
          refine AllReadyH.cons (o := ⟨some 52, _, _, _, _, _⟩) rfl (fun K hK => ?_) AllReadyH.nil
          refine step_pushL elB_qs (.tmp 45) (.tmp 51) (by rfl) (by rfl) w1.heap.size k _ (by rfl) (ownsRow_below HNA.out.blk HB9.out (Nat.le_refl _)) (by rfl) (by rfl) (by intro u hu; simp at hu; subst hu; rfl) (by omega) (by decide) (by have := HB9.out.size; omega) ?_
          intro v8 w8 hown8 hb8 hg8 hL8
          obtain ⟨A8, c8, rfl, hc8⟩ := own_form hown8
          have hp8 := (hg8.block p hpl9 (fun e => type_ne (ownsRow_below HNA.out.blk HB9.out (Nat.le_refl _)) e.symm ((HB9.out.block p hpl).trans HNA.out.cells) (by decide))).trans ((HB9.out.block p hpl).trans HNA.out.cells)
          have e4 : w8.cell? ⟨p, 5, none⟩ = some (.slice Ao k co) := by rw [cell_of_row _ _ _ _ _ _ hp8]; rfl
          have f4 : w8.frozen? ⟨p, 5, none⟩ = false := by simp [World.frozen?, hp8]
          have HW8 := Lib.hid hown8; have HG8 := Lib.hid hg8; have HB8 := Lib.hid hb8
          clear hp8 hown8 hg8 hb8 hL8
          refine hK.out _ _ ?_ (fun hHeld => ?_)
          · (try dsimp only); first | exact hbw | exact hbw.drew | exact hHeld | exact hbw.trans (HB9.out.mono hsz) | exact hHeld.alloc hHeld.size _ | exact (hbw.trans (HB9.out.mono hsz)).trans HB8.out | exact hHeld.setCell HNA.out.pb _
          clear hK K
          try simp only [Act.put, List.setIfInBounds_toArray, List.set_cons_zero, List.set_cons_succ]
          refine wpAnyH_take (i := 12) (oi := ⟨some 53, _, _, _, _, _⟩) (v := ?_) rfl (by kernel_rfl) (by kernel_rfl) (by kernel_rfl) (fun _ _ _ h => h) (Or.inl ⟨by rfl, ?_⟩) (by assumption) ?_
          rotate_left
          · (intro w hSw; (try dsimp only at hSw); go_simp; try with_reducible rfl)
          try simp only [Act.put, List.setIfInBounds_toArray, List.set_cons_zero, List.set_cons_succ]
          refine wpAnyH_take (i := 13) (oi := ⟨some 54, _, _, _, _, _⟩) (v := ?_) rfl (by kernel_rfl) (by kernel_rfl) (by kernel_rfl) (fun _ _ _ h => h) (Or.inl ⟨by rfl, ?_⟩) (by assumption) ?_
          rotate_left
          · (intro w hSw; (try dsimp only at hSw); go_simp; try with_reducible rfl)
          try simp only [Act.put, List.setIfInBounds_toArray, List.set_cons_zero, List.set_cons_succ]
          refine wpAnyH_ready (rs := [14]) (by kernel_rfl) (by simp) ?_
          refine AllReadyH.cons (o := ⟨none, _, _, _, _, _⟩) rfl (fun K hK => ?_) AllReadyH.nil
          go_simp
          refine hK.out _ _ ?_ (fun hHeld => ?_)
          · (try dsimp only); first | exact hbw | exact hbw.drew | exact hHeld | exact hbw.trans (HB9.out.mono hsz) | exact hHeld.alloc hHeld.size _ | exact (hbw.trans (HB9.out.mono hsz)).trans HB8.out | exact hHeld.setCell HNA.out.pb _
          clear hK K
          try simp only [Act.put, List.setIfInBounds_toArray, List.set_cons_zero, List.set_cons_succ]
          refine wpAnyH_done (by kernel_rfl) ?_ _
          go_wp2_with fail
          go_roundw
          case rel => exact ⟨k + 1, by omega, by go_num, ⟨km, cbt, Ab, _, _, _, _, HNA.out.pushB hsz HB9.out hc9 HO9.out HW8.out HG8.out⟩, hHeld⟩
          case measure => simp [intOf]; omega
      · have i1 : (P : Int) ≤ (k : Int) := by omega
        obtain rfl : k = P := by omega
        obtain ⟨L, rfl, hLb, hLn, hLP, hLB, hLs, hm, hwf⟩ := hna.done hP hP6 hB hB5 hs hn
        have HM := Lib.hid hm; have HWF := Lib.hid hwf
        clear hna hm hwf
        go_wp2_with fail
        refine (advance_any L _ (st0 b) _ HM.out HWF.out).mono ?_
        rintro e w9 ⟨rfl, hm9, hT9⟩
        have HM9 := Lib.hid hm9; have HT9 := Lib.hid hT9
        clear hm9 hT9
        go_wp2_with fail
        try simp only [Exit.inBlock, Exit.then]
        refine bodyPost_ret (results_tmp2 rfl _ _ _) rfl ?_
        exact ⟨L, _, rfl, hLn, hLP, hLB, hLs, by rw [hLb]; exact hlt1, HM9.out, (B1.trans (hbw.mono (by omega))).trans (HT9.out.old HM.out (by rw [hLb]; omega))⟩
end Go.Proofs.Ytncjmndiafgaaaa
/- The contract of Run of the cascades. Conditions: as each statement says. -/
namespace Go.Proofs.Ytncjmndiafgaaaa
open Go.RowKit
set_option linter.unusedVariables false
/-- What Run hands back. -/
def RunP (n P B s : Nat) (x y : List Bool) (w : World) (e : Ending) (w' : World) : Prop :=
  ∃ (Az : Option Addr) (cz : Nat) (At : Option Addr) (ct : Nat) (S : Mst), e = .returned (.tuple #[.slice Az n cz, .slice At S.told.length ct, .int .i64 0]) ∧
    GoT (pl n P B s) (oT (pl n P B s) y) (1, st0 x) (0, S) ∧ S.opn = false ∧ S.told.length ≤ 787968 ∧ n ≤ cz ∧ S.told.length ≤ ct ∧
    w'.ownsRow w.heap.size 4 1 (.slice Az n cz) n (S.b.map Value.bool) ∧ w'.ownsRow w.heap.size 112 4 (.slice At S.told.length ct) S.told.length (aCells S.told) ∧ Below w.heap.size w w'
/-- What holds at each round. -/
def RunI (x y : List Bool) (w : World) (L : Lay) (vt : Value) (S : Mst) (wr : World) : Prop :=
  GoT L (oT L y) (1, st0 x) (0, S) ∧ Inv L 0 S ∧ MAt wr L vt S ∧ Below w.heap.size w wr
theorem RunI.told {x y : List Bool} {w wr w' : World} {L : Lay} {vt vt' : Value} {S : Mst} (h : RunI x y w L vt S wr) (hb : w.heap.size ≤ L.base) (ho : S.opn = true)
    (hm : MAt w' L vt' (advS L { S with told := S.told ++ [(S.next, parL y (placesL L.s L.n S.next))] })) (hT : MTurn L vt wr w') :
    RunI x y w L vt' (advS L { S with told := S.told ++ [(S.next, parL y (placesL L.s L.n S.next))] }) w' ∧ 1000000 - (advS L { S with told := S.told ++ [(S.next, parL y (placesL L.s L.n S.next))] }).told.length < 1000000 - S.told.length := by
  obtain ⟨h1, h2, h3, h4⟩ := h
  have hst := h3.st
  obtain ⟨g1, g2⟩ := tell_go (o := oT L y) (a := parL y (placesL L.s L.n S.next)) hst.hB.1 hst.hn h2 ho rfl
  refine ⟨⟨h1.trans g1, g2, hm, h4.trans (hT.old h3 hb)⟩, ?_⟩
  have hl := h2.len hst.hP.2 hst.hn
  rw [advS_told, List.length_append]
  simp
  omega
theorem QOk.ok {L : Lay} {q : Qn} (h : QOk L q) (hP : L.P ≤ 6) (hn : L.n ≤ 512) : q.ok := by
  obtain ⟨⟨h1, h2, h3⟩, h4⟩ := h
  exact ⟨by omega, by omega, by omega⟩
set_option maxRecDepth 100000 in
set_option maxHeartbeats 4000000 in
theorem Run_ok (A A' : Option Addr) (n c c' P B s : Nat) (x y : List Bool) (w : World) (hP : 1 ≤ P) (hP6 : P ≤ 6) (hB : 1 ≤ B) (hB5 : B ≤ 512) (hs : s < two64) (hn : n ≤ 512) (h : Rd w w.heap.size 1 A n (x.map Value.bool)) (h' : Rd w w.heap.size 1 A' n (y.map Value.bool)) :
    Calls Try.prog 25 #[casV P B s, .slice A n c, .slice A' n c'] w (RunP n P B s x y w) := by
  have hsn : checkE P B = 0 := checkE_ok.2 ⟨by omega, by omega, by omega, by omega⟩
  have hxl : x.length = n := by have := h.1; simpa using this
  have hyl : y.length = n := by have := h'.1; simpa using this
  have H := Lib.hid h; have H' := Lib.hid h'; have HS := Lib.hid hsn
  clear h h' hsn
  have hne : ((n : Int) != (n : Int)) = false := by simp
  have hn5 : (n : Int) ≤ 512 := by omega
  go_enter Try.func25, Try.ntmps25
  go_wp2_with fail
  refine (Check_ex _ _ _ _).mono ?_
  rintro e w1 ⟨⟨E, hE, rfl⟩, hs1, hb1⟩
  obtain rfl : E = 0 := hE.trans HS.out
  have B1 : Below w.heap.size w w1 := ((Below.refl _ _).alloc (Nat.le_refl _) _).trans (hb1.mono (by simp))
  have hbk : w1.heap[w.heap.size]? = some (.cells (casC P B s) 67 (0, 0)) := by
    rw [hb1.block _ (by simp)]
    exact heap_alloc_new w _
  have k0 : w1.cell? ⟨w.heap.size, 0, none⟩ = some (.int .i64 P) := by rw [cell_of_row _ _ _ _ _ _ hbk]; rfl
  have k1 : w1.cell? ⟨w.heap.size, 1, none⟩ = some (.int .i64 B) := by rw [cell_of_row _ _ _ _ _ _ hbk]; rfl
  have k2 : w1.cell? ⟨w.heap.size, 2, none⟩ = some (.int .u64 s) := by rw [cell_of_row _ _ _ _ _ _ hbk]; rfl
  have HB1 := Lib.hid B1
  have HX := Lib.hid hxl; have HY := Lib.hid hyl
  clear hE hs1 hb1 B1 hbk HS hxl hyl
  go_wp2_with fail
  refine (New_ok A n c P B s x _ hP hP6 hB hB5 hs hn ((H.out.below HB1.out).mono HB1.out.size)).mono ?_
  rintro e w2 ⟨L, vt, rfl, hLn, hLP, hLB, hLs, hbase, hm, hb2⟩
  subst hLn hLP hLB hLs
  have hb2' := HB1.out.trans (hb2.mono HB1.out.size)
  have hI0 := advS_go (L := L) (S := st0 x) (o := oT L y) hB hn (Inv.start (L := L) HX.out)
  have hbs : w.heap.size ≤ L.base := by have := HB1.out.size; omega
  have HI : Hid (RunI x y w L vt (advS L (st0 x)) w2) := Lib.hid ⟨hI0.1, hI0.2, hm, hb2'⟩
  have HH := Lib.hid H'.out
  clear hI0 hm hb2 hb2' k0 k1 k2 hbase H H'
  go_wp2_with fail
  go_loopg [] 1000001 (fun g wr => ∃ (S : Mst) (vt : Value), 1000000 - S.told.length < g ∧ RunI x y w L vt S wr)
  case atStart => exact ⟨_, vt, by omega, HI.out⟩
  case round =>
    obtain ⟨S, vt, hg, hI⟩ := hrel
    obtain ⟨wa, rfl⟩ : ∃ z : World, z = wr := ⟨_, rfl⟩
    have hm := hI.2.2.1
    have hbw := hI.2.2.2
    have c21 : wa.cell? ⟨L.p, 21, none⟩ = some (.bool S.opn) := hm.cell 21
    by_cases ho : S.opn = true
    · rw [ho] at c21
      have c18 : wa.cell? ⟨L.p, 18, none⟩ = some (.int .i64 S.next.p) := hm.cell 18
      have c19 : wa.cell? ⟨L.p, 19, none⟩ = some (.int .i64 S.next.f) := hm.cell 19
      have c20 : wa.cell? ⟨L.p, 20, none⟩ = some (.int .i64 S.next.t) := hm.cell 20
      have hq := hI.2.1.next hB ho
      obtain ⟨⟨hqp, hft, hqt⟩, hlt⟩ := hq
      have hqok : S.next.ok := QOk.ok ⟨⟨hqp, hft, hqt⟩, hlt⟩ hP6 hn
      obtain ⟨wq, hwq⟩ : ∃ z, z = wa.alloc (.cells #[.int .i64 S.next.p, .int .i64 S.next.f, .int .i64 S.next.t] 90) := ⟨_, rfl⟩
      have hbq : Below wa.heap.size wa wq := by rw [hwq]; exact (Below.refl _ _).alloc (Nat.le_refl _) _
      have hmq := hm.below hbq
      have hbk : wq.heap[wa.heap.size]? = some (.cells #[.int .i64 S.next.p, .int .i64 S.next.f, .int .i64 S.next.t] 90 (0, 0)) := by rw [hwq]; exact heap_alloc_new wa _
      have q0 : wq.cell? ⟨wa.heap.size, 0, none⟩ = some (.int .i64 S.next.p) := by rw [cell_of_row _ _ _ _ _ _ hbk]; rfl
      have q1 : wq.cell? ⟨wa.heap.size, 1, none⟩ = some (.int .i64 S.next.f) := by rw [cell_of_row _ _ _ _ _ _ hbk]; rfl
      have q2 : wq.cell? ⟨wa.heap.size, 2, none⟩ = some (.int .i64 S.next.t) := by rw [cell_of_row _ _ _ _ _ _ hbk]; rfl
      have c4 : wq.cell? ⟨L.p, 4, none⟩ = some (.slice (some ⟨L.go, 0, none⟩) L.P L.co) := hmq.cell 4
      have hql : S.next.p < L.os.length := by rw [hmq.st.ol]; exact hqp
      obtain ⟨Ao, co, hA⟩ : ∃ A c, L.os[S.next.p]? = some (A, c) := ⟨_, _, List.getElem?_eq_getElem hql⟩
      have ce : wq.cell? ⟨L.go, S.next.p, none⟩ = some (.slice Ao L.n co) := by
        rw [hmq.st.ord.cellAt S.next.p (by omega), List.getElem?_map, hA]; rfl
      obtain ⟨hnc, hro⟩ := hmq.st.ordr S.next.p Ao co hA
      obtain ⟨A2, hsl, hr2⟩ := slice_cut (P := Try.prog) (t := 95) (sz := 1) Try.underlying95 Try.sizeOf3 (Rd.own hro) S.next.f S.next.t co hft hqt hnc
      have HR : Hid (Rd wq wq.heap.size 1 A2 (S.next.t - S.next.f) ((placesL L.s L.n S.next).map (Value.int .i64))) := Lib.hid (by
        simpa [placesL, List.map_drop, List.map_take] using hr2)
      have hry : Rd wq wq.heap.size 1 A' L.n (y.map Value.bool) := (HH.out.below (hbw.trans (hbq.mono hbw.size))).mono (Nat.le_trans hbw.size hbq.size)
      have HP : Hid (∀ k : Nat, Calls Try.prog 42 #[.slice A' L.n c', .slice A2 (S.next.t - S.next.f) (co - S.next.f)] (wq.drewN k) fun e w' => e = .returned (.bool (parL y (placesL L.s L.n S.next))) ∧ wq.drewN k = w') := Lib.hid fun k =>
        parity_any A' A2 L.n c' (S.next.t - S.next.f) (co - S.next.f) y (placesL L.s L.n S.next) _ _ (by omega) (by omega) (hry.drewN k) (HR.out.drewN k) (fun x hx => placesL_mem hx)
      have i1 : (S.next.p : Int) < (L.P : Int) := by omega
      have HW := Lib.hid hwq; have HMQ := Lib.hid hmq; have HBQ := Lib.hid hbq
      have HII := Lib.hid hI; have HG := Lib.hid hg; have HO := Lib.hid ho; have HQ := Lib.hid hqok
      have hy1 : ∃ yv, yv = parL y (placesL L.s L.n S.next) := ⟨_, rfl⟩
      clear hI hg ho hwq hmq hbq hm hbk hr2 hro hA hql hry hnc hqok
      obtain ⟨yv, hyv⟩ := hy1
      rw [← hyv] at HP
      have HYV := Lib.hid hyv
      clear hyv
      go_wp2_with fail
      rw [← HW.out]
      refine wp_region_quiet_tail 16 (by kernel_rfl) (by kernel_rfl) ?_
      simp only [List.take_succ_cons, List.take_zero, List.drop_succ_cons, List.drop_zero]
      repeat (quiet_step ((go_at_call 42; exact quiet_e (HP.out _))))
      refine wpQuiet_nil ?_
      intro _ hw'
      obtain ⟨nr, hw''⟩ := hw'
      subst hw''
      go_wp2_with fail
      have hinv := HII.out.2.1
      refine (Tell_any L vt S yv _ (HMQ.out.q (⟨nr, rfl⟩ : Qw wq (wq.drewN nr))) hinv.wfm HO.out HQ.out (hinv.wait rfl HO.out).1 (by have := hinv.len hP6 hn; omega)).mono ?_
      rintro e w8 ⟨rfl, vt8, hm8, hT8, hv8⟩
      rw [HYV.out] at hm8
      have hq2 : MTurn L vt wa w8 := (MTurn.below0 HBQ.out).trans ((MTurn.q (⟨nr, rfl⟩ : Qw wq (wq.drewN nr))).trans hT8 (.inl rfl)) (.inl rfl)
      obtain ⟨hR1, hR2⟩ := HII.out.told hbs HO.out hm8 hq2
      have HR1 := Lib.hid hR1; have HR2 := Lib.hid hR2
      clear hm8 hT8 hq2 hR1 hR2 hinv hv8 hbw
      go_wp2_with fail
      have hg := HG.out; have hR2 := HR2.out
      go_roundg (1000000 - S.told.length)
      case measure => omega
      case rel => exact ⟨_, vt8, hR2, HR1.out⟩
    · have ho' : S.opn = false := by simpa using ho
      rw [ho'] at c21
      have c6 : wa.cell? ⟨L.p, 6, none⟩ = some (.slice L.Ab L.n L.cbt) := hm.cell 6
      have c8 : wa.cell? ⟨L.p, 8, none⟩ = some vt := hm.cell 8
      obtain ⟨At, ct, hvt, hct⟩ := own_form hm.told
      have HII := Lib.hid hI; have HO := Lib.hid ho'; have HVT := Lib.hid hvt
      clear hI hm ho ho' hbw hvt
      go_wp2_with fail
      go_region
      go_wp2_with fail
      go_ret3
      obtain ⟨g1, g2, g3', g4'⟩ := HII.out
      have g3 := g3'.q (⟨1, rfl⟩ : Qw wa wa.drew)
      have g4 := g4'.trans (Qw.below (⟨1, rfl⟩ : Qw wa wa.drew) _)
      have hst := g3.st
      refine ⟨L.Ab, L.cbt, At, ct, S, by rw [HVT.out]; rfl, g1.plain, HO.out, g2.len hP6 hn, hst.pc.2.2, hct, ownsRow_mono g3.bits hbs, ?_, g4⟩
      have := ownsRow_mono g3.told hbs
      rw [HVT.out] at this
      exact this
end Go.Proofs.Ytncjmndiafgaaaa
/- The small example at the end of each statement. Conditions: as each statement says. -/
namespace Go.Proofs.Ytncjmndiafgaaaa
open Go.RowKit
set_option linter.unusedVariables false
theorem works_end : ((itO (pl 4 1 4 0) (oT (pl 4 1 4 0) [false, true, false, false]) 20 (1, st0 [false, false, false, false])).1, (itO (pl 4 1 4 0) (oT (pl 4 1 4 0) [false, true, false, false]) 20 (1, st0 [false, false, false, false])).2.opn, (itO (pl 4 1 4 0) (oT (pl 4 1 4 0) [false, true, false, false]) 20 (1, st0 [false, false, false, false])).2.b, (itO (pl 4 1 4 0) (oT (pl 4 1 4 0) [false, true, false, false]) 20 (1, st0 [false, false, false, false])).2.told.length) = (0, false, [false, true, false, false], 3) := by
  decide
theorem works_pure {S : Mst} (h : GoT (pl 4 1 4 0) (oT (pl 4 1 4 0) [false, true, false, false]) (1, st0 [false, false, false, false]) (0, S)) (ho : S.opn = false) : S.b = [false, true, false, false] ∧ S.told.length = 3 := by
  have e := works_end
  have hg : GoT (pl 4 1 4 0) (oT (pl 4 1 4 0) [false, true, false, false]) (1, st0 [false, false, false, false]) (itO (pl 4 1 4 0) (oT (pl 4 1 4 0) [false, true, false, false]) 20 (1, st0 [false, false, false, false])) := ⟨20, rfl⟩
  generalize itO (pl 4 1 4 0) (oT (pl 4 1 4 0) [false, true, false, false]) 20 (1, st0 [false, false, false, false]) = t at e hg
  obtain ⟨c, T⟩ := t
  simp only [Prod.mk.injEq] at e
  obtain ⟨rfl, h2, h3, h4⟩ := e
  have := h.same hg ⟨rfl, .inl ho⟩ ⟨rfl, .inl h2⟩
  simp only [Prod.mk.injEq, true_and] at this
  subst this
  exact ⟨h3, h4⟩
end Go.Proofs.Ytncjmndiafgaaaa
/- Contracts of the small functions of the statements about cascades: plan, short, distance, Bools. Conditions: as each statement says. -/
namespace Go.Proofs.Ytncjmndiafgaaaa
open Go.RowKit
set_option linter.unusedVariables false
set_option maxHeartbeats 1000000 in
theorem Bools_eq (A A' : Option Addr) (n c c' : Nat) (xs : List Bool) (w : World) (hn : n ≤ 1073741824) (h : Rd w w.heap.size 1 A n (xs.map Value.bool)) (h' : Rd w w.heap.size 1 A' n (xs.map Value.bool)) :
    Calls Try.prog 12 #[.slice A n c, .slice A' n c'] w fun e w' => e = .returned (.bool true) ∧ Qw w w' := by
  have hl : xs.length = n := by have := h.1; simpa using this
  have H := Lib.hid h; have H' := Lib.hid h'; have HL := Lib.hid hl; clear h h' hl
  have hne : ((n : Int) != (n : Int)) = false := by simp
  go_enter Try.func12, Try.ntmps12
  go_wp2_with fail
  go_loopw [5] (fun i wr => ∃ k : Nat, k ≤ n ∧ i = .int .i64 k ∧ Qw w wr) (fun i _ => n - (intOf i).toNat)
  case atStart => exact ⟨0, Nat.zero_le _, rfl, Qw.refl _⟩
  case round =>
    obtain ⟨k, hk, rfl, hq⟩ := hrel
    by_cases hlt : k < n
    · have hki : (k : Int) < (n : Int) := by omega
      obtain ⟨b, off, rfl, hb, hc⟩ := H.out.2 (by omega)
      obtain ⟨b', off', rfl, hb', hc'⟩ := H'.out.2 (by omega)
      have hlk : k < xs.length := by rw [HL.out]; exact hlt
      have h1 : wr.cell? ⟨b, off + k, none⟩ = some (.bool xs[k]) := (hq.cell _).trans (hc k _ (by simp [hlk]))
      have h2 : wr.cell? ⟨b', off' + k, none⟩ = some (.bool xs[k]) := (hq.cell _).trans (hc' k _ (by simp [hlk]))
      generalize xs[k] = x at h1 h2
      have HQ := Lib.hid hq
      clear hc hc' hlk hq
      go_wp2_with fail
      go_quiet (fail)
      go_wp2_with fail
      go_roundw
      case rel => exact ⟨k + 1, by omega, by go_num, HQ.out.drewN _⟩
      case measure => simp [intOf]; omega
    · have hki : ¬ (k : Int) < (n : Int) := by omega
      go_wp2_with fail
      go_ret
      exact ⟨rfl, hq⟩
end Go.Proofs.Ytncjmndiafgaaaa
