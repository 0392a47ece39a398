/- The contract of state.add. Conditions: as the statement says. -/
import Derived.Test.YtdgmjedkhjeadaaGreatSt9
import Derived.Test.YtdgmjedkhjeadaaGreatPad8
import Derived.Test.YtdgmjedkhjeadaaGreatRecW
import Derived.Test.YtdgmjedkhjeadaaGreatPack
import Derived.BigQuiet
import Derived.Test.YtdgmjedkhjeadaaGreatKeepL
import Derived.Deep.RegionHeld3
namespace Go.Proofs.YtdgmjedkhjeadaaGreat
open List (setIfInBounds_toArray set_cons_zero set_cons_succ)
open Go.RowKit
set_option linter.unusedVariables false
/-- What a step of a journal answers: the state is changed to another one, in its own blocks; or it stays. -/
def StepP (S : Nat) (kv : Value) (xs : List KB) (tb : Option Addr) (X : List Nat) (q : Option Jn) (w : World) (e : Ending) (w' : World) : Prop :=
  (∃ j', q = some j' ∧ e = .returned (.bool true) ∧ JnMut w w' S kv xs tb X j') ∨ (q = none ∧ e = .returned (.bool false) ∧ Below w.heap.size w w')
theorem elK8 : ElemB Tryz.prog 113 121 1 8 := ElemB.of Tryz.underlying113 (by kernel_rfl : (Tryz.prog.info? 121).map (fun i => (i.zero, i.size, i.bytes)) = some (some (.pointer none), 1, 8)) rfl (by decide)
theorem infoBl8 : (Tryz.prog.info? 4).map (fun i => (i.zero, i.size, i.bytes)) = some (some (.bool false), 1, 1) := by kernel_rfl
theorem make_bl8 (w : World) (c : Nat) (hc : c ≤ 1000000) : (Instr.makeSlice 48 (.int .i64 c) (.int .i64 c)).run Tryz.prog w = .ok (.slice (some ⟨w.heap.size, 0, none⟩) c c) (w.alloc (.cells (Array.replicate c (.bool false)) 4)) := by
  obtain ⟨i, hi, hz, hs, hb⟩ := info_parts infoBl8
  have h := run_make (P := Tryz.prog) w _ _ i _ Tryz.underlying48 hi hz .i64 .i64 c c (by omega) (by omega) (by rw [hb]; omega) (by omega)
  rw [hs] at h
  simpa [madeCells_one, Value.cells] using h
section
variable {P : Program} {t e : TypeId} {size bytes : Nat}
theorem step_pushL8 {ops : Array Oper} {o : Oper} {a : Act} {K : Act → World → Prop} {Q : Exit → Act → World → Prop} {E : Prop} {wa : World} {us : Array Value} {tu : TypeId} (T : ElemB P t e size bytes) (s x : Operand) (hgd : o.guard = none)
    (ho : o.op = .call { callee := .builtin .append, args := #[s, x], argTypes := #[t, t] }) (B : Nat) (n : Nat) (xs : List Value) {v : Value} (hs : a.eval s = v) (hown : wa.ownsRow B e size v n xs)
    (hx : a.eval x = .slice (some ⟨wa.heap.size, 0, none⟩) 1 1) (hus : us.size = size) (h1 : ∀ u ∈ us.toList, u.oneCell' = true) (hn : n ≤ 1099511627776) (hb : bytes ≤ 64) (hB : B ≤ wa.heap.size)
    (h : ∀ v' w', w'.ownsRow B e size v' (n + 1) (xs ++ us.toList) → Below B wa w' → wa.grownBy w' v.ownBlock → Lies v v' (wa.heap.size + 1) → K (a.put o.dst v') w') :
    if Region.wanted o (yielded ops a.tmps) = true then Oper.wp P o a (wa.alloc (.cells us tu)) K Q else E := by
  rw [if_pos (by simp [Region.wanted, hgd])]
  exact wp_pushL T s x ho B n xs hs hown hx hus h1 hn hb hB h
end
theorem own_bk {w : World} {B : Nat} {t : TypeId} {sz n : Nat} {v : Value} {xs : List Value} (h : w.ownsRow B t sz v n xs) : ∀ b ∈ ob v, ∃ cs, Bk w b cs t := by
  intro b hb
  rw [mem_ob] at hb
  rcases h.2 with ⟨rfl, _⟩ | ⟨g, cap, cur, rfl, _, h2, _⟩
  · cases hb
  · injection hb with hb
    exact ⟨cur, by rw [← hb]; exact h2⟩
theorem KyAt.keepT {w w' : World} {x : KB} {k : Ky} {L : List Nat} (h : KyAt w x k) (hk : KeepL L w w') (hL : ∀ b ∈ L, ∃ cs t, Bk w b cs t ∧ t ≠ 123 ∧ t ≠ 4) : KyAt w' x k := by
  refine h.keepL hk fun b hb hm => ?_
  obtain ⟨cs, t, h1, h2, h3⟩ := hL b hm
  obtain ⟨s, h4⟩ := h.bits
  obtain ⟨u, h5⟩ := h.used
  simp only [KB.l, List.mem_cons, List.not_mem_nil, or_false] at hb
  rcases hb with rfl | rfl | rfl
  · exact h1.ne h.blk h2 rfl
  · exact h1.ne h4 h3 rfl
  · exact h1.ne h5 h3 rfl
theorem own_keepT {w w' : World} {B : Nat} {t : TypeId} {sz n : Nat} {v : Value} {xs : List Value} {L : List Nat} (h : w.ownsRow B t sz v n xs) (hk : KeepL L w w') (hL : ∀ b ∈ L, ∃ cs t', Bk w b cs t' ∧ t' ≠ t) : w'.ownsRow B t sz v n xs := by
  refine ownsRow_keepB h hk fun b hb hm => ?_
  obtain ⟨cs, t', h1, h2⟩ := hL b hm
  obtain ⟨cs', h3⟩ := own_bk h b hb
  exact h1.ne h3 h2 rfl
/-- A key more. -/
theorem JnAt.added {w0 w2 w4 : World} {S : Nat} {j : Jn} {kv : Value} {xs : List KB} {tb : Option Addr} {tc : Nat} (h0 : JnAt w0 S j kv xs tb tc) (hb : Below w0.heap.size w0 w2) {x : KB} {k : Ky} (hx : KyAt w2 x k) (hxl : ∀ b ∈ x.l, w0.heap.size ≤ b) (hnd : x.l.Nodup)
    {v' : Value} {H : Nat} (hown : w4.ownsRow 0 121 1 v' (j.keys.length + 1) (xs.map KB.pv ++ [x.pv])) (hg : w2.grownBy w4 kv.ownBlock) (hl : Lies kv v' H) (hH : w0.heap.size ≤ H) (hk : j.keys.length ≤ 1000) :
    JnMut w0 (w4.setCell ⟨S, 0, none⟩ v') S kv xs tb [] { j with keys := j.keys ++ [k] } := by
  have h2 := h0.far hb
  have K1 : KeepL (ob kv) w2 w4 := KeepL.grown hg fun q e _ => by rw [mem_ob]; exact e
  have K2 := KeepL.set w4 S 0 v'
  have T1 : ∀ b ∈ ob kv, ∃ cs, Bk w2 b cs 121 := own_bk h2.row
  have hS4 : Bk w4 S (stC kv j tb tc) 117 := h2.blk.keepL K1 fun hm => by
    obtain ⟨cs, hc⟩ := T1 S hm
    exact hc.ne h2.blk (by decide) rfl
  have T2 : ∀ b ∈ [S], ∃ cs t, Bk w4 b cs t ∧ t = 117 := fun b hb => by
    rw [List.mem_singleton] at hb; subst hb; exact ⟨_, _, hS4, rfl⟩
  have kk : ∀ y q, KyAt w2 y q → KyAt (w4.setCell ⟨S, 0, none⟩ v') y q := fun y q hy =>
    (hy.keepT K1 fun b hb => by obtain ⟨cs, hc⟩ := T1 b hb; exact ⟨cs, _, hc, by decide, by decide⟩).keepT K2 fun b hb => by
      obtain ⟨cs, t, hc, rfl⟩ := T2 b hb; exact ⟨cs, _, hc, by decide, by decide⟩
  have hlen := h0.xlen
  have hold : ∀ y ∈ xs.flatMap KB.l, y < w0.heap.size := fun y hy => h0.fpLt y (by simp only [fpJ, List.mem_cons, List.mem_append]; exact .inr (.inr hy))
  refine ⟨⟨v', xs ++ [x], tb, tc, ⟨⟨by simp; omega, h0.ok.place, h0.ok.tail, h0.ok.last⟩, hS4.set 0 v', ?_, ?_, ?_, ?_⟩, ?_, fun k hk => .inl hk⟩, ?_⟩
  · have := own_keepT hown K2 fun b hb => by
      obtain ⟨cs, t, hc, rfl⟩ := T2 b hb; exact ⟨cs, _, hc, by decide⟩
    simpa using this
  · intro i y q hy hq
    rcases Nat.lt_or_ge i xs.length with hi | hi
    · rw [List.getElem?_append_left hi] at hy
      rw [List.getElem?_append_left (by omega)] at hq
      exact kk _ _ (h2.keys i y q hy hq)
    · rw [List.getElem?_append_right hi] at hy
      rw [List.getElem?_append_right (by omega)] at hq
      rw [hlen] at hy
      obtain h00 : i - j.keys.length = 0 := by
        have := (List.getElem?_eq_some_iff.1 hy).1
        simp at this; omega
      rw [h00] at hy hq
      simp only [List.getElem?_cons_zero, Option.some.injEq] at hy hq
      subst hy; subst hq
      exact kk _ _ hx
  · exact own_keepT (own_keepT h2.tail K1 fun b hb => by obtain ⟨cs, hc⟩ := T1 b hb; exact ⟨cs, _, hc, by decide⟩) K2 fun b hb => by
      obtain ⟨cs, t, hc, rfl⟩ := T2 b hb; exact ⟨cs, _, hc, by decide⟩
  · rw [List.flatMap_append]
    refine List.nodup_append.2 ⟨h0.nodup, by simpa using hnd, fun a ha b hb2 => ?_⟩
    have h1 := hold a ha
    have h3 := hxl b (by simpa using hb2)
    omega
  · intro b hb2
    simp only [fpJ, List.mem_cons, List.mem_append, List.flatMap_append, List.flatMap_cons, List.flatMap_nil, List.append_nil] at hb2 ⊢
    rcases hb2 with rfl | hb2 | hb2 | hb2
    · exact .inl (.inl rfl)
    · rw [mem_ob] at hb2
      rcases hl with e | e
      · exact .inl (.inr (.inl (by rw [mem_ob, ← e]; exact hb2)))
      · rw [e] at hb2
        injection hb2 with hb2
        exact .inr (by omega)
    · exact .inl (.inr (.inr hb2))
    · exact .inr (hxl b hb2)
  · refine (KeepL.of_below hb).trans ((K1.sub fun b hb => ?_).trans (K2.sub fun b hb => ?_))
    · simp [fpJ, hb]
    · rw [List.mem_singleton] at hb; subst hb; simp [fpJ]
theorem lt_alloc8 {w : World} {p : Addr} {v : Value} (h : w.cell? p = some v) (o : Obj) : (w.alloc o).drew.cell? p = some v := by
  have hl : p.block < w.heap.size := by
    rcases Nat.lt_or_ge p.block w.heap.size with h1 | h1
    · exact h1
    · unfold World.cell? at h
      rw [Array.getElem?_eq_none h1] at h
      cases h
  exact (World.cell?_of_block (w' := w.alloc o) (w := w) (a := p) (Below.heap_alloc w o p.block hl)).trans h
section
variable {w : World} {S : Nat} {j : Jn} {kv : Value} {xs : List KB} {tb : Option Addr} {tc : Nat}
set_option maxRecDepth 100000 in
theorem add_any (h : JnAt w S j kv xs tb tc) (id n : Nat) (A : Option Addr) (m c : Nat) (b : List Nat) (hm : m ≤ 1000) (hn0 : 1 ≤ n) (hn : n ≤ 1000) (hk : j.keys.length ≤ 1000) (hb : ∀ x ∈ b, x < 256) (hr : Rd w w.heap.size 1 A m (b.map fun x : Nat => Value.int .u8 x)) :
    Calls Tryz.prog 127 #[.pointer (some ⟨S, 0, none⟩), .int .i64 (id : Int), .int .i64 (n : Int), .slice A m c] w (StepP S kv xs tb [] (j.add id n b) w) := by
  have HU := Lib.hid (UnpB_any A m c n b w hm hn hb hr)
  have H := Lib.hid h
  have HJ : Hid (j.add id n b = (unpB b n).map fun bits => { j with keys := j.keys ++ [⟨id, bits, List.replicate n false⟩] }) := Lib.hid rfl
  have hmk := fun W => make_bl8 W n (by omega)
  clear h hr hb
  go_enter Tryz.func127, Tryz.ntmps127
  go_wp2_with fail
  refine HU.out.mono ?_
  clear HU
  rintro e w1 (⟨bs, A', c', h1, hbl, rfl, ho, hb⟩ | ⟨h1, ⟨z, hz, rfl⟩, hb⟩)
  · have HB := Lib.hid hb; have H1 := Lib.hid h1; have HO := Lib.hid ho; have HBL := Lib.hid hbl
    have HA := Lib.hid (H.out.far hb)
    clear hb h1 ho hbl
    rw [H1.out] at HJ
    go_upto_region 4 with fail
    have HC1 : Hid (w1.cell? ⟨S, 0, none⟩ = some kv) := Lib.hid (by rw [HA.out.cells]; rfl)
    obtain ⟨gb, cb, hA', hgb, hcb, sp, hbb⟩ : ∃ gb cb, A' = some ⟨gb, 0, none⟩ ∧ w.heap.size ≤ gb ∧ n ≤ c' ∧ ∃ s, Bk w1 gb (bs.map Value.bool ++ s).toArray 4 := by
      rcases HO.out.2 with ⟨_, h⟩ | ⟨g, cap, cur, e, h1, h2, h3, h4, h5, h6⟩
      · omega
      · injection e with e1 e2 e3
        subst e3
        refine ⟨g, 0, e1, h1, h3, cur.toList.drop n, ?_⟩
        rw [Nat.mul_one] at h6
        have : cur = (bs.map Value.bool ++ cur.toList.drop n).toArray := by
          rw [← h6, List.take_append_drop]
        rw [← this]
        exact h2
    have hb12 : Below w1.heap.size w1 ((w1.alloc (.cells (Array.replicate n (.bool false)) 4)).alloc (.cells #[.int .i64 (id : Int), .slice A' n c', .slice (some ⟨w1.heap.size, 0, none⟩) n n] 123)).drew := bnextK (bnextK (balloc _ _) (balloc _ _)) (below_drew8 _ _)
    have HB2 := Lib.hid (bnextK HB.out hb12)
    have HROW : Hid ((((w1.alloc (.cells (Array.replicate n (.bool false)) 4)).alloc (.cells #[.int .i64 (id : Int), .slice A' n c', .slice (some ⟨w1.heap.size, 0, none⟩) n n] 123)).drew).ownsRow 0 121 1 kv j.keys.length (xs.map KB.pv)) := Lib.hid (H.out.far HB2.out).row
    have HND : Hid ((KB.mk (w1.heap.size + 1) gb c' w1.heap.size n).l.Nodup) := Lib.hid (by
      have := hbb.lt
      simp [KB.l]; omega)
    have HXL : Hid (∀ b ∈ (KB.mk (w1.heap.size + 1) gb c' w1.heap.size n).l, w.heap.size ≤ b) := Lib.hid (by
      have := HB.out.size
      simp [KB.l]; omega)
    have HX : Hid (KyAt ((w1.alloc (.cells (Array.replicate n (.bool false)) 4)).alloc (.cells #[.int .i64 (id : Int), .slice A' n c', .slice (some ⟨w1.heap.size, 0, none⟩) n n] 123)).drew ⟨w1.heap.size + 1, gb, c', w1.heap.size, n⟩ ⟨id, bs, List.replicate n false⟩) := Lib.hid (by
      have hq : Below ((w1.alloc (.cells (Array.replicate n (.bool false)) 4)).alloc (.cells #[.int .i64 (id : Int), .slice A' n c', .slice (some ⟨w1.heap.size, 0, none⟩) n n] 123)).heap.size ((w1.alloc (.cells (Array.replicate n (.bool false)) 4)).alloc (.cells #[.int .i64 (id : Int), .slice A' n c', .slice (some ⟨w1.heap.size, 0, none⟩) n n] 123)) ((w1.alloc (.cells (Array.replicate n (.bool false)) 4)).alloc (.cells #[.int .i64 (id : Int), .slice A' n c', .slice (some ⟨w1.heap.size, 0, none⟩) n n] 123)).drew := below_drew8 _ _
      have hk1 := Bk.new w1 (Array.replicate n (.bool false)) 4
      have hk2 := Bk.new (w1.alloc (.cells (Array.replicate n (.bool false)) 4)) #[.int .i64 (id : Int), .slice A' n c', .slice (some ⟨w1.heap.size, 0, none⟩) n n] 123
      rw [World.size_alloc] at hk2
      refine ⟨?_, ⟨sp, hbb.past hb12 hbb.lt⟩, ⟨[], ?_⟩, ?_, ?_, ?_, ?_, ?_⟩
      · have := hk2.past hq (by simp)
        simp only [HBL.out, List.length_replicate]
        rw [← hA']
        exact this
      · have := (hk1.past (balloc (w1.alloc (.cells (Array.replicate n (.bool false)) 4)) (.cells #[.int .i64 (id : Int), .slice A' n c', .slice (some ⟨w1.heap.size, 0, none⟩) n n] 123)) hk1.lt).past hq (by simp; omega)
        simpa using this
      · simp [HBL.out]
      · simpa using hn0
      · simpa using hn
      · simpa [HBL.out] using hcb
      · simp)
    have HHH : Hid (w.heap.size ≤ ((w1.alloc (.cells (Array.replicate n (.bool false)) 4)).alloc (.cells #[.int .i64 (id : Int), .slice A' n c', .slice (some ⟨w1.heap.size, 0, none⟩) n n] 123)).drew.heap.size + 1) := Lib.hid (Nat.le_trans HB2.out.size (Nat.le_succ _))
    have HS4 : Hid (∀ W, World.grownBy ((w1.alloc (.cells (Array.replicate n (.bool false)) 4)).alloc (.cells #[.int .i64 (id : Int), .slice A' n c', .slice (some ⟨w1.heap.size, 0, none⟩) n n] 123)).drew W kv.ownBlock → W.cell? ⟨S, 0, none⟩ = some kv ∧ W.frozen? ⟨S, 0, none⟩ = false) := Lib.hid fun W hg => by
      have h2 := H.out.far HB2.out
      have := h2.blk.keepL (L := ob kv) (KeepL.grown hg fun q e _ => by rw [mem_ob]; exact e) fun hm => by
        obtain ⟨cs, hc⟩ := own_bk h2.row S hm
        exact hc.ne h2.blk (by decide) rfl
      exact ⟨by rw [this.cell]; rfl, this.froz 0⟩
    have HSZ2 : Hid (((w1.alloc (.cells (Array.replicate n (.bool false)) 4)).alloc (.cells #[.int .i64 (id : Int), .slice A' n c', .slice (some ⟨w1.heap.size, 0, none⟩) n n] 123)).drew.heap.size = w1.heap.size + 1 + 1) := Lib.hid (by show ((w1.alloc _).alloc _).heap.size = _; rw [World.size_alloc, World.size_alloc])
    clear hb12 hbb hgb hA'
    have c1 := HC1.out
    have c2 := lt_alloc8 c1 (.cells (Array.replicate n (.bool false)) 4)
    have c3 := lt_alloc8 c2 (.cells #[.int .i64 (id : Int), .slice A' n c', .slice (some ⟨w1.heap.size, 0, none⟩) n n] 123)
    have c4 := lt_alloc8 c3 (.cells #[.pointer (some ⟨w1.heap.size + 1, 0, none⟩)] 121)
    have c2' : (w1.alloc (.cells (Array.replicate n (.bool false)) 4)).cell? ⟨S, 0, none⟩ = some kv := c2
    have c3' : ((w1.alloc (.cells (Array.replicate n (.bool false)) 4)).alloc (.cells #[.int .i64 (id : Int), .slice A' n c', .slice (some ⟨w1.heap.size, 0, none⟩) n n] 123)).cell? ⟨S, 0, none⟩ = some kv := c3
    have c4' : (((w1.alloc (.cells (Array.replicate n (.bool false)) 4)).alloc (.cells #[.int .i64 (id : Int), .slice A' n c', .slice (some ⟨w1.heap.size, 0, none⟩) n n] 123)).alloc (.cells #[.pointer (some ⟨w1.heap.size + 1, 0, none⟩)] 121)).cell? ⟨S, 0, none⟩ = some kv := c4
    clear c2 c3 c4
    -- <REGION r4
    refine wp_region_held_drew (S := (fun _ => True)) (by kernel_rfl) ?_ (fun hHeld => ?_)
    · (try dsimp only); all_goals trivial
    refine wpAnyH_take (i := 0) (oi := ⟨some 19, _, _, _, _, _⟩) (v := ?_) rfl (by kernel_rfl) (by kernel_rfl) (by kernel_rfl) (fun _ _ _ h => h) (Or.inl ⟨by rfl, ?_⟩) (by assumption) ?_; rotate_left
    · intro w hSw; (try dsimp only at hSw); go_simp; try with_reducible rfl
    try simp only [Act.put, setIfInBounds_toArray, set_cons_zero, set_cons_succ]
    refine wpAnyH_take (i := 1) (oi := ⟨some 20, _, _, _, _, _⟩) (v := ?_) rfl (by kernel_rfl) (by kernel_rfl) (by kernel_rfl) (fun _ _ _ h => h) (Or.inl ⟨by rfl, ?_⟩) (by assumption) ?_; rotate_left
    · intro w hSw; (try dsimp only at hSw); go_simp; try with_reducible rfl
    try simp only [Act.put, setIfInBounds_toArray, set_cons_zero, set_cons_succ]
    refine wpAnyH_take (i := 2) (oi := ⟨some 21, _, _, _, _, _⟩) (v := ?_) rfl (by kernel_rfl) (by kernel_rfl) (by kernel_rfl) (fun _ _ _ h => h) (Or.inl ⟨by rfl, ?_⟩) (by assumption) ?_; rotate_left
    · intro w hSw; (try dsimp only at hSw); go_simp; try with_reducible rfl
    try simp only [Act.put, setIfInBounds_toArray, set_cons_zero, set_cons_succ]
    refine wpAnyH_take (i := 3) (oi := ⟨some 22, _, _, _, _, _⟩) (v := ?_) rfl (by kernel_rfl) (by kernel_rfl) (by kernel_rfl) (fun _ _ _ h => h) (Or.inl ⟨by rfl, ?_⟩) (by assumption) ?_; rotate_left
    · intro w hSw; (try dsimp only at hSw); go_simp; try with_reducible rfl
    try simp only [Act.put, setIfInBounds_toArray, set_cons_zero, set_cons_succ]
    refine wpAnyH_take (i := 5) (oi := ⟨some 24, _, _, _, _, _⟩) (v := ?_) rfl (by kernel_rfl) (by kernel_rfl) (by kernel_rfl) (fun _ _ _ h => h) (Or.inl ⟨by rfl, ?_⟩) (by assumption) ?_; rotate_left
    · intro w hSw; (try dsimp only at hSw); go_simp; try with_reducible rfl
    try simp only [Act.put, setIfInBounds_toArray, set_cons_zero, set_cons_succ]
    refine wpAnyH_take (i := 6) (oi := ⟨some 25, _, _, _, _, _⟩) (v := ?_) rfl (by kernel_rfl) (by kernel_rfl) (by kernel_rfl) (fun _ _ _ h => h) (Or.inl ⟨by rfl, ?_⟩) (by assumption) ?_; rotate_left
    · intro w hSw; (try dsimp only at hSw); go_simp; try with_reducible rfl
    try simp only [Act.put, setIfInBounds_toArray, set_cons_zero, set_cons_succ]
    refine wpAnyH_take (i := 7) (oi := ⟨some 26, _, _, _, _, _⟩) (v := ?_) rfl (by kernel_rfl) (by kernel_rfl) (by kernel_rfl) (fun _ _ _ h => h) (Or.inl ⟨by rfl, ?_⟩) (by assumption) ?_; rotate_left
    · intro w hSw; (try dsimp only at hSw); go_simp; try with_reducible rfl
    try simp only [Act.put, setIfInBounds_toArray, set_cons_zero, set_cons_succ]
    refine wpAnyH_ready (rs := [4, 8]) (by kernel_rfl) (by simp) ?_
    refine AllReadyH.cons (o := ⟨some 23, _, _, _, _, _⟩) rfl (fun K hK => ?_) ?_
    · skip
      go_simp
      refine hK.out _ _ ?_ (fun hHeld => ?_)
      · (try dsimp only); all_goals trivial
      clear hK K
      try simp only [Act.put, setIfInBounds_toArray, set_cons_zero, set_cons_succ]
      refine wpAnyH_ready (rs := [8]) (by kernel_rfl) (by simp) ?_
      refine AllReadyH.cons (o := ⟨some 27, _, _, _, _, _⟩) rfl (fun K hK => ?_) AllReadyH.nil
      go_simp
      refine hK.out _ _ ?_ (fun hHeld => ?_)
      · (try dsimp only); all_goals trivial
      clear hK K
      try simp only [Act.put, setIfInBounds_toArray, set_cons_zero, set_cons_succ]
      refine wpAnyH_take (i := 9) (oi := ⟨some 28, _, _, _, _, _⟩) (v := ?_) rfl (by kernel_rfl) (by kernel_rfl) (by kernel_rfl) (fun _ _ _ h => h) (Or.inl ⟨by rfl, ?_⟩) (by assumption) ?_; rotate_left
      · intro w hSw; (try dsimp only at hSw); go_simp; try with_reducible rfl
      try simp only [Act.put, setIfInBounds_toArray, set_cons_zero, set_cons_succ]
      refine wpAnyH_ready (rs := [10]) (by kernel_rfl) (by simp) ?_
      refine AllReadyH.cons (o := ⟨some 29, _, _, _, _, _⟩) rfl (fun K hK => ?_) AllReadyH.nil
      go_simp
      refine hK.out _ _ ?_ (fun hHeld => ?_)
      · (try dsimp only); all_goals trivial
      clear hK K
      try simp only [Act.put, setIfInBounds_toArray, set_cons_zero, set_cons_succ]
      refine wpAnyH_ready (rs := [11]) (by kernel_rfl) (by simp) ?_
      refine AllReadyH.cons (o := ⟨some 30, _, _, _, _, _⟩) rfl (fun K hK => ?_) AllReadyH.nil
      go_simp
      refine hK.out _ _ ?_ (fun hHeld => ?_)
      · (try dsimp only); all_goals trivial
      clear hK K
      try simp only [Act.put, setIfInBounds_toArray, set_cons_zero, set_cons_succ]
      refine wpAnyH_ready (rs := [12]) (by kernel_rfl) (by simp) ?_
      refine AllReadyH.cons (o := ⟨some 31, _, _, _, _, _⟩) rfl (fun K hK => ?_) AllReadyH.nil
      refine step_pushL8 elK8 (.tmp 23) (.tmp 30) (by rfl) (by rfl) 0 j.keys.length (xs.map KB.pv) (by rfl) HROW.out (by rw [HSZ2.out]; rfl) (by rfl) (one_cell1 rfl) (by omega) (by decide) (Nat.zero_le _) ?_
      intro v' w4 ho4 hb4 hg4 hl4
      obtain ⟨vA, vc, rfl, hvc⟩ := own_form ho4
      have HO4 := Lib.hid ho4; have HG4 := Lib.hid hg4; have HL4 := Lib.hid hl4
      have HC5 : Hid (w4.cell? ⟨S, 0, none⟩ = some kv ∧ w4.frozen? ⟨S, 0, none⟩ = false) := Lib.hid (HS4.out _ hg4)
      have c5 := HC5.out.1; have f5 := HC5.out.2
      clear ho4 hb4 hg4 hl4
      refine hK.out _ _ ?_ (fun hHeld => ?_)
      · (try dsimp only); all_goals trivial
      clear hK K
      try simp only [Act.put, setIfInBounds_toArray, set_cons_zero, set_cons_succ]
      refine wpAnyH_take (i := 13) (oi := ⟨some 32, _, _, _, _, _⟩) (v := ?_) rfl (by kernel_rfl) (by kernel_rfl) (by kernel_rfl) (fun _ _ _ h => h) (Or.inl ⟨by rfl, ?_⟩) (by assumption) ?_; rotate_left
      · intro w hSw; (try dsimp only at hSw); go_simp; try with_reducible rfl
      try simp only [Act.put, setIfInBounds_toArray, set_cons_zero, set_cons_succ]
      refine wpAnyH_take (i := 14) (oi := ⟨some 33, _, _, _, _, _⟩) (v := ?_) rfl (by kernel_rfl) (by kernel_rfl) (by kernel_rfl) (fun _ _ _ h => h) (Or.inl ⟨by rfl, ?_⟩) (by assumption) ?_; rotate_left
      · intro w hSw; (try dsimp only at hSw); go_simp; try with_reducible rfl
      try simp only [Act.put, setIfInBounds_toArray, set_cons_zero, set_cons_succ]
      refine wpAnyH_ready (rs := [15]) (by kernel_rfl) (by simp) ?_
      refine AllReadyH.cons (o := ⟨none, _, _, _, _, _⟩) rfl (fun K hK => ?_) AllReadyH.nil
      go_simp
      refine hK.out _ _ ?_ (fun hHeld => ?_)
      · (try dsimp only); all_goals trivial
      clear hK K
      try simp only [Act.put]
      refine wpAnyH_done (by kernel_rfl) ?_ _
      go_wp2_with fail
      go_ret
      exact .inl ⟨_, by rw [HJ.out]; rfl, rfl, H.out.added HB2.out HX.out HXL.out HND.out HO4.out HG4.out HL4.out HHH.out hk⟩
    refine AllReadyH.cons (o := ⟨some 27, _, _, _, _, _⟩) rfl (fun K hK => ?_) AllReadyH.nil
    go_simp
    refine hK.out _ _ ?_ (fun hHeld => ?_)
    · (try dsimp only); all_goals trivial
    clear hK K
    try simp only [Act.put, setIfInBounds_toArray, set_cons_zero, set_cons_succ]
    refine wpAnyH_take (i := 9) (oi := ⟨some 28, _, _, _, _, _⟩) (v := ?_) rfl (by kernel_rfl) (by kernel_rfl) (by kernel_rfl) (fun _ _ _ h => h) (Or.inl ⟨by rfl, ?_⟩) (by assumption) ?_; rotate_left
    · intro w hSw; (try dsimp only at hSw); go_simp; try with_reducible rfl
    try simp only [Act.put, setIfInBounds_toArray, set_cons_zero, set_cons_succ]
    refine wpAnyH_ready (rs := [4, 10]) (by kernel_rfl) (by simp) ?_
    refine AllReadyH.cons (o := ⟨some 23, _, _, _, _, _⟩) rfl (fun K hK => ?_) ?_
    · skip
      go_simp
      refine hK.out _ _ ?_ (fun hHeld => ?_)
      · (try dsimp only); all_goals trivial
      clear hK K
      try simp only [Act.put, setIfInBounds_toArray, set_cons_zero, set_cons_succ]
      refine wpAnyH_ready (rs := [10]) (by kernel_rfl) (by simp) ?_
      refine AllReadyH.cons (o := ⟨some 29, _, _, _, _, _⟩) rfl (fun K hK => ?_) AllReadyH.nil
      go_simp
      refine hK.out _ _ ?_ (fun hHeld => ?_)
      · (try dsimp only); all_goals trivial
      clear hK K
      try simp only [Act.put, setIfInBounds_toArray, set_cons_zero, set_cons_succ]
      refine wpAnyH_ready (rs := [11]) (by kernel_rfl) (by simp) ?_
      refine AllReadyH.cons (o := ⟨some 30, _, _, _, _, _⟩) rfl (fun K hK => ?_) AllReadyH.nil
      go_simp
      refine hK.out _ _ ?_ (fun hHeld => ?_)
      · (try dsimp only); all_goals trivial
      clear hK K
      try simp only [Act.put, setIfInBounds_toArray, set_cons_zero, set_cons_succ]
      refine wpAnyH_ready (rs := [12]) (by kernel_rfl) (by simp) ?_
      refine AllReadyH.cons (o := ⟨some 31, _, _, _, _, _⟩) rfl (fun K hK => ?_) AllReadyH.nil
      refine step_pushL8 elK8 (.tmp 23) (.tmp 30) (by rfl) (by rfl) 0 j.keys.length (xs.map KB.pv) (by rfl) HROW.out (by rw [HSZ2.out]; rfl) (by rfl) (one_cell1 rfl) (by omega) (by decide) (Nat.zero_le _) ?_
      intro v' w4 ho4 hb4 hg4 hl4
      obtain ⟨vA, vc, rfl, hvc⟩ := own_form ho4
      have HO4 := Lib.hid ho4; have HG4 := Lib.hid hg4; have HL4 := Lib.hid hl4
      have HC5 : Hid (w4.cell? ⟨S, 0, none⟩ = some kv ∧ w4.frozen? ⟨S, 0, none⟩ = false) := Lib.hid (HS4.out _ hg4)
      have c5 := HC5.out.1; have f5 := HC5.out.2
      clear ho4 hb4 hg4 hl4
      refine hK.out _ _ ?_ (fun hHeld => ?_)
      · (try dsimp only); all_goals trivial
      clear hK K
      try simp only [Act.put, setIfInBounds_toArray, set_cons_zero, set_cons_succ]
      refine wpAnyH_take (i := 13) (oi := ⟨some 32, _, _, _, _, _⟩) (v := ?_) rfl (by kernel_rfl) (by kernel_rfl) (by kernel_rfl) (fun _ _ _ h => h) (Or.inl ⟨by rfl, ?_⟩) (by assumption) ?_; rotate_left
      · intro w hSw; (try dsimp only at hSw); go_simp; try with_reducible rfl
      try simp only [Act.put, setIfInBounds_toArray, set_cons_zero, set_cons_succ]
      refine wpAnyH_take (i := 14) (oi := ⟨some 33, _, _, _, _, _⟩) (v := ?_) rfl (by kernel_rfl) (by kernel_rfl) (by kernel_rfl) (fun _ _ _ h => h) (Or.inl ⟨by rfl, ?_⟩) (by assumption) ?_; rotate_left
      · intro w hSw; (try dsimp only at hSw); go_simp; try with_reducible rfl
      try simp only [Act.put, setIfInBounds_toArray, set_cons_zero, set_cons_succ]
      refine wpAnyH_ready (rs := [15]) (by kernel_rfl) (by simp) ?_
      refine AllReadyH.cons (o := ⟨none, _, _, _, _, _⟩) rfl (fun K hK => ?_) AllReadyH.nil
      go_simp
      refine hK.out _ _ ?_ (fun hHeld => ?_)
      · (try dsimp only); all_goals trivial
      clear hK K
      try simp only [Act.put]
      refine wpAnyH_done (by kernel_rfl) ?_ _
      go_wp2_with fail
      go_ret
      exact .inl ⟨_, by rw [HJ.out]; rfl, rfl, H.out.added HB2.out HX.out HXL.out HND.out HO4.out HG4.out HL4.out HHH.out hk⟩
    refine AllReadyH.cons (o := ⟨some 29, _, _, _, _, _⟩) rfl (fun K hK => ?_) AllReadyH.nil
    go_simp
    refine hK.out _ _ ?_ (fun hHeld => ?_)
    · (try dsimp only); all_goals trivial
    clear hK K
    try simp only [Act.put, setIfInBounds_toArray, set_cons_zero, set_cons_succ]
    refine wpAnyH_ready (rs := [4, 11]) (by kernel_rfl) (by simp) ?_
    refine AllReadyH.cons (o := ⟨some 23, _, _, _, _, _⟩) rfl (fun K hK => ?_) ?_
    · skip
      go_simp
      refine hK.out _ _ ?_ (fun hHeld => ?_)
      · (try dsimp only); all_goals trivial
      clear hK K
      try simp only [Act.put, setIfInBounds_toArray, set_cons_zero, set_cons_succ]
      refine wpAnyH_ready (rs := [11]) (by kernel_rfl) (by simp) ?_
      refine AllReadyH.cons (o := ⟨some 30, _, _, _, _, _⟩) rfl (fun K hK => ?_) AllReadyH.nil
      go_simp
      refine hK.out _ _ ?_ (fun hHeld => ?_)
      · (try dsimp only); all_goals trivial
      clear hK K
      try simp only [Act.put, setIfInBounds_toArray, set_cons_zero, set_cons_succ]
      refine wpAnyH_ready (rs := [12]) (by kernel_rfl) (by simp) ?_
      refine AllReadyH.cons (o := ⟨some 31, _, _, _, _, _⟩) rfl (fun K hK => ?_) AllReadyH.nil
      refine step_pushL8 elK8 (.tmp 23) (.tmp 30) (by rfl) (by rfl) 0 j.keys.length (xs.map KB.pv) (by rfl) HROW.out (by rw [HSZ2.out]; rfl) (by rfl) (one_cell1 rfl) (by omega) (by decide) (Nat.zero_le _) ?_
      intro v' w4 ho4 hb4 hg4 hl4
      obtain ⟨vA, vc, rfl, hvc⟩ := own_form ho4
      have HO4 := Lib.hid ho4; have HG4 := Lib.hid hg4; have HL4 := Lib.hid hl4
      have HC5 : Hid (w4.cell? ⟨S, 0, none⟩ = some kv ∧ w4.frozen? ⟨S, 0, none⟩ = false) := Lib.hid (HS4.out _ hg4)
      have c5 := HC5.out.1; have f5 := HC5.out.2
      clear ho4 hb4 hg4 hl4
      refine hK.out _ _ ?_ (fun hHeld => ?_)
      · (try dsimp only); all_goals trivial
      clear hK K
      try simp only [Act.put, setIfInBounds_toArray, set_cons_zero, set_cons_succ]
      refine wpAnyH_take (i := 13) (oi := ⟨some 32, _, _, _, _, _⟩) (v := ?_) rfl (by kernel_rfl) (by kernel_rfl) (by kernel_rfl) (fun _ _ _ h => h) (Or.inl ⟨by rfl, ?_⟩) (by assumption) ?_; rotate_left
      · intro w hSw; (try dsimp only at hSw); go_simp; try with_reducible rfl
      try simp only [Act.put, setIfInBounds_toArray, set_cons_zero, set_cons_succ]
      refine wpAnyH_take (i := 14) (oi := ⟨some 33, _, _, _, _, _⟩) (v := ?_) rfl (by kernel_rfl) (by kernel_rfl) (by kernel_rfl) (fun _ _ _ h => h) (Or.inl ⟨by rfl, ?_⟩) (by assumption) ?_; rotate_left
      · intro w hSw; (try dsimp only at hSw); go_simp; try with_reducible rfl
      try simp only [Act.put, setIfInBounds_toArray, set_cons_zero, set_cons_succ]
      refine wpAnyH_ready (rs := [15]) (by kernel_rfl) (by simp) ?_
      refine AllReadyH.cons (o := ⟨none, _, _, _, _, _⟩) rfl (fun K hK => ?_) AllReadyH.nil
      go_simp
      refine hK.out _ _ ?_ (fun hHeld => ?_)
      · (try dsimp only); all_goals trivial
      clear hK K
      try simp only [Act.put]
      refine wpAnyH_done (by kernel_rfl) ?_ _
      go_wp2_with fail
      go_ret
      exact .inl ⟨_, by rw [HJ.out]; rfl, rfl, H.out.added HB2.out HX.out HXL.out HND.out HO4.out HG4.out HL4.out HHH.out hk⟩
    refine AllReadyH.cons (o := ⟨some 30, _, _, _, _, _⟩) rfl (fun K hK => ?_) AllReadyH.nil
    go_simp
    refine hK.out _ _ ?_ (fun hHeld => ?_)
    · (try dsimp only); all_goals trivial
    clear hK K
    try simp only [Act.put, setIfInBounds_toArray, set_cons_zero, set_cons_succ]
    refine wpAnyH_ready (rs := [4]) (by kernel_rfl) (by simp) ?_
    refine AllReadyH.cons (o := ⟨some 23, _, _, _, _, _⟩) rfl (fun K hK => ?_) AllReadyH.nil
    go_simp
    refine hK.out _ _ ?_ (fun hHeld => ?_)
    · (try dsimp only); all_goals trivial
    clear hK K
    try simp only [Act.put, setIfInBounds_toArray, set_cons_zero, set_cons_succ]
    refine wpAnyH_ready (rs := [12]) (by kernel_rfl) (by simp) ?_
    refine AllReadyH.cons (o := ⟨some 31, _, _, _, _, _⟩) rfl (fun K hK => ?_) AllReadyH.nil
    refine step_pushL8 elK8 (.tmp 23) (.tmp 30) (by rfl) (by rfl) 0 j.keys.length (xs.map KB.pv) (by rfl) HROW.out (by rw [HSZ2.out]; rfl) (by rfl) (one_cell1 rfl) (by omega) (by decide) (Nat.zero_le _) ?_
    intro v' w4 ho4 hb4 hg4 hl4
    obtain ⟨vA, vc, rfl, hvc⟩ := own_form ho4
    have HO4 := Lib.hid ho4; have HG4 := Lib.hid hg4; have HL4 := Lib.hid hl4
    have HC5 : Hid (w4.cell? ⟨S, 0, none⟩ = some kv ∧ w4.frozen? ⟨S, 0, none⟩ = false) := Lib.hid (HS4.out _ hg4)
    have c5 := HC5.out.1; have f5 := HC5.out.2
    clear ho4 hb4 hg4 hl4
    refine hK.out _ _ ?_ (fun hHeld => ?_)
    · (try dsimp only); all_goals trivial
    clear hK K
    try simp only [Act.put, setIfInBounds_toArray, set_cons_zero, set_cons_succ]
    refine wpAnyH_take (i := 13) (oi := ⟨some 32, _, _, _, _, _⟩) (v := ?_) rfl (by kernel_rfl) (by kernel_rfl) (by kernel_rfl) (fun _ _ _ h => h) (Or.inl ⟨by rfl, ?_⟩) (by assumption) ?_; rotate_left
    · intro w hSw; (try dsimp only at hSw); go_simp; try with_reducible rfl
    try simp only [Act.put, setIfInBounds_toArray, set_cons_zero, set_cons_succ]
    refine wpAnyH_take (i := 14) (oi := ⟨some 33, _, _, _, _, _⟩) (v := ?_) rfl (by kernel_rfl) (by kernel_rfl) (by kernel_rfl) (fun _ _ _ h => h) (Or.inl ⟨by rfl, ?_⟩) (by assumption) ?_; rotate_left
    · intro w hSw; (try dsimp only at hSw); go_simp; try with_reducible rfl
    try simp only [Act.put, setIfInBounds_toArray, set_cons_zero, set_cons_succ]
    refine wpAnyH_ready (rs := [15]) (by kernel_rfl) (by simp) ?_
    refine AllReadyH.cons (o := ⟨none, _, _, _, _, _⟩) rfl (fun K hK => ?_) AllReadyH.nil
    go_simp
    refine hK.out _ _ ?_ (fun hHeld => ?_)
    · (try dsimp only); all_goals trivial
    clear hK K
    try simp only [Act.put]
    refine wpAnyH_done (by kernel_rfl) ?_ _
    go_wp2_with fail
    go_ret
    exact .inl ⟨_, by rw [HJ.out]; rfl, rfl, H.out.added HB2.out HX.out HXL.out HND.out HO4.out HG4.out HL4.out HHH.out hk⟩
    -- REGION>
  · have HB := Lib.hid hb; have H1 := Lib.hid h1
    have hz1 : (z != 0) = true := by simpa using hz
    clear hb h1
    go_wp2_with fail
    go_ret
    exact .inr ⟨by rw [HJ.out, H1.out]; rfl, rfl, HB.out⟩
end
end Go.Proofs.YtdgmjedkhjeadaaGreat
namespace Go.Proofs.YtdgmjedkhjeadaaGreat
open List (setIfInBounds_toArray set_cons_zero set_cons_succ)
open Go.RowKit
set_option linter.unusedVariables false
def Jn.keyR (j : Jn) (r : Rc) : Option Jn := if r.id ≤ j.last then none else if 320 < r.a then some { j with last := r.id } else Jn.add { j with last := r.id } r.id r.a r.bits
def Jn.openR (j : Jn) (r : Rc) : Option Jn := if j.ready = true ∨ r.id < j.last then none else some { j with last := r.id, ready := true, age := r.epoch, side := r.a }
section
variable {w w' : World} {S : Nat} {j : Jn} {kv : Value} {xs : List KB} {tb : Option Addr} {tc : Nat}
theorem JnAt.notS (h : JnAt w S j kv xs tb tc) : S ∉ ob kv ∧ S ∉ xs.flatMap KB.l ∧ S ∉ obT tb := by
  refine ⟨fun hm => ?_, fun hm => ?_, fun hm => ?_⟩
  · obtain ⟨cs, hc⟩ := own_bk h.row S hm
    exact hc.ne h.blk (by decide) rfl
  · obtain ⟨x, hx, hk⟩ := List.mem_flatMap.1 hm
    obtain ⟨i, hi, rfl⟩ := List.mem_iff_getElem.1 hx
    have hi2 : i < j.keys.length := by rw [← h.xlen]; exact hi
    have hq := h.keys i _ _ (List.getElem?_eq_getElem hi) (List.getElem?_eq_getElem hi2)
    simp only [KB.l, List.mem_cons, List.not_mem_nil, or_false] at hk
    obtain ⟨s, hs⟩ := hq.bits
    obtain ⟨u, hu⟩ := hq.used
    rcases hk with e | e | e
    · exact h.blk.ne hq.blk (by decide) e
    · exact h.blk.ne hs (by decide) e
    · exact h.blk.ne hu (by decide) e
  · obtain ⟨cs, hc⟩ := own_bk h.tail S (by rw [ob_tb]; exact hm)
    exact hc.ne h.blk (by decide) rfl
/-- The state's own block is written. -/
theorem JnAt.own (h : JnAt w S j kv xs tb tc) (hk : KeepL [S] w w') {j' : Jn} {tb' : Option Addr} {tc' : Nat} (hb : Bk w' S (stC kv j' tb' tc') 117) (hok : JnOK j') (e : j'.keys = j.keys) (ht : BytR w' tb' tc' j'.tail.bits) : JnAt w' S j' kv xs tb' tc' := by
  obtain ⟨n1, n2, n3⟩ := h.notS
  refine ⟨hok, hb, ?_, ?_, ht, h.nodup⟩
  · rw [e]
    exact ownsRow_keepB h.row hk fun k hk hm => by rw [List.mem_singleton] at hm; exact n1 (hm ▸ hk)
  · rw [e]
    exact fun i x k hx hy => (h.keys i x k hx hy).keepL hk fun b hb hm => by
      rw [List.mem_singleton] at hm
      exact n2 (List.mem_flatMap.2 ⟨x, List.mem_of_getElem? hx, hm ▸ hb⟩)
theorem JnAt.tailKeep (h : JnAt w S j kv xs tb tc) (hk : KeepL [S] w w') : BytR w' tb tc j.tail.bits :=
  ownsRow_keepB h.tail hk fun k hk hm => by
    rw [List.mem_singleton] at hm
    rw [ob_tb] at hk
    exact h.notS.2.2 (hm ▸ hk)
theorem JnAt.setLast (h : JnAt w S j kv xs tb tc) (id : Nat) (hid : id < 4611686018427387904) : JnAt (w.setCell ⟨S, 1, none⟩ (.int .i64 (id : Int))) S { j with last := id } kv xs tb tc ∧ KeepL [S] w (w.setCell ⟨S, 1, none⟩ (.int .i64 (id : Int))) :=
  ⟨h.own (KeepL.set _ _ _ _) (h.blk.set 1 (.int .i64 (id : Int))) ⟨h.ok.keys, h.ok.place, h.ok.tail, hid⟩ rfl (h.tailKeep (KeepL.set _ _ _ _)), KeepL.set _ _ _ _⟩
theorem JnMut.fromS {w1 : World} (h : JnAt w S j kv xs tb tc) (hb : Below w.heap.size w w1) (hk : KeepL [S] w1 w') {j' : Jn} (h2 : JnAt w' S j' kv xs tb tc) (X : List Nat) : JnMut w w' S kv xs tb X j' :=
  ⟨⟨kv, xs, tb, tc, h2, fun k hk => .inl hk, fun k hk => .inl hk⟩, (KeepL.of_below hb).trans (hk.sub (by simp [fpJ]))⟩
theorem byt_rd {A : Option Addr} {c : Nat} {l : List Nat} (h : BytR w A c l) : Rd w w.heap.size 1 A l.length (l.map fun x : Nat => Value.int .u8 x) := Rd.own h
theorem BytR.far {A : Option Addr} {c : Nat} {l : List Nat} (h : BytR w A c l) (hb : Below w.heap.size w w') : BytR w' A c l := ownsRow_keepB (L := []) h (.of_below hb) (by simp)
theorem BytR.keepS {A : Option Addr} {c : Nat} {l : List Nat} (hj : JnAt w S j kv xs tb tc) (h : BytR w A c l) (hk : KeepL [S] w w') : BytR w' A c l :=
  own_keepT h hk fun b hb => by
    rw [List.mem_singleton] at hb; subst hb
    exact ⟨_, _, hj.blk, by decide⟩
/-- A state, and a record in its box. -/
structure StR (w : World) (g S : Nat) (r : Rc) (A : Option Addr) (c : Nat) (j : Jn) (kv : Value) (xs : List KB) (tb : Option Addr) (tc : Nat) : Prop where
  rb : Bk w g (recC r A c) 115
  js : JnAt w S j kv xs tb tc
  rr : BytR w A c r.bits
theorem StR.new (h : JnAt w S j kv xs tb tc) {r : Rc} {A : Option Addr} {c : Nat} (hr : BytR w A c r.bits) : StR (w.alloc (.cells (recC r A c) 115)) w.heap.size S r A c j kv xs tb tc :=
  ⟨Bk.new _ _ _, h.far (balloc _ _), hr.far (balloc _ _)⟩
section
variable {g : Nat} {r : Rc} {A : Option Addr} {c : Nat}
theorem StR.far (h : StR w g S r A c j kv xs tb tc) (hb : Below w.heap.size w w') : StR w' g S r A c j kv xs tb tc := ⟨h.rb.past hb h.rb.lt, h.js.far hb, h.rr.far hb⟩
theorem StR.ne (h : StR w g S r A c j kv xs tb tc) : g ≠ S := h.rb.ne h.js.blk (by decide)
theorem StR.setS (h : StR w g S r A c j kv xs tb tc) (hk : KeepL [S] w w') {j' : Jn} (h2 : JnAt w' S j' kv xs tb tc) : StR w' g S r A c j' kv xs tb tc :=
  ⟨h.rb.keepL hk (by simpa using h.ne), h2, BytR.keepS h.js h.rr hk⟩
theorem StR.r0 (h : StR w g S r A c j kv xs tb tc) : w.cell? ⟨g, 0, none⟩ = some (.int .i64 (r.epoch : Int)) := h.rb.cell 0
theorem StR.r1 (h : StR w g S r A c j kv xs tb tc) : w.cell? ⟨g, 1, none⟩ = some (.int .i64 (r.kind : Int)) := h.rb.cell 1
theorem StR.r2 (h : StR w g S r A c j kv xs tb tc) : w.cell? ⟨g, 2, none⟩ = some (.int .i64 (r.id : Int)) := h.rb.cell 2
theorem StR.r3 (h : StR w g S r A c j kv xs tb tc) : w.cell? ⟨g, 3, none⟩ = some (.int .i64 (r.a : Int)) := h.rb.cell 3
theorem StR.r4 (h : StR w g S r A c j kv xs tb tc) : w.cell? ⟨g, 4, none⟩ = some (.int .i64 (r.b : Int)) := h.rb.cell 4
theorem StR.r5 (h : StR w g S r A c j kv xs tb tc) : w.cell? ⟨g, 5, none⟩ = some (.slice A r.bits.length c) := h.rb.cell 5
theorem StR.s0 (h : StR w g S r A c j kv xs tb tc) : w.cell? ⟨S, 0, none⟩ = some kv := h.js.blk.cell 0
theorem StR.s1 (h : StR w g S r A c j kv xs tb tc) : w.cell? ⟨S, 1, none⟩ = some (.int .i64 (j.last : Int)) := h.js.blk.cell 1
theorem StR.s2 (h : StR w g S r A c j kv xs tb tc) : w.cell? ⟨S, 2, none⟩ = some (.bool j.ready) := h.js.blk.cell 2
theorem StR.s3 (h : StR w g S r A c j kv xs tb tc) : w.cell? ⟨S, 3, none⟩ = some (.int .i64 (j.age : Int)) := h.js.blk.cell 3
theorem StR.s4 (h : StR w g S r A c j kv xs tb tc) : w.cell? ⟨S, 4, none⟩ = some (.int .i64 (j.side : Int)) := h.js.blk.cell 4
theorem StR.f (h : StR w g S r A c j kv xs tb tc) (i : Nat) : w.frozen? ⟨S, i, none⟩ = false := h.js.blk.froz i
end
theorem rc_lit (w : World) (r : Rc) (A : Option Addr) (c : Nat) : w.alloc (.cells #[.int .i64 (r.epoch : Int), .int .i64 (r.kind : Int), .int .i64 (r.id : Int), .int .i64 (r.a : Int), .int .i64 (r.b : Int), .slice A r.bits.length c] 115) = w.alloc (.cells (recC r A c) 115) := rfl
set_option maxRecDepth 100000 in
theorem key_any (h : JnAt w S j kv xs tb tc) (r : Rc) (A : Option Addr) (c : Nat) (X : List Nat) (ho : RcOK r) (ha : r.a ≤ 512) (hs : r.a ≤ 320 → 1 ≤ r.a ∧ (unpB r.bits r.a).isSome = true) (hk : j.keys.length ≤ 1000) (hr : BytR w A c r.bits) :
    Calls Tryz.prog 107 #[.pointer (some ⟨S, 0, none⟩), recV r A c] w (StepP S kv xs tb X (j.keyR r) w) := by
  have HN := Lib.hid (StR.new h hr)
  have H := Lib.hid h; have HO := Lib.hid ho; have HS := Lib.hid hs
  clear h hr ho hs
  unfold recV
  go_enter Tryz.func107, Tryz.ntmps107
  go_upto_region 1 with fail
  rw [rc_lit]
  obtain ⟨w1, hw1⟩ : ∃ z, z = w.alloc (.cells (recC r A c) 115) := ⟨_, rfl⟩
  rw [← hw1] at HN ⊢
  have HB1 : Hid (Below w.heap.size w w1) := Lib.hid (by rw [hw1]; exact balloc _ _)
  obtain ⟨g, hg⟩ : ∃ g, g = w.heap.size := ⟨_, rfl⟩
  have HG := Lib.hid hg
  rw [← hg] at HN ⊢
  have a2 := HN.out.r2
  have s1 := HN.out.s1
  clear hw1 hg
  by_cases c1 : r.id ≤ j.last
  · have c1i : (r.id : Int) ≤ (j.last : Int) := by omega
    have HQ : Hid (j.keyR r = none) := Lib.hid (by unfold Jn.keyR; rw [if_pos c1])
    go_quiet (fail)
    go_wp2_with fail
    go_ret
    exact .inr ⟨HQ.out, rfl, bnextK HB1.out (Qw.below ⟨_, rfl⟩ _)⟩
  · have c1i : ¬ (r.id : Int) ≤ (j.last : Int) := by omega
    go_quiet (fail)
    obtain ⟨v1, hv1⟩ : ∃ z, z = w1.drewN nq := ⟨_, rfl⟩
    rw [← hv1]
    have HV1 : Hid (StR v1 g S r A c j kv xs tb tc ∧ Below w.heap.size w v1) := Lib.hid (by
      have hq : Below w1.heap.size w1 v1 := by rw [hv1]; exact Qw.below ⟨_, rfl⟩ _
      exact ⟨HN.out.far hq, bnextK HB1.out hq⟩)
    clear hv1 a2 s1
    have a2 := HV1.out.1.r2
    have s1 := HV1.out.1.s1
    have f1 := HV1.out.1.f 1
    have hsl := HV1.out.1.js.setLast r.id HO.out.id
    have HSL := Lib.hid (HV1.out.1.setS hsl.2 hsl.1); have HKL := Lib.hid hsl.2
    clear hsl
    go_upto_region 4 with fail
    obtain ⟨w2, hw2⟩ : ∃ z, z = v1.setCell ⟨S, 1, none⟩ (.int .i64 (r.id : Int)) := ⟨_, rfl⟩
    rw [← hw2] at HSL HKL ⊢
    clear hw2 a2 s1 f1
    have a2 := HSL.out.r2
    have a3 := HSL.out.r3
    have a5 := HSL.out.r5
    have HMF : Hid (∀ w3 X j', JnMut w2 w3 S kv xs tb X j' → JnMut w w3 S kv xs tb X j') := Lib.hid fun w3 X j' hm =>
      JnMut.trans (fun k hk => .inl hk) (fun k hk => .inl hk) ((KeepL.of_below HV1.out.2).trans (HKL.out.sub (by simp [fpJ]))) hm (fun k hk => .inl hk)
    by_cases c2 : 320 < r.a
    · have c2i : (320 : Int) < (r.a : Int) := by omega
      have HQ : Hid (j.keyR r = some { j with last := r.id }) := Lib.hid (by unfold Jn.keyR; rw [if_neg c1, if_pos c2])
      go_wp2_with fail
      go_ret
      exact .inl ⟨_, HQ.out, rfl, HMF.out _ _ _ (HSL.out.js.same X (Below.refl _ _))⟩
    · have c2i : ¬ (320 : Int) < (r.a : Int) := by omega
      obtain ⟨hs1, hs2⟩ := HS.out (by omega)
      have HQ : Hid (j.keyR r = Jn.add { j with last := r.id } r.id r.a r.bits) := Lib.hid (by unfold Jn.keyR; rw [if_neg c1, if_neg c2])
      have HAD := Lib.hid (add_any HSL.out.js r.id r.a A r.bits.length c r.bits HO.out.len hs1 (by omega) hk HO.out.bits (byt_rd HSL.out.rr))
      have HQN : Hid (Jn.add { j with last := r.id } r.id r.a r.bits ≠ none) := Lib.hid (by
        unfold Jn.add
        cases hu : unpB r.bits r.a with
        | none => rw [hu] at hs2; cases hs2
        | some _ => simp)
      go_wp2_with fail
      refine HAD.out.mono ?_
      rintro e w3 (⟨j', h1, rfl, h3⟩ | ⟨h1, rfl, h3⟩)
      · have HJ := Lib.hid h1; have HM := Lib.hid h3
        clear h1 h3
        go_wp2_with fail
        go_ret
        refine .inl ⟨_, HQ.out.trans HJ.out, rfl, HMF.out _ _ _ ?_⟩
        obtain ⟨⟨kv', xs', tb', tc', q1, q2, q3⟩, q4⟩ := HM.out
        exact ⟨⟨kv', xs', tb', tc', q1, q2, fun k hk => by
          rcases q3 k hk with h | h | h
          · exact .inl h
          · cases h
          · exact .inr (.inr h)⟩, q4⟩
      · exact absurd h1 HQN.out
end
end Go.Proofs.YtdgmjedkhjeadaaGreat
namespace Go.Proofs.YtdgmjedkhjeadaaGreat
open List (setIfInBounds_toArray set_cons_zero set_cons_succ)
open Go.RowKit
set_option linter.unusedVariables false
set_option linter.unusedSimpArgs false
theorem cell_set8 {g S : Nat} (w : World) (i : Nat) (v : Value) (h : g ≠ S) (o : Nat) : (w.setCell ⟨S, i, none⟩ v).cell? ⟨g, o, none⟩ = w.cell? ⟨g, o, none⟩ :=
  World.cell?_of_block (w' := w.setCell ⟨S, i, none⟩ v) (w := w) (a := ⟨g, o, none⟩) (Below.heap_setCell _ _ _ _ h)
theorem drew_cell8 (w : World) (p : Addr) : w.drew.cell? p = w.cell? p := rfl
def Jn.claimR (j : Jn) (r : Rc) : Option Jn :=
  match findK j.keys r.id with
  | none => none
  | some i =>
    let k := j.keys.getD i ⟨0, [], []⟩
    if r.b ≤ r.a ∨ k.used.length < r.b ∨ true ∈ (k.used.drop r.a).take (r.b - r.a) then none
    else some { j with keys := j.keys.set i { k with used := markU k.used r.a r.b } }
section
variable {w w' : World} {S : Nat} {j : Jn} {kv : Value} {xs : List KB} {tb : Option Addr} {tc : Nat}
theorem JnAt.setOpen (h : JnAt w S j kv xs tb tc) (id e a : Nat) (hid : id < 4611686018427387904) : JnAt ((((w.setCell ⟨S, 1, none⟩ (.int .i64 (id : Int))).setCell ⟨S, 2, none⟩ (.bool true)).setCell ⟨S, 3, none⟩ (.int .i64 (e : Int))).setCell ⟨S, 4, none⟩ (.int .i64 (a : Int))) S { j with last := id, ready := true, age := e, side := a } kv xs tb tc ∧
    KeepL [S] w ((((w.setCell ⟨S, 1, none⟩ (.int .i64 (id : Int))).setCell ⟨S, 2, none⟩ (.bool true)).setCell ⟨S, 3, none⟩ (.int .i64 (e : Int))).setCell ⟨S, 4, none⟩ (.int .i64 (a : Int))) := by
  have hk : KeepL [S] w ((((w.setCell ⟨S, 1, none⟩ (.int .i64 (id : Int))).setCell ⟨S, 2, none⟩ (.bool true)).setCell ⟨S, 3, none⟩ (.int .i64 (e : Int))).setCell ⟨S, 4, none⟩ (.int .i64 (a : Int))) := (((KeepL.set _ _ _ _).trans (KeepL.set _ _ _ _)).trans (KeepL.set _ _ _ _)).trans (KeepL.set _ _ _ _)
  exact ⟨h.own hk ((((h.blk.set 1 (.int .i64 (id : Int))).set 2 (.bool true)).set 3 (.int .i64 (e : Int))).set 4 (.int .i64 (a : Int))) ⟨h.ok.keys, h.ok.place, h.ok.tail, hid⟩ rfl (h.tailKeep hk), hk⟩
theorem JnMut.below {X : List Nat} {j' : Jn} {w1 : World} (h : JnMut w w1 S kv xs tb X j') (hb : Below w1.heap.size w1 w') : JnMut w w' S kv xs tb X j' := by
  obtain ⟨⟨kv', xs', tb', tc', q1, q2, q3⟩, q4⟩ := h
  exact ⟨⟨kv', xs', tb', tc', q1.far hb, q2, q3⟩, q4.trans (.of_below hb)⟩
set_option maxRecDepth 100000 in
theorem open_any8 (h : JnAt w S j kv xs tb tc) (r : Rc) (A : Option Addr) (c : Nat) (X : List Nat) (ho : RcOK r) (hr : BytR w A c r.bits) :
    Calls Tryz.prog 111 #[.pointer (some ⟨S, 0, none⟩), recV r A c] w (StepP S kv xs tb X (j.openR r) w) := by
  have HN := Lib.hid (StR.new h hr)
  have H := Lib.hid h; have HO := Lib.hid ho
  clear h hr ho
  unfold recV
  go_enter Tryz.func111, Tryz.ntmps111
  go_upto_region 1 with fail
  rw [rc_lit]
  obtain ⟨w1, hw1⟩ : ∃ z, z = w.alloc (.cells (recC r A c) 115) := ⟨_, rfl⟩
  rw [← hw1] at HN ⊢
  have HB1 : Hid (Below w.heap.size w w1) := Lib.hid (by rw [hw1]; exact balloc _ _)
  obtain ⟨g, hg⟩ : ∃ g, g = w.heap.size := ⟨_, rfl⟩
  have HG := Lib.hid hg
  rw [← hg] at HN ⊢
  have a2 := HN.out.r2
  have s1 := HN.out.s1
  have s2 := HN.out.s2
  clear hw1 hg
  cases hrd : j.ready with
  | true =>
    rw [hrd] at s2
    have HQ : Hid (j.openR r = none) := Lib.hid (by unfold Jn.openR; rw [if_pos (.inl hrd)])
    clear hrd
    go_quiet (fail)
    go_wp2_with fail
    go_ret
    exact .inr ⟨HQ.out, rfl, bnextK HB1.out (Qw.below ⟨_, rfl⟩ _)⟩
  | false =>
    rw [hrd] at s2
    by_cases c1 : r.id < j.last
    · have c1i : decide ((r.id : Int) < (j.last : Int)) = true := decide_eq_true (by omega)
      have HQ : Hid (j.openR r = none) := Lib.hid (by unfold Jn.openR; rw [if_pos (.inr c1)])
      clear hrd
      go_quiet (fail)
      go_wp2_with fail
      go_ret
      exact .inr ⟨HQ.out, rfl, bnextK HB1.out (Qw.below ⟨_, rfl⟩ _)⟩
    · have c1i : decide ((r.id : Int) < (j.last : Int)) = false := decide_eq_false (by omega)
      have HQ : Hid (j.openR r = some { j with last := r.id, ready := true, age := r.epoch, side := r.a }) := Lib.hid (by unfold Jn.openR; rw [if_neg (by rw [hrd]; simp; omega)])
      clear hrd
      go_quiet (fail)
      obtain ⟨v1, hv1⟩ : ∃ z, z = w1.drewN nq := ⟨_, rfl⟩
      rw [← hv1]
      have HV1 : Hid (StR v1 g S r A c j kv xs tb tc ∧ Below w.heap.size w v1) := Lib.hid (by
        have hq : Below w1.heap.size w1 v1 := by rw [hv1]; exact Qw.below ⟨_, rfl⟩ _
        exact ⟨HN.out.far hq, bnextK HB1.out hq⟩)
      clear hv1 a2 s1 s2
      have q0 := HV1.out.1.r0
      have q2 := HV1.out.1.r2
      have q3 := HV1.out.1.r3
      have s1 := HV1.out.1.s1
      have s2 := HV1.out.1.s2
      have s3 := HV1.out.1.s3
      have s4 := HV1.out.1.s4
      have f1 := HV1.out.1.f 1
      have f2 := HV1.out.1.f 2
      have f3 := HV1.out.1.f 3
      have f4 := HV1.out.1.f 4
      have hne := HV1.out.1.ne
      go_upto_region 3 with fail
      have HS : Hid (v1.cell? ⟨g, 0, none⟩ = some (.int .i64 (r.epoch : Int)) ∧ v1.cell? ⟨g, 2, none⟩ = some (.int .i64 (r.id : Int)) ∧ v1.cell? ⟨g, 3, none⟩ = some (.int .i64 (r.a : Int)) ∧ g ≠ S) := Lib.hid ⟨q0, q2, q3, hne⟩
      clear q0 q2 q3
      -- <REGION r3
      refine wp_region_held_drew (S := (fun W => W.cell? ⟨g, 0, none⟩ = some (.int .i64 (r.epoch : Int)) ∧ W.cell? ⟨g, 2, none⟩ = some (.int .i64 (r.id : Int)) ∧ W.cell? ⟨g, 3, none⟩ = some (.int .i64 (r.a : Int)) ∧ g ≠ S)) (by kernel_rfl) ?_ (fun hHeld => ?_)
      · (try dsimp only); refine ⟨?_, ?_, ?_, HS.out.2.2.2⟩ <;> simp only [drew_cell8, cell_set8 _ _ _ HS.out.2.2.2, HS.out.1, HS.out.2.1, HS.out.2.2.1]
      refine wpAnyH_take (i := 0) (oi := ⟨some 18, _, _, _, _, _⟩) (v := ?_) rfl (by kernel_rfl) (by kernel_rfl) (by kernel_rfl) (fun _ _ _ h => h) (Or.inl ⟨by rfl, ?_⟩) (by assumption) ?_; rotate_left
      · intro w hSw; (try dsimp only at hSw); go_simp; try with_reducible rfl
      try simp only [Act.put, setIfInBounds_toArray, set_cons_zero, set_cons_succ]
      refine wpAnyH_take (i := 1) (oi := ⟨some 19, _, _, _, _, _⟩) (v := ?_) rfl (by kernel_rfl) (by kernel_rfl) (by kernel_rfl) (fun _ _ _ h => h) (Or.inl ⟨by rfl, ?_⟩) (by assumption) ?_; rotate_left
      · intro w hSw; (try dsimp only at hSw); go_simp; try with_reducible rfl
      try simp only [Act.put, setIfInBounds_toArray, set_cons_zero, set_cons_succ]
      refine wpAnyH_take (i := 2) (oi := ⟨some 20, _, _, _, _, _⟩) (v := ?_) rfl (by kernel_rfl) (by kernel_rfl) (by kernel_rfl) (fun _ _ _ h => h) (Or.inl ⟨by rfl, ?_⟩) (by assumption) ?_; rotate_left
      · intro w hSw; (try dsimp only at hSw); go_simp; try with_reducible rfl
      try simp only [Act.put, setIfInBounds_toArray, set_cons_zero, set_cons_succ]
      refine wpAnyH_take (i := 3) (oi := ⟨some 21, _, _, _, _, _⟩) (v := ?_) rfl (by kernel_rfl) (by kernel_rfl) (by kernel_rfl) (fun _ _ _ h => h) (Or.inl ⟨by rfl, ?_⟩) (by assumption) ?_; rotate_left
      · intro w hSw; (try dsimp only at hSw); go_simp; try with_reducible rfl
      try simp only [Act.put, setIfInBounds_toArray, set_cons_zero, set_cons_succ]
      refine wpAnyH_take (i := 4) (oi := ⟨some 22, _, _, _, _, _⟩) (v := ?_) rfl (by kernel_rfl) (by kernel_rfl) (by kernel_rfl) (fun _ _ _ h => h) (Or.inl ⟨by rfl, ?_⟩) (by assumption) ?_; rotate_left
      · intro w hSw; (try dsimp only at hSw); go_simp; try with_reducible rfl
      try simp only [Act.put, setIfInBounds_toArray, set_cons_zero, set_cons_succ]
      refine wpAnyH_take (i := 5) (oi := ⟨some 23, _, _, _, _, _⟩) (v := ?_) rfl (by kernel_rfl) (by kernel_rfl) (by kernel_rfl) (fun _ _ _ h => h) (Or.inl ⟨by rfl, ?_⟩) (by assumption) ?_; rotate_left
      · intro w hSw; (try dsimp only at hSw); go_simp; try with_reducible rfl
      try simp only [Act.put, setIfInBounds_toArray, set_cons_zero, set_cons_succ]
      refine wpAnyH_take (i := 6) (oi := ⟨some 24, _, _, _, _, _⟩) (v := ?_) rfl (by kernel_rfl) (by kernel_rfl) (by kernel_rfl) (fun _ _ _ h => h) (Or.inl ⟨by rfl, ?_⟩) (by assumption) ?_; rotate_left
      · intro w hSw; (try dsimp only at hSw); go_simp; try with_reducible rfl
      try simp only [Act.put, setIfInBounds_toArray, set_cons_zero, set_cons_succ]
      refine wpAnyH_take (i := 7) (oi := ⟨some 25, _, _, _, _, _⟩) (v := ?_) rfl (by kernel_rfl) (by kernel_rfl) (by kernel_rfl) (fun _ _ _ h => h) (Or.inl ⟨by rfl, ?_⟩) (by assumption) ?_; rotate_left
      · intro w hSw; (try dsimp only at hSw); go_simp; try with_reducible rfl
      try simp only [Act.put, setIfInBounds_toArray, set_cons_zero, set_cons_succ]
      refine wpAnyH_take (i := 8) (oi := ⟨some 26, _, _, _, _, _⟩) (v := ?_) rfl (by kernel_rfl) (by kernel_rfl) (by kernel_rfl) (fun _ _ _ h => h) (Or.inl ⟨by rfl, ?_⟩) (by assumption) ?_; rotate_left
      · intro w hSw; (try dsimp only at hSw); go_simp; try with_reducible rfl
      try simp only [Act.put, setIfInBounds_toArray, set_cons_zero, set_cons_succ]
      refine wpAnyH_take (i := 9) (oi := ⟨some 27, _, _, _, _, _⟩) (v := ?_) rfl (by kernel_rfl) (by kernel_rfl) (by kernel_rfl) (fun _ _ _ h => h) (Or.inl ⟨by rfl, ?_⟩) (by assumption) ?_; rotate_left
      · intro w hSw; (try dsimp only at hSw); go_simp; try with_reducible rfl
      try simp only [Act.put, setIfInBounds_toArray, set_cons_zero, set_cons_succ]
      refine wpAnyH_take (i := 10) (oi := ⟨some 28, _, _, _, _, _⟩) (v := ?_) rfl (by kernel_rfl) (by kernel_rfl) (by kernel_rfl) (fun _ _ _ h => h) (Or.inl ⟨by rfl, ?_⟩) (by assumption) ?_; rotate_left
      · intro w hSw; (try dsimp only at hSw); go_simp; try with_reducible rfl
      try simp only [Act.put, setIfInBounds_toArray, set_cons_zero, set_cons_succ]
      refine wpAnyH_take (i := 11) (oi := ⟨some 29, _, _, _, _, _⟩) (v := ?_) rfl (by kernel_rfl) (by kernel_rfl) (by kernel_rfl) (fun _ _ _ h => h) (Or.inl ⟨by rfl, ?_⟩) (by assumption) ?_; rotate_left
      · intro w hSw; (try dsimp only at hSw); go_simp; try with_reducible rfl
      try simp only [Act.put, setIfInBounds_toArray, set_cons_zero, set_cons_succ]
      refine wpAnyH_ready (rs := [12]) (by kernel_rfl) (by simp) ?_
      refine AllReadyH.cons (o := ⟨none, _, _, _, _, _⟩) rfl (fun K hK => ?_) AllReadyH.nil
      go_simp
      refine hK.out _ _ ?_ (fun hHeld => ?_)
      · (try dsimp only); refine ⟨?_, ?_, ?_, HS.out.2.2.2⟩ <;> simp only [drew_cell8, cell_set8 _ _ _ HS.out.2.2.2, HS.out.1, HS.out.2.1, HS.out.2.2.1]
      clear hK K
      try simp only [Act.put]
      refine wpAnyH_take (i := 13) (oi := ⟨some 30, _, _, _, _, _⟩) (v := ?_) rfl (by kernel_rfl) (by kernel_rfl) (by kernel_rfl) (fun _ _ _ h => h) (Or.inl ⟨by rfl, ?_⟩) (by assumption) ?_; rotate_left
      · intro w hSw; (try dsimp only at hSw); go_simp; try with_reducible rfl
      try simp only [Act.put, setIfInBounds_toArray, set_cons_zero, set_cons_succ]
      refine wpAnyH_take (i := 14) (oi := ⟨some 31, _, _, _, _, _⟩) (v := ?_) rfl (by kernel_rfl) (by kernel_rfl) (by kernel_rfl) (fun _ _ _ h => h) (Or.inl ⟨by rfl, ?_⟩) (by assumption) ?_; rotate_left
      · intro w hSw; (try dsimp only at hSw); go_simp; try with_reducible rfl
      try simp only [Act.put, setIfInBounds_toArray, set_cons_zero, set_cons_succ]
      refine wpAnyH_ready (rs := [15]) (by kernel_rfl) (by simp) ?_
      refine AllReadyH.cons (o := ⟨none, _, _, _, _, _⟩) rfl (fun K hK => ?_) AllReadyH.nil
      go_simp
      refine hK.out _ _ ?_ (fun hHeld => ?_)
      · (try dsimp only); refine ⟨?_, ?_, ?_, HS.out.2.2.2⟩ <;> simp only [drew_cell8, cell_set8 _ _ _ HS.out.2.2.2, HS.out.1, HS.out.2.1, HS.out.2.2.1]
      clear hK K
      try simp only [Act.put]
      refine wpAnyH_take (i := 16) (oi := ⟨some 32, _, _, _, _, _⟩) (v := ?_) rfl (by kernel_rfl) (by kernel_rfl) (by kernel_rfl) (fun _ _ _ h => h) (Or.inl ⟨by rfl, ?_⟩) (by assumption) ?_; rotate_left
      · intro w hSw; (try dsimp only at hSw); go_simp; try with_reducible rfl
      try simp only [Act.put, setIfInBounds_toArray, set_cons_zero, set_cons_succ]
      refine wpAnyH_take (i := 17) (oi := ⟨some 33, _, _, _, _, _⟩) (v := ?_) rfl (by kernel_rfl) (by kernel_rfl) (by kernel_rfl) (fun _ _ _ h => h) (Or.inl ⟨by rfl, ?_⟩) (by assumption) ?_; rotate_left
      · intro w hSw; (try dsimp only at hSw); go_simp; try with_reducible rfl
      try simp only [Act.put, setIfInBounds_toArray, set_cons_zero, set_cons_succ]
      refine wpAnyH_ready (rs := [18]) (by kernel_rfl) (by simp) ?_
      refine AllReadyH.cons (o := ⟨none, _, _, _, _, _⟩) rfl (fun K hK => ?_) AllReadyH.nil
      go_simp
      refine hK.out _ _ ?_ (fun hHeld => ?_)
      · (try dsimp only); refine ⟨?_, ?_, ?_, HS.out.2.2.2⟩ <;> simp only [drew_cell8, cell_set8 _ _ _ HS.out.2.2.2, HS.out.1, HS.out.2.1, HS.out.2.2.1]
      clear hK K
      try simp only [Act.put]
      refine wpAnyH_take (i := 19) (oi := ⟨some 34, _, _, _, _, _⟩) (v := ?_) rfl (by kernel_rfl) (by kernel_rfl) (by kernel_rfl) (fun _ _ _ h => h) (Or.inl ⟨by rfl, ?_⟩) (by assumption) ?_; rotate_left
      · intro w hSw; (try dsimp only at hSw); go_simp; try with_reducible rfl
      try simp only [Act.put, setIfInBounds_toArray, set_cons_zero, set_cons_succ]
      refine wpAnyH_take (i := 20) (oi := ⟨some 35, _, _, _, _, _⟩) (v := ?_) rfl (by kernel_rfl) (by kernel_rfl) (by kernel_rfl) (fun _ _ _ h => h) (Or.inl ⟨by rfl, ?_⟩) (by assumption) ?_; rotate_left
      · intro w hSw; (try dsimp only at hSw); go_simp; try with_reducible rfl
      try simp only [Act.put, setIfInBounds_toArray, set_cons_zero, set_cons_succ]
      refine wpAnyH_ready (rs := [21]) (by kernel_rfl) (by simp) ?_
      refine AllReadyH.cons (o := ⟨none, _, _, _, _, _⟩) rfl (fun K hK => ?_) AllReadyH.nil
      go_simp
      refine hK.out _ _ ?_ (fun hHeld => ?_)
      · (try dsimp only); refine ⟨?_, ?_, ?_, HS.out.2.2.2⟩ <;> simp only [drew_cell8, cell_set8 _ _ _ HS.out.2.2.2, HS.out.1, HS.out.2.1, HS.out.2.2.1]
      clear hK K
      try simp only [Act.put]
      refine wpAnyH_done (by kernel_rfl) ?_ _
      go_wp2_with fail
      go_ret
      have hso := HV1.out.1.js.setOpen r.id r.epoch r.a HO.out.id
      exact .inl ⟨_, HQ.out, rfl, (JnMut.fromS H.out HV1.out.2 hso.2 hso.1 X).below (below_drew8 _ _)⟩
      -- REGION>
theorem markU_len (u : List Bool) (a b : Nat) (h1 : a ≤ b) (h2 : b ≤ u.length) : (markU u a b).length = u.length := by
  unfold markU; simp; omega
theorem markU_get (u : List Bool) (a b i : Nat) (h1 : a ≤ b) (h2 : b ≤ u.length) : (markU u a b)[i]? = if a ≤ i ∧ i < b then some true else u[i]? := by
  unfold markU
  have hl : (u.take a).length = a := by rw [List.length_take]; omega
  rw [List.append_assoc]
  by_cases h3 : i < a
  · rw [List.getElem?_append_left (by omega), List.getElem?_take, if_pos h3, if_neg (by omega)]
  · rw [List.getElem?_append_right (by omega), hl]
    by_cases h4 : i < b
    · rw [List.getElem?_append_left (by rw [List.length_replicate]; omega), List.getElem?_replicate, if_pos (by omega), if_pos (by omega)]
    · rw [List.getElem?_append_right (by rw [List.length_replicate]; omega), List.length_replicate, List.getElem?_drop, if_neg (by omega)]
      congr 1
      omega
theorem markU_succ (u : List Bool) (a k : Nat) (h : a + k < u.length) : (markU u a (a + k)).set (a + k) true = markU u a (a + k + 1) := by
  refine List.ext_getElem? fun i => ?_
  have hl := markU_len u a (a + k) (by omega) (by omega)
  rw [markU_get u a (a + k + 1) i (by omega) (by omega), List.getElem?_set, markU_get u a (a + k) i (by omega) (by omega)]
  by_cases e : a + k = i
  · rw [if_pos e, if_pos (by omega), if_pos (by omega)]
  · rw [if_neg e]
    by_cases h3 : a ≤ i ∧ i < a + k
    · rw [if_pos h3, if_pos (by omega)]
    · rw [if_neg h3, if_neg (by omega)]
theorem markU_0 (u : List Bool) (a : Nat) : markU u a a = u := by
  unfold markU; simp
theorem nodup_flat : ∀ {xs : List KB}, (xs.flatMap KB.l).Nodup → (∀ x ∈ xs, x.l.Nodup) ∧ ∀ (i j : Nat) x y, xs[i]? = some x → xs[j]? = some y → i ≠ j → ∀ b ∈ x.l, b ∉ y.l
  | [], _ => ⟨by simp, by simp⟩
  | z :: xs, h => by
    rw [List.flatMap_cons, List.nodup_append] at h
    obtain ⟨h1, h2, h3⟩ := h
    obtain ⟨i1, i2⟩ := nodup_flat h2
    refine ⟨fun x hx => ?_, fun i j x y hx hy hij b hb hb2 => ?_⟩
    · rcases List.mem_cons.1 hx with rfl | hx
      · exact h1
      · exact i1 x hx
    · cases i with
      | zero =>
        simp only [List.getElem?_cons_zero, Option.some.injEq] at hx
        subst hx
        cases j with
        | zero => exact hij rfl
        | succ j =>
          rw [List.getElem?_cons_succ] at hy
          exact h3 b hb b (List.mem_flatMap.2 ⟨y, List.mem_of_getElem? hy, hb2⟩) rfl
      | succ i =>
        rw [List.getElem?_cons_succ] at hx
        cases j with
        | zero =>
          simp only [List.getElem?_cons_zero, Option.some.injEq] at hy
          subst hy
          exact h3 b hb2 b (List.mem_flatMap.2 ⟨x, List.mem_of_getElem? hx, hb⟩) rfl
        | succ j =>
          rw [List.getElem?_cons_succ] at hy
          exact i2 i j x y hx hy (by omega) b hb hb2
/-- The used bits of a key are written. -/
theorem JnAt.marked (h : JnAt w S j kv xs tb tc) {i : Nat} {x : KB} {k : Ky} (hx : xs[i]? = some x) (hk : j.keys[i]? = some k) (hkp : KeepL [x.ub] w w') {u : List Bool} (hu : ∃ s, Bk w' x.ub (u.map Value.bool ++ s).toArray 4) (hl : u.length = k.used.length) :
    JnAt w' S { j with keys := j.keys.set i { k with used := u } } kv xs tb tc := by
  have hi := (List.getElem?_eq_some_iff.1 hx).1
  have hq := h.keys i x k hx hk
  obtain ⟨s, hs⟩ := hq.used
  have T : ∀ b ∈ [x.ub], ∃ cs t, Bk w b cs t ∧ t = 4 := fun b hb => by rw [List.mem_singleton] at hb; subst hb; exact ⟨_, _, hs, rfl⟩
  have hxm : ∀ b ∈ x.l, b ∈ xs.flatMap KB.l := fun b hb => List.mem_flatMap.2 ⟨x, List.mem_of_getElem? hx, hb⟩
  refine ⟨⟨by simpa using h.ok.keys, h.ok.place, h.ok.tail, h.ok.last⟩, h.blk.keepL hkp (fun hm => ?_), ?_, ?_, ?_, h.nodup⟩
  · obtain ⟨cs, t, hc, rfl⟩ := T _ hm
    exact hc.ne h.blk (by decide) rfl
  · have := own_keepT h.row hkp fun b hb => by obtain ⟨cs, t, hc, rfl⟩ := T b hb; exact ⟨cs, _, hc, by decide⟩
    simpa using this
  · intro i' y q hy hq2
    by_cases e : i' = i
    · rw [e] at hy hq2
      rw [hx] at hy
      injection hy with hy
      subst hy
      rw [List.getElem?_set_self (by rw [← h.xlen]; exact hi)] at hq2
      injection hq2 with hq2
      subst hq2
      have hnd : x.kb ≠ x.ub ∧ x.bb ≠ x.ub := by
        have := (nodup_flat h.nodup).1 x (List.mem_of_getElem? hx)
        simp [KB.l] at this
        exact ⟨this.1.2, this.2⟩
      obtain ⟨s2, hb⟩ := hq.bits
      refine ⟨?_, ⟨s2, hb.keepL hkp (by simpa using hnd.2)⟩, hu, by rw [hl]; exact hq.len, by rw [hl]; exact hq.pos, by rw [hl]; exact hq.big, hq.capb, by rw [hl]; exact hq.capu⟩
      have := hq.blk.keepL hkp (by simpa using hnd.1)
      dsimp only
      rw [hl]
      exact this
    · rw [List.getElem?_set_ne (fun e2 => e e2.symm)] at hq2
      refine (h.keys i' y q hy hq2).keepL hkp fun b hb hm => ?_
      rw [List.mem_singleton] at hm
      subst hm
      exact (nodup_flat h.nodup).2 i' i y x hy hx e _ hb (by simp [KB.l])
  · exact own_keepT h.tail hkp fun b hb => by obtain ⟨cs, t, hc, rfl⟩ := T b hb; exact ⟨cs, _, hc, by decide⟩
end
end Go.Proofs.YtdgmjedkhjeadaaGreat
namespace Go.Proofs.YtdgmjedkhjeadaaGreat
open List (setIfInBounds_toArray set_cons_zero set_cons_succ)
open Go.RowKit
set_option linter.unusedVariables false
theorem Bk.rdB {w : World} {b : Nat} {l : List Bool} {s : List Value} {t : TypeId} (h : Bk w b (l.map Value.bool ++ s).toArray t) (i k : Nat) (h1 : i ≤ k) (h2 : k ≤ l.length) : Rd w w.heap.size 1 (some ⟨b, i, none⟩) (k - i) (((l.drop i).take (k - i)).map Value.bool) := by
  refine ⟨by simp; omega, fun _ => ⟨b, i, rfl, h.lt, fun j u hu => ?_⟩⟩
  rw [List.getElem?_map, List.getElem?_take] at hu
  split at hu
  · rw [List.getElem?_drop] at hu
    have hl : i + j < l.length := by omega
    rw [h.cell, List.getElem?_toArray, List.getElem?_append_left (by simpa using hl), List.getElem?_map]
    exact hu
  · cases hu
section
variable {w w' : World} {S : Nat} {j : Jn} {kv : Value} {xs : List KB} {tb : Option Addr} {tc : Nat}
set_option maxRecDepth 100000 in
set_option maxHeartbeats 400000 in
theorem claim_any (h : JnAt w S j kv xs tb tc) (r : Rc) (A : Option Addr) (c : Nat) (X : List Nat) (ho : RcOK r) (hr : BytR w A c r.bits) :
    Calls Tryz.prog 109 #[.pointer (some ⟨S, 0, none⟩), recV r A c] w (StepP S kv xs tb X (j.claimR r) w) := by
  have HN := Lib.hid (StR.new h hr)
  have H := Lib.hid h; have HO := Lib.hid ho
  clear h hr ho
  unfold recV
  go_enter Tryz.func109, Tryz.ntmps109
  go_upto_region 1 with fail
  rw [rc_lit]
  obtain ⟨w1, hw1⟩ : ∃ z, z = w.alloc (.cells (recC r A c) 115) := ⟨_, rfl⟩
  rw [← hw1] at HN ⊢
  have HB1 : Hid (Below w.heap.size w w1) := Lib.hid (by rw [hw1]; exact balloc _ _)
  obtain ⟨g, hg⟩ : ∃ g, g = w.heap.size := ⟨_, rfl⟩
  have HG := Lib.hid hg
  rw [← hg] at HN ⊢
  have a2 := HN.out.r2
  have HF := Lib.hid (find_any HN.out.js r.id)
  clear hw1 hg
  go_wp2_with fail
  refine HF.out.mono ?_
  clear HF a2
  rintro e w2 ⟨rfl, hb2⟩
  have HN2 := Lib.hid (HN.out.far hb2)
  have HB2 := Lib.hid (bnextK HB1.out hb2)
  clear hb2
  have r3 := HN2.out.r3
  have r4 := HN2.out.r4
  have s0 := HN2.out.s0
  cases hfk : findK j.keys r.id with
  | none =>
    have HQ : Hid (j.claimR r = none) := Lib.hid (by unfold Jn.claimR; rw [hfk])
    have he : fidx j.keys r.id = -1 := by unfold fidx; rw [hfk]
    rw [he]
    clear hfk he
    go_upto_region 2 with fail
    go_quiet (fail)
    go_wp2_with fail
    go_ret
    exact .inr ⟨HQ.out, rfl, bnextK HB2.out (Qw.below ⟨_, rfl⟩ _)⟩
  | some i =>
    have he : fidx j.keys r.id = (i : Int) := by unfold fidx; rw [hfk]
    obtain ⟨k0, hk0, _, hi⟩ := findK_get hfk
    obtain ⟨kg, kc, x, k, hkv, hkc, hx, hk, ci, hat⟩ := HN2.out.js.ptr hi
    have hgd : j.keys.getD i ⟨0, [], []⟩ = k := by rw [List.getD_eq_getElem?_getD, hk]; rfl
    have HQ : Hid (j.claimR r = if r.b ≤ r.a ∨ k.used.length < r.b ∨ true ∈ (k.used.drop r.a).take (r.b - r.a) then none else some { j with keys := j.keys.set i { k with used := markU k.used r.a r.b } }) := Lib.hid (by unfold Jn.claimR; rw [hfk]; dsimp only; rw [hgd])
    rw [he]
    have HX := Lib.hid hx; have HK := Lib.hid hk; have HAT := Lib.hid hat
    rw [hkv] at s0
    unfold KB.pv at ci
    have k2 := hat.k2
    have hi2 : (i : Int) < (j.keys.length : Int) := by omega
    have ra : decide ((r.a : Int) < 0) = false := decide_eq_false (by omega)
    have hi0 : decide ((i : Int) < 0) = false := decide_eq_false (by omega)
    obtain ⟨ul, hul⟩ : ∃ n, n = k.used.length := ⟨_, rfl⟩
    have HUL := Lib.hid hul
    rw [← hul] at k2 HQ
    clear hfk he hk0 hgd hkv hx hk hat hul
    go_upto_region 2 with fail
    by_cases c1 : r.b ≤ r.a
    · have c1i : decide ((r.b : Int) ≤ (r.a : Int)) = true := decide_eq_true (by omega)
      have HQ2 := Lib.hid (HQ.out.trans (if_pos (.inl c1)))
      go_quiet (fail)
      go_wp2_with fail
      go_ret
      exact .inr ⟨HQ2.out, rfl, bnextK HB2.out (Qw.below ⟨_, rfl⟩ _)⟩
    have c1i : decide ((r.b : Int) ≤ (r.a : Int)) = false := decide_eq_false (by omega)
    by_cases c2 : ul < r.b
    · have c2i : decide ((ul : Int) < (r.b : Int)) = true := decide_eq_true (by omega)
      have HQ2 := Lib.hid (HQ.out.trans (if_pos (.inr (.inl c2))))
      go_quiet (fail)
      go_wp2_with fail
      go_ret
      exact .inr ⟨HQ2.out, rfl, bnextK HB2.out (Qw.below ⟨_, rfl⟩ _)⟩
    have c2i : decide ((ul : Int) < (r.b : Int)) = false := decide_eq_false (by omega)
    have HLE : Hid (r.a < r.b ∧ r.b ≤ ul) := Lib.hid ⟨by omega, by omega⟩
    go_quiet (fail)
    obtain ⟨v3, hv3⟩ : ∃ z, z = w2.drewN nq := ⟨_, rfl⟩
    rw [← hv3]
    have HN3 : Hid (StR v3 g S r A c j kv xs tb tc) := Lib.hid (HN2.out.far (by rw [hv3]; exact Qw.below ⟨_, rfl⟩ _))
    have HB3 : Hid (Below w.heap.size w v3) := Lib.hid (bnextK HB2.out (by rw [hv3]; exact Qw.below ⟨_, rfl⟩ _))
    clear hv3 r3 r4 s0 ci k2 hkc
    obtain ⟨kg', kc', x', k', hkv', _, hx', hk', ci', hat'⟩ := HN3.out.js.ptr (show i < j.keys.length by omega)
    rw [HX.out] at hx'
    injection hx' with hx'
    subst hx'
    rw [HK.out] at hk'
    injection hk' with hk'
    subst hk'
    have r3 := HN3.out.r3
    have r4 := HN3.out.r4
    have s0 := HN3.out.s0
    rw [hkv'] at s0
    unfold KB.pv at ci'
    have k2 := hat'.k2
    rw [← HUL.out] at k2
    have HAT3 := Lib.hid hat'
    have hcu : ul ≤ x.cu := by rw [HUL.out]; exact hat'.capu
    have ha1 : (r.a : Int) ≤ (r.b : Int) := by omega
    have ha2 : (r.b : Int) ≤ (x.cu : Int) := by omega
    have hcn : ¬ x.cu = r.a := by omega
    have hcn2 : ¬ x.cu - r.a = 0 := by omega
    clear hkv' hat' HAT
    go_upto_region 4 with fail
    go_quiet (fail)
    obtain ⟨v4, hv4⟩ : ∃ z, z = v3.drewN nq := ⟨_, rfl⟩
    rw [← hv4]
    have hq4 : Below v3.heap.size v3 v4 := by rw [hv4]; exact Qw.below ⟨_, rfl⟩ _
    have HN4 := Lib.hid (HN3.out.far hq4)
    have HB4 := Lib.hid (bnextK HB3.out hq4)
    have HAT4 := Lib.hid (HAT3.out.keepL (L := []) (.of_below hq4) (by simp))
    obtain ⟨s, hs⟩ := HAT4.out.used
    have HRD := Lib.hid (hs.rdB r.a r.b (by omega) (by rw [← HUL.out]; omega))
    have HCT := Lib.hid (contB_any _ (r.b - r.a) (x.cu - r.a) _ true v4 (by have := HAT4.out.big; rw [← HUL.out] at this; omega) HRD.out)
    have HU : Hid (∃ s, Bk v4 x.ub (k.used.map Value.bool ++ s).toArray 4) := Lib.hid ⟨s, hs⟩
    clear hv4 hq4 HN3 HB3 HAT3 r3 r4 s0 ci' k2 hs HRD
    have hbig : ul ≤ 1000 := by rw [HUL.out]; exact HAT4.out.big
    obtain ⟨bc, hbc⟩ : ∃ bc, bc = decide (true ∈ (k.used.drop r.a).take (r.b - r.a)) := ⟨_, rfl⟩
    have HBC := Lib.hid hbc
    rw [← hbc] at HCT
    clear hbc
    go_wp2_with fail
    refine HCT.out.mono ?_
    rintro e v5 ⟨rfl, hq5⟩
    have hb5 : Below v4.heap.size v4 v5 := hq5.below _
    have HN5 := Lib.hid (HN4.out.far hb5)
    have HB5 := Lib.hid (bnextK HB4.out hb5)
    have HU5 : Hid (∃ s, Bk v5 x.ub (k.used.map Value.bool ++ s).toArray 4) := Lib.hid (by
      obtain ⟨s, hs⟩ := HU.out
      exact ⟨s, hs.past hb5 hs.lt⟩)
    clear hq5 hb5 HCT HU HAT4 HN4 HB4
    cases bc with
    | true =>
      have hm : true ∈ (k.used.drop r.a).take (r.b - r.a) := by simpa using HBC.out.symm
      have HQ2 := Lib.hid (HQ.out.trans (if_pos (.inr (.inr hm))))
      clear hm
      go_wp2_with fail
      go_ret
      exact .inr ⟨HQ2.out, rfl, HB5.out⟩
    | false =>
      have hm : ¬ true ∈ (k.used.drop r.a).take (r.b - r.a) := by simpa using HBC.out.symm
      have HQ2 := Lib.hid (HQ.out.trans (if_neg (by have := HLE.out; rintro (h | h | h); omega; omega; exact hm h)))
      have HLX : Hid (r.a < r.b ∧ r.b ≤ ul) := HLE
      clear hm HBC HQ
      obtain ⟨n, hn⟩ : ∃ n, n = r.b - r.a := ⟨_, rfl⟩
      have HNN := Lib.hid hn
      rw [← hn]
      have hn3 : n ≤ 1000 := by have := HLE.out; omega
      clear hn
      go_wp2_with fail
      go_loopw [7, 61] (fun _ v61 wr => ∃ m : Nat, m ≤ n ∧ v61 = .int .i64 m ∧ KeepL [x.ub] v5 wr ∧ ∃ s, Bk wr x.ub ((markU k.used r.a (r.a + m)).map Value.bool ++ s).toArray 4) (fun _ v61 _ => n - (intOf v61).toNat)
      case atStart => exact ⟨0, Nat.zero_le _, rfl, KeepL.refl _ _, by rw [Nat.add_zero, markU_0]; exact HU5.out⟩
      case round =>
        obtain ⟨m, hm, rfl, hkp, s, hs⟩ := hrel
        obtain ⟨wa, rfl⟩ : ∃ z : World, z = wr := ⟨_, rfl⟩
        have HKP := Lib.hid hkp; have HS := Lib.hid hs
        clear hkp hs
        by_cases hlt : m < n
        · have hki : (m : Int) < (n : Int) := by omega
          have hmu : r.a + m < k.used.length := by have := HLE.out; have := HNN.out; have := HUL.out; omega
          have hlen : r.a + m < (markU k.used r.a (r.a + m)).length := by rw [markU_len _ _ _ (by omega) (by omega)]; exact hmu
          obtain ⟨old, hold⟩ : ∃ v, wa.cell? ⟨x.ub, r.a + m, none⟩ = some (.bool v) := by
            refine ⟨(markU k.used r.a (r.a + m))[r.a + m], ?_⟩
            rw [HS.out.cell, List.getElem?_toArray, List.getElem?_append_left (by simpa using hlen), List.getElem?_map, List.getElem?_eq_getElem hlen]
            rfl
          have f6 := HS.out.froz (r.a + m)
          have HS2 : Hid (Bk (wa.setCell ⟨x.ub, r.a + m, none⟩ (.bool true)) x.ub ((markU k.used r.a (r.a + (m + 1))).map Value.bool ++ s).toArray 4) := Lib.hid (by
            have := HS.out.set (r.a + m) (.bool true)
            rw [List.setIfInBounds_toArray, List.set_append_left _ _ (by simpa using hlen), ← List.map_set, markU_succ _ _ _ hmu] at this
            exact this)
          clear hmu hlen
          go_wp2_with fail
          go_roundw
          case rel => exact ⟨m + 1, by omega, by go_num, HKP.out.trans (KeepL.set _ _ _ _), s, HS2.out⟩
          case measure => simp [intOf]; omega
        · have hki : ¬ (m : Int) < (n : Int) := by omega
          obtain rfl : m = n := by omega
          go_wp2_with fail
          go_ret
          refine .inl ⟨_, HQ2.out, rfl, ?_⟩
          have e1 : r.a + m = r.b := by have := HLE.out; have := HNN.out; omega
          have hs := HS.out
          rw [e1] at hs
          have hat := HN5.out.js.marked HX.out HK.out HKP.out ⟨s, hs⟩ (markU_len _ _ _ (by have := HLE.out; omega) (by have := HLE.out; have := HUL.out; omega))
          refine ⟨⟨kv, xs, tb, tc, hat, fun k hk => .inl hk, fun k hk => .inl hk⟩, (KeepL.of_below HB5.out).trans (HKP.out.sub fun b hb => ?_)⟩
          rw [List.mem_singleton] at hb
          subst hb
          simp only [fpJ, List.mem_cons, List.mem_append]
          exact .inr (.inr (List.mem_flatMap.2 ⟨x, List.mem_of_getElem? HX.out, by simp [KB.l]⟩))
end
end Go.Proofs.YtdgmjedkhjeadaaGreat
