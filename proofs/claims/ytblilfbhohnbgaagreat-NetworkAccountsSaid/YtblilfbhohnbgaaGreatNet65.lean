/- The law's own call. Conditions: as each statement says. -/
import Derived.Test.YtblilfbhohnbgaaGreatNet63
import Derived.Test.YtblilfbhohnbgaaGreatNet44
import Derived.Test.YtblilfbhohnbgaaGreatOpen
namespace Go.Proofs.YtblilfbhohnbgaaGreat
open Go.RowKit
set_option linter.unusedVariables false
/-- A network all of whose blocks lie from B on. -/
def NetB (B : Nat) (w : World) (N : Nat) (s : NS) : Prop := ∃ bn bl vh vs, NetAt w N s bn bl vh vs ∧ NI s ∧ B ≤ N ∧ B ≤ bn ∧ B ≤ bl ∧ (∀ k, vh.ownBlock = some k → B ≤ k) ∧ (∀ k, vs.ownBlock = some k → B ≤ k)
theorem NetB.far {B : Nat} {w w' : World} {N : Nat} {s : NS} (h : NetB B w N s) (hb : Below w.heap.size w w') : NetB B w' N s := by
  obtain ⟨bn, bl, vh, vs, h1, h2⟩ := h
  exact ⟨bn, bl, vh, vs, h1.far hb, h2⟩
/-- The types of blocks that a network does not use. -/
abbrev NT (t : TypeId) : Prop := t ≠ 56 ∧ t ≠ 79 ∧ t ≠ 102
def NextP (B N : Nat) (w : World) (s' : NS) (w' : World) : Prop := NetB B w' N s' ∧ Below B w w' ∧ CK NT w w'
theorem NetB.next {B N : Nat} {w w' : World} {s s' : NS} {bn bl : Nat} {vh vs vh' vs' : Value} {L : List Nat} (h : NetAt w N s bn bl vh vs) (hB : B ≤ N ∧ B ≤ bn ∧ B ≤ bl ∧ (∀ k, vh.ownBlock = some k → B ≤ k) ∧ (∀ k, vs.ownBlock = some k → B ≤ k))
    (hk : KeepL L w w') (hL : ∀ k ∈ L, k = N ∨ k = bn ∨ k = bl ∨ vh.ownBlock = some k ∨ vs.ownBlock = some k) (h' : NetAt w' N s' bn bl vh' vs') (hv : ∀ k, vh'.ownBlock = some k → vh.ownBlock = some k ∨ w.heap.size ≤ k) (hs : ∀ k, vs'.ownBlock = some k → vs.ownBlock = some k ∨ w.heap.size ≤ k) (hni : NI s') : NextP B N w s' w' := by
  obtain ⟨b1, b2, b3, b4, b5⟩ := hB
  have hw : B ≤ w.heap.size := Nat.le_trans b1 (Nat.le_of_lt h.blk.lt)
  refine ⟨⟨bn, bl, vh', vs', h', hni, b1, b2, b3, fun k e => ?_, fun k e => ?_⟩, hk.below hw (fun k hm => ?_), CK.keepL hk (fun k hm cs t ht hb => ?_)⟩
  · rcases hv k e with h1 | h1
    · exact b4 k h1
    · omega
  · rcases hs k e with h1 | h1
    · exact b5 k h1
    · omega
  · rcases hL k hm with rfl | rfl | rfl | h1 | h1
    · exact b1
    · exact b2
    · exact b3
    · exact b4 k h1
    · exact b5 k h1
  · have same : ∀ {cs' t'}, Bk w k cs' t' → t = t' := fun {cs' t'} hb' => by
      unfold Bk at hb hb'
      rw [hb] at hb'
      injection hb' with hb'
      injection hb'
    rcases hL k hm with rfl | rfl | rfl | h1 | h1
    · exact ht.1 (same h.blk)
    · exact h.nodes.noBk hb
    · exact h.links.noBk hb
    · obtain ⟨vals, ho, _⟩ := h.holds
      obtain ⟨cs', hb'⟩ := ownBlock_cells ho h1
      exact ht.2.1 (same hb')
    · obtain ⟨vals, ho, _⟩ := h.sents
      obtain ⟨cs', hb'⟩ := ownBlock_cells ho h1
      exact ht.2.2 (same hb')
theorem NextP.far {B N : Nat} {w w' w2 : World} {s' : NS} (hb : Below w.heap.size w w2) (hB : B ≤ w.heap.size) (h : NextP B N w2 s' w') : NextP B N w s' w' :=
  ⟨h.1, (hb.mono hB).trans h.2.1, (CK.of_below hb).trans h.2.2⟩
/-- A call that came in. -/
structure ActV where
  d : Nat
  a : Nm
  b : Nm
  l1 : Value
  l2 : Value
  l3 : Value
  l4 : Value
  n : Int
  k : Int
  need : Int
  til : Int
  s : BytesArg
  c : BytesArg
def actC (x : ActV) : List Value := [.int .u8 (x.d : Int), encS x.a, encS x.b, x.l1, x.l2, x.l3, x.l4, .int .i64 x.n, .int .i64 x.k, .int .i64 x.need, .int .i64 x.til, .slice x.s.A x.s.n x.s.c, .slice x.c.A x.c.n x.c.c]
structure ActV.raw (w : World) (x : ActV) : Prop where
  d : x.d < 256
  a : x.a.length ≤ maxLen
  b : x.b.length ≤ maxLen
  s : IsBytes w (.slice x.s.A x.s.n x.s.c) x.s
  c : IsBytes w (.slice x.c.A x.c.n x.c.c) x.c
theorem IsBytes.far {w w' : World} {v : Value} {i : BytesArg} (h : IsBytes w v i) (hb : Below w.heap.size w w') : IsBytes w' v i := by
  obtain ⟨h1, h2, h3, h4, h5, h6⟩ := h
  exact ⟨h1, h2, h3, h4, h5, (h6.below hb).mono hb.size⟩
theorem ActV.raw.far {w w' : World} {x : ActV} (h : x.raw w) (hb : Below w.heap.size w w') : x.raw w' := ⟨h.d, h.a, h.b, h.s.far hb, h.c.far hb⟩
/-- What a call leaves. -/
def CallP (B N : Nat) (s : NS) (w : World) (e : Ending) (w' : World) : Prop := e = .returned (.tuple #[]) ∧ ∃ s', Step s s' ∧ NextP B N w s' w'
theorem NetB.same {B N : Nat} {w w' : World} {s : NS} {bn bl : Nat} {vh vs : Value} (h : NetAt w' N s bn bl vh vs) (hni : NI s) (hB : B ≤ N ∧ B ≤ bn ∧ B ≤ bl ∧ (∀ k, vh.ownBlock = some k → B ≤ k) ∧ (∀ k, vs.ownBlock = some k → B ≤ k)) (hw : B ≤ w.heap.size) (hb : Below w.heap.size w w') : ∃ s', Step s s' ∧ NextP B N w s' w' :=
  ⟨s, Step.refl s, ⟨bn, bl, vh, vs, h, hni, hB⟩, hb.mono hw, CK.of_below hb⟩
set_option maxRecDepth 100000 in
set_option maxHeartbeats 4000000 in
theorem call_any {B N : Nat} {w : World} {s : NS} (h : NetB B w N s) (x : ActV) (hx : x.raw w) : Calls Tryz.prog 9 #[.pointer (some ⟨N, 0, none⟩), .agg (actC x).toArray] w (CallP B N s w) := by
  obtain ⟨bn, bl, vh, vs, hn, hni, hB⟩ := h
  obtain ⟨w1, hw1⟩ : ∃ w1, w1 = w.alloc (.cells (actC x).toArray 43) := ⟨_, rfl⟩
  have hb1 : Below w.heap.size w w1 := by rw [hw1]; exact below_alloc _ _
  have hbk : Bk w1 w.heap.size (actC x).toArray 43 := by rw [hw1]; exact Bk.new _ _ _
  have hszB : B ≤ w.heap.size := Nat.le_trans hB.1 (Nat.le_of_lt hn.blk.lt)
  have hxx := hx.far hb1
  have hn1 := hn.far hb1
  have HN := Lib.hid hn1; have HNI := Lib.hid hni; have HB := Lib.hid hB; have HB1 := Lib.hid hb1; have HX := Lib.hid hxx; have HSZ := Lib.hid hszB; have HW1 := Lib.hid hw1
  have a0 := hbk.cell 0; have a1 := hbk.cell 1; have a2 := hbk.cell 2; have a7 := hbk.cell 7; have a8 := hbk.cell 8; have a9 := hbk.cell 9; have a10 := hbk.cell 10; have a11 := hbk.cell 11; have a12 := hbk.cell 12
  simp only [actC, List.getElem?_toArray, List.getElem?_cons_succ, List.getElem?_cons_zero] at a0 a1 a2 a7 a8 a9 a10 a11 a12
  have HNEXT : Hid (∀ (s' : NS) (w' : World), NextP B N w1 s' w' → NextP B N w s' w') := Lib.hid fun s' w' h => h.far hb1 hszB
  have HSAME : Hid (∀ (w' : World), NetAt w' N s bn bl vh vs → Below w1.heap.size w1 w' → ∃ s', Step s s' ∧ NextP B N w s' w') := Lib.hid fun w' hn' hb' => NetB.same hn' hni hB hszB (bnextK hb1 hb')
  have HVV : Hid (∀ k, vs.ownBlock = some k → vs.ownBlock = some k ∨ w1.heap.size ≤ k) := Lib.hid fun k hk => .inl hk
  have hd := hx.d
  obtain ⟨m, hm⟩ : ∃ m, m = x.d % 6 := ⟨_, rfl⟩
  have hm6 : m < 6 := by omega
  have hr1 : Int.tmod (x.d : Int) 6 = (m : Int) := by rw [Int.tmod_eq_emod_of_nonneg (by omega)]; omega
  have hr2 : (x.d : Int) % 6 = (m : Int) := by omega
  have hr3 : IntKind.u8.wrap (m : Int) = (m : Int) := by simp [IntKind.wrap, IntKind.bits, IntKind.signed]; omega
  have HT := Lib.hid (Tick_any hn1 hni x.n)
  have HR := Lib.hid (Reserve_any hn1 hni x.a x.b x.n x.til hx.a hx.b)
  have HU := Lib.hid (Use_any hn1 hni x.n)
  have HC := Lib.hid (Cancel_any hn1 hni x.n)
  have HF := Lib.hid (Fence_any hn1 hni x.a hx.a)
  have HS : Hid (Calls Tryz.prog 27 #[.pointer (some ⟨N, 0, none⟩), encS x.a, encS x.b, .slice x.s.A x.s.n x.s.c, .int .i64 x.k, .int .i64 x.need, .slice x.c.A x.c.n x.c.c] w1 (SendP N s bn bl vh vs x.a x.b x.s.l x.c.l x.s.n x.c.n x.k x.need w1)) := Lib.hid (by
    obtain ⟨_, s2, s3, s4, s5, s6⟩ := hxx.s
    obtain ⟨_, c2, c3, c4, c5, c6⟩ := hxx.c
    exact Send_any hn1 x.a x.b x.s.A x.c.A x.s.n x.s.c x.c.n x.c.c x.k x.need x.s.l x.c.l hx.a hx.b hni.sl (by omega) s2 c2 s5 c5 s6 c6)
  clear hn hni hB hw1 hb1 hbk hxx hn1 hx hszB hm hd
  unfold actC at HW1
  simp only [actC]
  match m, hm6 with
  | 0, _ =>
    try simp only [Nat.cast_ofNat, Int.ofNat_eq_natCast] at hr1 hr2 hr3
    go_enter Tryz.func9, Tryz.ntmps9
    go_wp2_with fail
    try rw [← HW1.out]
    go_wp2_with fail
    refine HT.out.mono ?_
    rintro e w2 hq
    obtain ⟨z, hz, rfl, hq | ⟨hz0, ⟨vh', hn2, hv2⟩, hk2⟩⟩ := hq
    · have HQ := Lib.hid (HSAME.out w2 hq.2.1 hq.2.2)
      clear hq hz
      go_wp2_with fail
      go_end0
      exact ⟨rfl, HQ.out⟩
    · have h3 := tickE_zero (s := s) (t := x.n) (by rw [← hz]; exact hz0)
      have hok := tick_ok HN.out.ok HNI.out h3.1 h3.2.2
      have HQ : Hid (∃ s', Step s s' ∧ NextP B N w s' w2) := Lib.hid ⟨_, hok.2.2, HNEXT.out _ _ (NetB.next HN.out HB.out hk2 (fun k hk => by simp only [List.mem_cons, List.not_mem_nil, or_false] at hk; rcases hk with rfl | rfl <;> simp) hn2 (fun k hk => .inr (hv2 k hk)) HVV.out hok.2.1)⟩
      clear h3 hok hz0 hn2 hv2 hk2 hz
      go_wp2_with fail
      go_end0
      exact ⟨rfl, HQ.out⟩
  | 1, _ =>
    try simp only [Nat.cast_ofNat, Int.ofNat_eq_natCast] at hr1 hr2 hr3
    go_enter Tryz.func9, Tryz.ntmps9
    go_wp2_with fail
    try rw [← HW1.out]
    go_wp2_with fail
    refine HR.out.mono ?_
    rintro e w2 hq
    obtain ⟨id, z, rfl, hq⟩ := hq
    rcases hq with ⟨_, _, _, hn2, hb2⟩ | ⟨_, hz, _, p, l, hpl, hgood, ⟨vh', hn2, hv2⟩, hk2⟩
    · have HQ := Lib.hid (HSAME.out w2 hn2 hb2)
      clear hn2 hb2
      go_wp2_with fail
      go_end0
      exact ⟨rfl, HQ.out⟩
    · obtain ⟨e1, e2, e3⟩ := resE_zero hz
      have hbt := amtE_zero e2
      have hok := res_ok (til := x.til) (id := wrap64 (s.last + 1)) HN.out.ok HNI.out hgood hbt.1 hbt.2 e3
      have HQ : Hid (∃ s', Step s s' ∧ NextP B N w s' w2) := Lib.hid ⟨_, hok.2.2, HNEXT.out _ _ (NetB.next HN.out HB.out hk2 (fun k hk => by
        simp only [List.mem_cons, Option.mem_toList] at hk
        rcases hk with rfl | rfl | h
        · exact .inl rfl
        · exact .inr (.inr (.inl rfl))
        · exact .inr (.inr (.inr (.inl h)))) hn2 hv2 HVV.out hok.2.1)⟩
      clear e1 e2 e3 hbt hok hn2 hv2 hk2 hz hpl hgood
      go_wp2_with fail
      go_end0
      exact ⟨rfl, HQ.out⟩
  | 2, _ =>
    try simp only [Nat.cast_ofNat, Int.ofNat_eq_natCast] at hr1 hr2 hr3
    go_enter Tryz.func9, Tryz.ntmps9
    go_wp2_with fail
    try rw [← HW1.out]
    go_wp2_with fail
    refine HU.out.mono ?_
    rintro e w2 hq
    rcases hq with ⟨rfl, _, hn2, hb2⟩ | ⟨i, y, v, rfl, ⟨hy, _, ⟨vh', hn2, hv2⟩, hk2⟩, hrow⟩
    · have HQ := Lib.hid (HSAME.out w2 hn2 hb2)
      clear hn2 hb2
      go_wp2_with fail
      go_end0
      exact ⟨rfl, HQ.out⟩
    · have hb16 := HNI.out.held.each y (List.mem_of_getElem? hy)
      have hok := back_ok HN.out.ok HNI.out hy (f := 0) (sp := y.bits) (by omega) (by have := hb16.b1; omega) (by have := hb16.b1; omega)
      have HQ : Hid (∃ s', Step s s' ∧ NextP B N w s' w2) := Lib.hid ⟨_, hok.2.2, HNEXT.out _ _ (NetB.next HN.out HB.out hk2 (fun k hk => by simp only [List.mem_cons, List.not_mem_nil, or_false] at hk; rcases hk with rfl | rfl <;> simp) hn2 (fun k hk => .inr (hv2 k hk)) HVV.out hok.2.1)⟩
      clear hb16 hok hn2 hv2 hk2 hy
      obtain ⟨gb, gc, gcs, rfl, _⟩ := hrow
      go_wp2_with fail
      go_end0
      exact ⟨rfl, HQ.out⟩
  | 3, _ =>
    try simp only [Nat.cast_ofNat, Int.ofNat_eq_natCast] at hr1 hr2 hr3
    go_enter Tryz.func9, Tryz.ntmps9
    go_wp2_with fail
    try rw [← HW1.out]
    go_wp2_with fail
    refine HC.out.mono ?_
    rintro e w2 hq
    rcases hq with ⟨rfl, _, hn2, hb2⟩ | ⟨i, y, rfl, hy, _, ⟨vh', hn2, hv2⟩, hk2⟩
    · have HQ := Lib.hid (HSAME.out w2 hn2 hb2)
      clear hn2 hb2
      go_wp2_with fail
      go_end0
      exact ⟨rfl, HQ.out⟩
    · have hb16 := HNI.out.held.each y (List.mem_of_getElem? hy)
      have hok := back_ok HN.out.ok HNI.out hy (f := y.bits) (sp := 0) (by omega) (by have := hb16.b1; omega) (by have := hb16.b1; omega)
      have HQ : Hid (∃ s', Step s s' ∧ NextP B N w s' w2) := Lib.hid ⟨_, hok.2.2, HNEXT.out _ _ (NetB.next HN.out HB.out hk2 (fun k hk => by simp only [List.mem_cons, List.not_mem_nil, or_false] at hk; rcases hk with rfl | rfl <;> simp) hn2 (fun k hk => .inr (hv2 k hk)) HVV.out hok.2.1)⟩
      clear hb16 hok hn2 hv2 hk2 hy
      skip
      go_wp2_with fail
      go_end0
      exact ⟨rfl, HQ.out⟩
  | 4, _ =>
    try simp only [Nat.cast_ofNat, Int.ofNat_eq_natCast] at hr1 hr2 hr3
    go_enter Tryz.func9, Tryz.ntmps9
    go_wp2_with fail
    try rw [← HW1.out]
    go_wp2_with fail
    refine HS.out.mono ?_
    rintro e w2 hq
    obtain ⟨id, z, rfl, hq⟩ := hq
    rcases hq with ⟨_, _, _, hn2, hb2⟩ | ⟨_, hz, hpl, _, vs', hn2, hk2, hv2⟩
    · have HQ := Lib.hid (HSAME.out w2 hn2 hb2)
      clear hn2 hb2
      go_wp2_with fail
      go_end0
      exact ⟨rfl, HQ.out⟩
    · have hk4 := (sendE_zero hz).2.2.2.2.2.2.1
      have hok := send_ok HN.out.ok HNI.out (m := x.c.n) (need := x.need) x.s.l x.c.l (x.need.toNat - 1) (k := x.k.toNat) (by rw [show ((x.k.toNat : Nat) : Int) = x.k by omega]; exact hz) hpl
      have HQ : Hid (∃ s', Step s s' ∧ NextP B N w s' w2) := Lib.hid ⟨_, hok.2.2, HNEXT.out _ _ (NetB.next HN.out HB.out hk2 (fun k hk => by
        simp only [List.mem_cons, Option.mem_toList] at hk
        rcases hk with rfl | rfl | h
        · exact .inl rfl
        · exact .inr (.inr (.inl rfl))
        · exact .inr (.inr (.inr (.inr h)))) hn2 (fun k hk => .inl hk) hv2 hok.2.1)⟩
      clear hk4 hok hn2 hv2 hk2 hz hpl
      go_wp2_with fail
      go_end0
      exact ⟨rfl, HQ.out⟩
  | 5, _ =>
    try simp only [Nat.cast_ofNat, Int.ofNat_eq_natCast] at hr1 hr2 hr3
    go_enter Tryz.func9, Tryz.ntmps9
    go_wp2_with fail
    try rw [← HW1.out]
    go_wp2_with fail
    refine HF.out.mono ?_
    rintro e w2 hq
    obtain ⟨z, hz, rfl, hq | ⟨hz0, ⟨vh', hn2, hv2⟩, hk2⟩⟩ := hq
    · have HQ := Lib.hid (HSAME.out w2 hq.2.1 hq.2.2)
      clear hq hz
      go_wp2_with fail
      go_end0
      exact ⟨rfl, HQ.out⟩
    · have hok := fence_ok HN.out.ok HNI.out x.a
      have HQ : Hid (∃ s', Step s s' ∧ NextP B N w s' w2) := Lib.hid ⟨_, hok.2.2.1, HNEXT.out _ _ (NetB.next HN.out HB.out hk2 (fun k hk => by simp only [List.mem_cons, List.not_mem_nil, or_false] at hk; rcases hk with rfl | rfl | rfl <;> simp) hn2 (fun k hk => .inr (hv2 k hk)) HVV.out hok.2.1)⟩
      clear hok hz0 hn2 hv2 hk2 hz
      go_wp2_with fail
      go_end0
      exact ⟨rfl, HQ.out⟩
theorem pairOf_swap (a b : Nm) : pairOf a b = pairOf b a := by
  unfold pairOf
  by_cases h1 : a < b
  · by_cases h2 : b < a
    · exact absurd h2 (lt_asymm9 h1)
    · simp [h1, h2]
  · by_cases h2 : b < a
    · simp [h1, h2]
    · have := lt_tri9 h1 h2
      subst this
      rfl
/-- Was a link among the first ones of a path? -/
def inP (p : List Nm) (q : Nm × Nm) (j : Nat) : Bool := (List.range j).any fun i => decide (q = lnk p i)
theorem inP_succ (p : List Nm) (q : Nm × Nm) (j : Nat) : inP p q (j + 1) = (inP p q j || decide (q = lnk p j)) := by unfold inP; rw [List.range_succ, List.any_append]; simp
theorem inP_one {p : List Nm} (hp : p.Nodup) {q : Nm × Nm} {j : Nat} (hj : j + 1 < p.length) (h : q = lnk p j) : inP p q j = false := by
  unfold inP
  rw [List.any_eq_false]
  intro i hi
  rw [List.mem_range] at hi
  rw [decide_eq_true_eq]
  intro e
  have := lnk_inj hp (by omega) hj (e.symm.trans h)
  omega
theorem lnk_is (p : List Nm) (j : Nat) (a b : Nm) : pairOf a b = lnk p j ↔ (((p.getD j [] == a) && (p.getD (j + 1) [] == b)) || ((p.getD j [] == b) && (p.getD (j + 1) [] == a))) = true := by
  unfold lnk
  simp only [Bool.or_eq_true, Bool.and_eq_true, beq_iff_eq]
  constructor
  · intro h
    rcases pairOf_two h with ⟨e1, e2⟩ | ⟨e1, e2⟩
    · exact .inl ⟨e1.symm, e2.symm⟩
    · exact .inr ⟨e2.symm, e1.symm⟩
  · rintro (⟨e1, e2⟩ | ⟨e1, e2⟩)
    · rw [e1, e2]
    · rw [e1, e2]; exact pairOf_swap a b
def accV (acc bt : Int) (p : List Nm) (q : Nm × Nm) (m : Nat) : Int := acc + if inP p q m = true then bt else 0
theorem accV_zero (acc bt : Int) (p : List Nm) (q : Nm × Nm) : accV acc bt p q 0 = acc := by unfold accV inP; simp
def HeldP (l : List HoldM) (q : Nm × Nm) (w : World) (e : Ending) (w' : World) : Prop := e = .returned (.int .i64 (heldSum l q)) ∧ Below w.heap.size w w'
theorem heldSum_le {l : List HoldM} (h : ∀ x ∈ l, 0 ≤ x.bits ∧ x.bits ≤ 65536) (q : Nm × Nm) : 0 ≤ heldSum l q ∧ heldSum l q ≤ 65536 * l.length := by
  induction l with
  | nil => simp [heldSum]
  | cons x l ih =>
    rw [heldSum_cons]
    have h1 := ih (fun y hy => h y (by simp [hy]))
    have h2 := h x (by simp)
    simp only [List.length_cons]
    split <;> omega
set_option maxRecDepth 100000 in
set_option maxHeartbeats 1000000 in
theorem held_any {w : World} {N : Nat} {s : NS} {bn bl : Nat} {vh vs : Value} (h : NetAt w N s bn bl vh vs) (hni : NI s) (a b : Nm) :
    Calls Tryz.prog 11 #[.pointer (some ⟨N, 0, none⟩), encS a, encS b] w (HeldP s.holds (pairOf a b) w) := by
  have HH := Lib.hid (Holds_any h hni)
  have HEACH : Hid (∀ x ∈ s.holds, 2 ≤ x.path.length ∧ x.path.length ≤ 16 ∧ x.path.Nodup ∧ 1 ≤ x.bits ∧ x.bits ≤ 65536) := Lib.hid fun x hx => ⟨(hni.held.each x hx).len, (hni.held.each x hx).len16 h.ok, (hni.held.each x hx).nodup, (hni.held.each x hx).b1, (hni.held.each x hx).b2⟩
  have hl64 := hni.hl
  generalize s.holds = L at *
  obtain ⟨q, hq⟩ : ∃ q, q = pairOf a b := ⟨_, rfl⟩
  have HQQ := Lib.hid hq
  rw [← hq]
  clear h hni hq
  obtain ⟨ln, hln⟩ : ∃ ln, ln = L.length := ⟨_, rfl⟩
  have HLN := Lib.hid hln
  have HSUM : Hid (∀ k, k ≤ ln → 0 ≤ heldSum (L.take k) q ∧ heldSum (L.take k) q ≤ 65536 * 64) := Lib.hid fun k hk => by
    have := heldSum_le (l := L.take k) (fun x hx => by have := HEACH.out x (List.mem_of_mem_take hx); omega) q
    rw [List.length_take] at this
    omega
  unfold HoldsP at HH
  rw [← hln] at HH hl64
  clear hln
  go_enter Tryz.func11, Tryz.ntmps11
  go_wp2_with fail
  refine HH.out.mono ?_
  clear HH
  rintro e w2 ⟨⟨A, c, rfl, hc, ho⟩, hb2⟩
  have HO := Lib.hid ho; have HB := Lib.hid hb2
  clear ho hb2
  go_wp2_with fail
  go_loopw [7, 9, 10, 11] (fun z i _ _ wr => ∃ k : Nat, k ≤ ln ∧ i = .int .i64 k ∧ z = .int .i64 (heldSum (L.take k) q) ∧ w2 = wr) (fun _ i _ _ _ => ln - (intOf i).toNat)
  case atStart => exact ⟨0, Nat.zero_le _, rfl, by simp [heldSum], rfl⟩
  case round =>
    obtain ⟨k, hk, rfl, rfl, rfl⟩ := hrel
    by_cases hlt : k < ln
    · have hki : (k : Int) < (ln : Int) := by omega
      obtain ⟨x, hx⟩ : ∃ x, L[k]? = some x := ⟨_, List.getElem?_eq_getElem (by rw [← HLN.out]; exact hlt)⟩
      obtain ⟨g, pv, rfl, _, ⟨cs, hbk, _, q1, q2, _⟩, hrow⟩ := HO.out.at hx
      have c1 := hbk.cell (k * 4 + 1); have c2 := hbk.cell (k * 4 + 2)
      rw [q1] at c1; rw [q2] at c2
      obtain ⟨pb, pc, pcs, rfl, hpc, hpb, hpe⟩ := id hrow
      have hxe := HEACH.out x (List.mem_of_getElem? hx)
      have HXE := Lib.hid hxe
      have HCELL : Hid (∀ j, j < x.path.length → w2.cell? ⟨pb, j, none⟩ = some (encS (x.path.getD j []))) := Lib.hid fun j hj => by rw [hpb.cell]; exact hpe j hj
      have HTK : Hid (heldSum (L.take (k + 1)) q = heldSum (L.take k) q + (if onP x.path q = true then x.bits else 0)) := Lib.hid (by
        obtain ⟨r1, r2⟩ := List.getElem?_eq_some_iff.1 hx
        rw [List.take_succ_eq_append_getElem r1, r2, heldSum_app, heldSum_one])
      have HON : Hid (onP x.path q = inP x.path q (x.path.length - 1)) := Lib.hid rfl
      obtain ⟨acc, hacc⟩ : ∃ acc, acc = heldSum (L.take k) q := ⟨_, rfl⟩
      have hab := HSUM.out k hk
      rw [← hacc] at hab HTK ⊢
      have hbt : 1 ≤ x.bits ∧ x.bits ≤ 65536 := ⟨hxe.2.2.2.1, hxe.2.2.2.2⟩
      obtain ⟨bt, hbte⟩ : ∃ bt, bt = x.bits := ⟨_, rfl⟩
      rw [← hbte] at c2 hbt HTK
      have hp16 := hxe.2.1
      have hp2 := hxe.1
      obtain ⟨P, hP⟩ : ∃ P, P = x.path := ⟨_, rfl⟩
      rw [← hP] at HCELL HTK HON hp16 hp2 c1
      have HND : Hid P.Nodup := Lib.hid (by rw [hP]; exact hxe.2.2.1)
      have HWS : Hid (wrap64 (acc + bt) = acc + bt) := Lib.hid (by unfold wrap64; omega)
      clear hx hbk q1 q2 hrow hpb hpe hxe HXE hacc hbte hP hpc
      obtain ⟨pl, hpl⟩ : ∃ pl, pl = P.length := ⟨_, rfl⟩
      have HPL := Lib.hid hpl
      rw [← hpl] at c1 hp16 hp2
      clear hpl
      go_wp2_with fail
      go_loopw [7, 11] (fun z j wr => ∃ m : Nat, m + 1 ≤ pl ∧ j = .int .i64 m ∧ z = .int .i64 (accV acc bt P q m) ∧ w2 = wr) (fun _ j _ => pl - (intOf j).toNat)
      case atStart => exact ⟨0, by omega, rfl, by rw [accV_zero], rfl⟩
      case round =>
        obtain ⟨m, hm, rfl, rfl, rfl⟩ := hrel
        by_cases hmt : m + 1 < pl
        · have hmi : (m : Int) + 1 < (pl : Int) := by omega
          have hmi2 : (m : Int) < (pl : Int) := by omega
          have hm2 : ((m : Int) + 1).toNat = m + 1 := by omega
          have hm3 : 0 ≤ (m : Int) + 1 := by omega
          have d0 := HCELL.out m (by rw [← HPL.out]; omega)
          have d1 := HCELL.out (m + 1) (by rw [← HPL.out]; omega)
          have HIS := Lib.hid (lnk_is P m a b)
          rw [← HQQ.out] at HIS
          have HIN := Lib.hid (inP_succ P q m)
          have HONE : Hid (q = lnk P m → inP P q m = false) := Lib.hid (inP_one HND.out (by rw [← HPL.out]; exact hmt))
          generalize P.getD m [] = x0 at *
          generalize P.getD (m + 1) [] = y0 at *
          generalize hb1 : (x0 == a) = b1 at *
          generalize hb2 : (y0 == b) = b2 at *
          generalize hb3 : (x0 == b) = b3 at *
          generalize hb4 : (y0 == a) = b4 at *
          by_cases hyes : q = lnk P m
          · have hdec := HIS.out.1 hyes
            have hf := HONE.out hyes
            have HV : Hid (accV acc bt P q (m + 1) = acc + bt) := Lib.hid (by unfold accV; rw [HIN.out, decide_eq_true hyes, Bool.or_true, if_pos rfl])
            have hav : accV acc bt P q m = acc := by unfold accV; rw [hf]; simp
            rw [hav]
            clear hav
            have hws := HWS.out
            clear hyes hf HIS HIN HONE
            cases b1 <;> cases b2 <;> cases b3 <;> cases b4 <;> first | (exfalso; revert hdec; decide) | skip
            all_goals
              go_wp2_with fail
              go_roundw
              case rel => exact ⟨m + 1, by omega, by go_num, by rw [HV.out], trivial⟩
              case measure => simp [intOf]; omega
          · have hdec : (b1 && b2 || b3 && b4) = false := by
              cases hz : (b1 && b2 || b3 && b4) with
              | false => rfl
              | true => exact absurd (HIS.out.2 hz) hyes
            have HV : Hid (accV acc bt P q (m + 1) = accV acc bt P q m) := Lib.hid (by unfold accV; rw [HIN.out, decide_eq_false hyes, Bool.or_false])
            clear hyes HIS HIN HONE
            generalize accV acc bt P q m = acc2 at *
            cases b1 <;> cases b2 <;> cases b3 <;> cases b4 <;> first | (exfalso; revert hdec; decide) | skip
            all_goals
              go_wp2_with fail
              go_roundw
              case rel => exact ⟨m + 1, by omega, by go_num, by rw [HV.out], trivial⟩
              case measure => simp [intOf]; omega
        · have hmi : ¬ (m : Int) + 1 < (pl : Int) := by omega
          obtain rfl : m = pl - 1 := by omega
          have HEND : Hid (accV acc bt P q (pl - 1) = heldSum (L.take (k + 1)) q) := Lib.hid (by rw [HTK.out, HON.out, HPL.out]; rfl)
          generalize accV acc bt P q (pl - 1) = acc2 at *
          go_wp2_with fail
          go_roundw
          case rel => exact ⟨k + 1, by omega, by go_num, by rw [HEND.out], trivial⟩
          case measure => simp [intOf]; omega
    · have hki : ¬ (k : Int) < (ln : Int) := by omega
      obtain rfl : k = ln := by omega
      have HALL : Hid (L.take k = L) := Lib.hid (by rw [HLN.out]; exact List.take_length)
      go_wp2_with fail
      go_ret
      exact ⟨by rw [HALL.out]; rfl, HB.out⟩
/-- Transfers in memory, from a base on. -/
def TrB (w : World) (base : Nat) (v : Value) (l : List SentM) : Prop := ∃ vals, w.ownsRow base 100 4 v l.length vals ∧
  ∀ (i : Nat) (x : SentM), l[i]? = some x → ∃ pv, vals[i * 4]? = some (.int .i64 x.id) ∧ vals[i * 4 + 1]? = some (.int .i64 x.need) ∧ vals[i * 4 + 2]? = some (.int .i64 x.len) ∧ vals[i * 4 + 3]? = some pv ∧ NmRows w pv x.paths
theorem TrB.ck {T : TypeId → Prop} {w w' : World} {base : Nat} {v : Value} {l : List SentM} (h : TrB w base v l) (hb : CK T w w') (h1 : T 9) (h2 : T 28) (h3 : T 100) : TrB w' base v l := by
  obtain ⟨vals, e1, e2⟩ := h
  refine ⟨vals, ownsRow_ck e1 hb h3, fun i x hx => ?_⟩
  obtain ⟨pv, q1, q2, q3, q4, q5⟩ := e2 i x hx
  exact ⟨pv, q1, q2, q3, q4, q5.ck hb h1 h2⟩
theorem TrB.push {w w' : World} {base : Nat} {v v' : Value} {l : List SentM} {x : SentM} {vals : List Value} {pv : Value} (ho : w.ownsRow base 100 4 v l.length vals)
    (hv : ∀ (i : Nat) (x : SentM), l[i]? = some x → ∃ pv, vals[i * 4]? = some (.int .i64 x.id) ∧ vals[i * 4 + 1]? = some (.int .i64 x.need) ∧ vals[i * 4 + 2]? = some (.int .i64 x.len) ∧ vals[i * 4 + 3]? = some pv ∧ NmRows w pv x.paths)
    (hp : NmRows w pv x.paths) (hown : w'.ownsRow base 100 4 v' (l.length + 1) (vals ++ [.int .i64 x.id, .int .i64 x.need, .int .i64 x.len, pv])) (hg : w.grownBy w' v.ownBlock) : TrB w' base v' (l ++ [x]) := by
  have hc := CK.grown_row ho hg
  have hl : vals.length = l.length * 4 := ho.1
  refine ⟨_, by simpa using hown, fun i y hy => ?_⟩
  have g0 := fun i j => getE4 (us := [Value.int .i64 x.id, Value.int .i64 x.need, Value.int .i64 x.len, pv]) (i := i) hl j
  rcases Nat.lt_or_ge i l.length with hi | hi
  · rw [List.getElem?_append_left hi] at hy
    obtain ⟨pv', q0, q1, q2, q3, q4⟩ := hv i y hy
    have z0 := ((g0 i 0).2 hi (by omega)); have z1 := ((g0 i 1).2 hi (by omega)); have z2 := ((g0 i 2).2 hi (by omega)); have z3 := ((g0 i 3).2 hi (by omega))
    rw [Nat.add_zero] at z0
    exact ⟨pv', z0.trans q0, z1.trans q1, z2.trans q2, z3.trans q3, q4.ck hc (by decide) (by decide)⟩
  · rw [List.getElem?_append_right hi] at hy
    have hi0 : i - l.length = 0 := by
      have := (List.getElem?_eq_some_iff.1 hy).1
      simpa using this
    rw [hi0] at hy
    obtain rfl : x = y := by simpa using hy
    have hil : i = l.length := by omega
    have z0 := (g0 i 0).1 hil; have z1 := (g0 i 1).1 hil; have z2 := (g0 i 2).1 hil; have z3 := (g0 i 3).1 hil
    rw [Nat.add_zero] at z0
    exact ⟨pv, z0, z1, z2, z3, hp.ck hc (by decide) (by decide)⟩
/-- Rows of names, in an own row. -/
def NmO (w : World) (base : Nat) (v : Value) (l : List (List Nm)) : Prop := ∃ vals, w.ownsRow base 28 1 v l.length vals ∧ ∀ (i : Nat) (x : List Nm), l[i]? = some x → ∃ u, vals[i]? = some u ∧ NmRow w u x
theorem NmO.ck {T : TypeId → Prop} {w w' : World} {base : Nat} {v : Value} {l : List (List Nm)} (h : NmO w base v l) (hb : CK T w w') (h1 : T 9) (h2 : T 28) : NmO w' base v l := by
  obtain ⟨vals, e1, e2⟩ := h
  refine ⟨vals, ownsRow_ck e1 hb h2, fun i x hx => ?_⟩
  obtain ⟨u, q1, q2⟩ := e2 i x hx
  exact ⟨u, q1, q2.ck hb h1⟩
theorem NmO.rows {w : World} {base : Nat} {v : Value} {l : List (List Nm)} (h : NmO w base v l) (h0 : l ≠ []) : NmRows w v l := by
  obtain ⟨vals, h1, h2⟩ := h
  rcases h1.2 with ⟨_, h3⟩ | ⟨g, cap, cur, hv, hg1, hh, hcap, _, _, htk⟩
  · exact absurd (List.length_eq_zero_iff.1 h3) h0
  · refine ⟨g, cap, cur, hv, hcap, hh, fun i x hx => ?_⟩
    obtain ⟨u, q1, q2⟩ := h2 i x hx
    have hi := (List.getElem?_eq_some_iff.1 hx).1
    rw [← htk, List.getElem?_take, if_pos (by omega), Array.getElem?_toList] at q1
    exact ⟨u, q1, q2⟩
theorem NmO.push {w w' : World} {base : Nat} {v v' u : Value} {l : List (List Nm)} {x : List Nm} {vals : List Value} (ho : w.ownsRow base 28 1 v l.length vals) (hv : ∀ (i : Nat) (x : List Nm), l[i]? = some x → ∃ u, vals[i]? = some u ∧ NmRow w u x)
    (hp : NmRow w u x) (hown : w'.ownsRow base 28 1 v' (l.length + 1) (vals ++ [u])) (hg : w.grownBy w' v.ownBlock) : NmO w' base v' (l ++ [x]) := by
  have hc := CK.grown_row ho hg
  have hl : vals.length = l.length := by have := ho.1; omega
  refine ⟨_, by simpa using hown, fun i y hy => ?_⟩
  rcases Nat.lt_or_ge i l.length with hi | hi
  · rw [List.getElem?_append_left hi] at hy
    obtain ⟨u', q0, q1⟩ := hv i y hy
    exact ⟨u', by rw [List.getElem?_append_left (by omega)]; exact q0, q1.ck hc (by decide)⟩
  · rw [List.getElem?_append_right hi] at hy
    have hi0 : i - l.length = 0 := by
      have := (List.getElem?_eq_some_iff.1 hy).1
      simpa using this
    rw [hi0] at hy
    obtain rfl : x = y := by simpa using hy
    exact ⟨u, by rw [List.getElem?_append_right (by omega), hl, hi0]; rfl, hp.ck hc (by decide)⟩
open Go.ChangeShapes Go.WideShapes Go.ChangeAt Go.RowKit
section
variable {H : Type} {enc : TypeId × Value → H} {P : Program} {w : World} {base : Nat} {spare : Nat → Bool} {held : Bool}
theorem OpenAct_fields {t : TypeId} {f0 f1 f2 f3 f4 f5 f6 f7 f8 f9 : Field} {fuel : Nat} {cs : List Value} {x : DataW H × List MemPlace} (ht : P.underlying t = some (.struct #[f0, f1, f2, f3, f4, f5, f6, f7, f8, f9])) (h : DataW.trod enc P w base spare held fuel t cs = some x) :
    ∃ (n : Nat) (y0 y1 y2 y4 y5 y6 y7 y8 y9 : DataW H × List MemPlace), DataW.trod enc P w base spare held n f0.type ((cs.drop f0.offset).take (P.cellsOf f0.type)) = some y0 ∧ DataW.trod enc P w base spare held n f1.type ((cs.drop f1.offset).take (P.cellsOf f1.type)) = some y1 ∧ DataW.trod enc P w base spare held n f2.type ((cs.drop f2.offset).take (P.cellsOf f2.type)) = some y2 ∧
      DataW.trod enc P w base spare held n f4.type ((cs.drop f4.offset).take (P.cellsOf f4.type)) = some y4 ∧ DataW.trod enc P w base spare held n f5.type ((cs.drop f5.offset).take (P.cellsOf f5.type)) = some y5 ∧ DataW.trod enc P w base spare held n f6.type ((cs.drop f6.offset).take (P.cellsOf f6.type)) = some y6 ∧
      DataW.trod enc P w base spare held n f7.type ((cs.drop f7.offset).take (P.cellsOf f7.type)) = some y7 ∧ DataW.trod enc P w base spare held n f8.type ((cs.drop f8.offset).take (P.cellsOf f8.type)) = some y8 ∧ DataW.trod enc P w base spare held n f9.type ((cs.drop f9.offset).take (P.cellsOf f9.type)) = some y9 := by
  obtain ⟨xs, n, _, rfl, hl, hlen, hf⟩ := DataW.trod_struct ht h
  match xs, hlen with
  | [y0, y1, y2, y3, y4, y5, y6, y7, y8, y9], _ => exact ⟨n, y0, y1, y2, y4, y5, y6, y7, y8, y9, by simpa using hf 0 f0 rfl, by simpa using hf 1 f1 rfl, by simpa using hf 2 f2 rfl, by simpa using hf 4 f4 rfl, by simpa using hf 5 f5 rfl, by simpa using hf 6 f6 rfl, by simpa using hf 7 f7 rfl, by simpa using hf 8 f8 rfl, by simpa using hf 9 f9 rfl⟩
end
theorem OpenAct_list {α : Type} {l : List α} (h : l.length = 13) : ∃ a0 a1 a2 a3 a4 a5 a6 a7 a8 a9 a10 a11 a12, l = [a0, a1, a2, a3, a4, a5, a6, a7, a8, a9, a10, a11, a12] := by
  match l, h with
  | [a0, a1, a2, a3, a4, a5, a6, a7, a8, a9, a10, a11, a12], _ => exact ⟨a0, a1, a2, a3, a4, a5, a6, a7, a8, a9, a10, a11, a12, rfl⟩
theorem OpenAct_each {α : Type} {Q : Nat → α → Prop} : ∀ (n : Nat), (∀ k, k < n → ∃ x, Q k x) → ∃ l : List α, l.length = n ∧ ∀ k (h : k < l.length), Q k l[k]
  | 0, _ => ⟨[], rfl, fun k h => absurd h (by simp)⟩
  | n + 1, h => by
    obtain ⟨l, hl, hq⟩ := OpenAct_each n (fun k hk => h k (by omega))
    obtain ⟨x, hx⟩ := h n (by omega)
    refine ⟨l ++ [x], by simp [hl], fun k hk => ?_⟩
    rcases Nat.lt_or_ge k l.length with h1 | h1
    · rw [List.getElem_append_left h1]; exact hq k h1
    · have hk' : k = l.length := by simp at hk; omega
      subst hk'
      rw [List.getElem_append_right (Nat.le_refl _)]
      simpa [hl] using hx
def actsC (l : List ActV) : List Value := l.flatMap actC
theorem actC_len (x : ActV) : (actC x).length = 13 := rfl
theorem actsC_len : ∀ l : List ActV, (actsC l).length = l.length * 13
  | [] => rfl
  | x :: l => by
    have := actsC_len l
    unfold actsC at *
    rw [List.flatMap_cons, List.length_append, this, actC_len, List.length_cons]
    omega
theorem actsC_get : ∀ (l : List ActV) (k : Nat) (x : ActV), l[k]? = some x → ∀ o, o < 13 → (actsC l)[k * 13 + o]? = (actC x)[o]?
  | [], k, x, h, o, ho => by simp at h
  | y :: l, 0, x, h, o, ho => by
    obtain rfl : y = x := by simpa using h
    unfold actsC
    rw [List.flatMap_cons, Nat.zero_mul, Nat.zero_add, List.getElem?_append_left (by rw [actC_len]; exact ho)]
  | y :: l, k + 1, x, h, o, ho => by
    have := actsC_get l k x (by simpa using h) o ho
    unfold actsC at *
    rw [List.flatMap_cons, List.getElem?_append_right (by rw [actC_len]; omega), actC_len, show (k + 1) * 13 + o - 13 = k * 13 + o by omega]
    exact this
structure ActsArg where
  A : Option Addr
  n : Nat
  c : Nat
  l : List ActV
def IsActs (w : World) (v : Value) (i : ActsArg) : Prop := v = .slice i.A i.n i.c ∧ i.n ≤ i.c ∧ i.c ≤ 9223372036854775807 ∧ i.l.length = i.n ∧ Rd w w.heap.size 13 i.A i.n (actsC i.l) ∧ ∀ x ∈ i.l, x.raw w
theorem actsC_rd {w : World} {b off n : Nat} {l : List ActV} (hl : l.length = n) (hb : 0 < n → b < w.heap.size) (h : ∀ k (h : k < l.length), ∀ o, o < 13 → w.cell? ⟨b, off + k * 13 + o, none⟩ = (actC l[k])[o]?) : Rd w w.heap.size 13 (some ⟨b, off, none⟩) n (actsC l) := by
  refine ⟨by rw [actsC_len, hl], fun hn => ⟨b, off, rfl, hb hn, fun j u hu => ?_⟩⟩
  have hj : j < l.length * 13 := by have := (List.getElem?_eq_some_iff.1 hu).1; rwa [actsC_len] at this
  have hjl : j / 13 < l.length := by omega
  have hm : j % 13 < 13 := Nat.mod_lt _ (by omega)
  have e : j = j / 13 * 13 + j % 13 := by omega
  rw [e, actsC_get l (j / 13) _ (List.getElem?_eq_getElem hjl) _ hm] at hu
  rw [e, ← Nat.add_assoc, h _ hjl _ hm]
  exact hu
section
variable {H : Type} {enc : TypeId × Value → H} {W : World} {v : Value} {d : DataW H} {p : List MemPlace}
set_option maxRecDepth 100000 in
set_option maxHeartbeats 1000000 in
theorem open_acts_cells {fuel : Nat} {cs : List Value} {x : DataW H × List MemPlace} (h : DataW.trod enc Tryz.prog W 0 (fun _ => true) true fuel 23 cs = some x) :
    ∃ i, cs = [.slice i.A i.n i.c] ∧ IsActs W (.slice i.A i.n i.c) i := by
  rcases Deep.open_slice Tryz.underlying23 h with ⟨hc, _⟩ | ⟨a, len, cap, m, n, D, Pl, hc, _, hl, hm, hm2, _, hel⟩
  · exact ⟨⟨none, 0, 0, []⟩, hc, rfl, Nat.le_refl _, by decide, rfl, Rd.nil _ _ _ _, by simp⟩
  · have c1 : Tryz.prog.cellsOf 43 = 13 := by kernel_rfl
    have k1 : Tryz.prog.cellsOf 5 = 1 := by kernel_rfl
    have k2 : Tryz.prog.cellsOf 9 = 1 := by kernel_rfl
    have k3 : Tryz.prog.cellsOf 3 = 1 := by kernel_rfl
    have k4 : Tryz.prog.cellsOf 2 = 1 := by kernel_rfl
    have k5 : Tryz.prog.cellsOf 41 = 1 := by kernel_rfl
    have hsp : 0 < len → a.spot = none := fun h0 => by
      obtain ⟨cs', hcs', ht⟩ := hel 0 (by rw [hm2, if_pos rfl]; omega)
      rw [c1] at hcs'
      obtain ⟨_, hcl, hcell⟩ := World.cells?_some hcs'
      obtain ⟨a0, a1, a2, a3, a4, a5, a6, a7, a8, a9, a10, a11, a12, rfl⟩ := OpenAct_list hcl
      have q0 := hcell 0 (by omega)
      simp only [List.getElem?_cons_zero, Deep.add_add, Nat.zero_mul, Nat.add_zero] at q0
      exact spot_none q0 rfl
    obtain ⟨l, hll, hq⟩ := OpenAct_each (Q := fun k (s : ActV) => a.block < W.heap.size ∧ (∀ o, o < 13 → W.cell? ⟨a.block, a.off + k * 13 + o, none⟩ = (actC s)[o]?) ∧ s.raw W) len (fun k hk => by
      have hml : k < m := by rw [hm2, if_pos rfl]; omega
      obtain ⟨cs', hcs', ht⟩ := hel k hml
      rw [c1] at hcs'
      obtain ⟨_, hcl, hcell⟩ := World.cells?_some hcs'
      obtain ⟨n', y0, y1, y2, y4, y5, y6, y7, y8, y9, f0, f1, f2, f4, f5, f6, f7, f8, f9⟩ := OpenAct_fields Tryz.underlying43 ht
      obtain ⟨a0, a1, a2, a3, a4, a5, a6, a7, a8, a9, a10, a11, a12, rfl⟩ := OpenAct_list hcl
      simp only [k1, k2, k3, k4, k5, List.drop_zero, List.drop_succ_cons, List.take_succ_cons, List.take_zero] at f0 f1 f2 f4 f5 f6 f7 f8 f9
      obtain ⟨z0, e0, _, wa0⟩ := DataW.trod_int Tryz.underlying5 f0
      obtain ⟨z1, e1, _, wa1⟩ := DataW.trod_string Tryz.underlying9 f1
      obtain ⟨z2, e2, _, wa2⟩ := DataW.trod_string Tryz.underlying9 f2
      obtain ⟨z4, e4, _, _⟩ := DataW.trod_int Tryz.underlying3 f4
      obtain ⟨z5, e5, _, _⟩ := DataW.trod_int Tryz.underlying3 f5
      obtain ⟨z6, e6, _, _⟩ := DataW.trod_int Tryz.underlying3 f6
      obtain ⟨z7, e7, _, _⟩ := DataW.trod_int Tryz.underlying2 f7
      obtain ⟨i8, e8, hi8⟩ := open_bytes_cells f8
      obtain ⟨i9, e9, hi9⟩ := open_bytes_cells f9
      simp only [List.cons.injEq, and_true] at e0 e1 e2 e4 e5 e6 e7 e8 e9
      subst e0 e1 e2 e4 e5 e6 e7 e8 e9
      obtain ⟨n0, rfl, hn0⟩ := open_nat_u8 wa0
      have hs := hsp (by omega)
      have q0 := hcell 0 (by omega)
      simp only [List.getElem?_cons_zero, Deep.add_add, Nat.add_zero] at q0
      have hb : a.block < W.heap.size := by
        have := World.block_lt_of_cell? W _ q0
        rwa [add_spot hs] at this
      refine ⟨⟨n0, z1.data.toList, z2.data.toList, a3, a4, a5, a6, z4, z5, z6, z7, i8, i9⟩, hb, fun o ho => ?_, ⟨hn0, by rw [Array.length_toList]; exact wa1, by rw [Array.length_toList]; exact wa2, hi8, hi9⟩⟩
      have qo := hcell o ho
      rw [Deep.add_add, add_spot hs] at qo
      rw [Nat.add_assoc]
      refine qo.trans ?_
      unfold actC
      rw [encS_data, encS_data])
    have hrd : Rd W W.heap.size 13 (some a) len (actsC l) := by
      rcases Nat.eq_zero_or_pos len with h0 | h0
      · subst h0; obtain rfl := List.eq_nil_of_length_eq_zero hll; exact Rd.nil _ _ _ _
      · have hs := hsp h0
        have := actsC_rd (w := W) (b := a.block) (off := a.off) hll (fun _ => (hq 0 (by omega)).1) (fun k hk => (hq k hk).2.1)
        rwa [← hs] at this
    exact ⟨⟨some a, len, cap, l⟩, hc, rfl, hl, by simp [maxLen] at hm; omega, hll, hrd, fun p hp => by
      obtain ⟨k, hk, rfl⟩ := List.getElem_of_mem hp
      exact (hq k hk).2.2⟩
set_option maxRecDepth 100000 in
theorem open_acts {base : Nat} (hv : Value.okWide Tryz.prog W .any base 23 v) (h : DataW.Trod enc Tryz.prog W 0 (fun _ => true) true 23 v d p) : ∃ i, IsActs W v i := by
  obtain ⟨a, n, c, rfl⟩ := okWide_slice Tryz.underlying23 hv
  obtain ⟨fuel, hf⟩ := h
  obtain ⟨i, hc, hi⟩ := open_acts_cells hf
  simp only [Value.cells] at hc
  exact ⟨i, by rw [show (Value.slice a n c) = .slice i.A i.n i.c by simpa using hc]; exact hi⟩
end
end Go.Proofs.YtblilfbhohnbgaaGreat
