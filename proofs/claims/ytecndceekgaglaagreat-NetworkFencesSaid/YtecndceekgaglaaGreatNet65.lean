/- The law's own call. Conditions: as each statement says. -/
import Derived.Test.YtecndceekgaglaaGreatNet63
import Derived.Test.YtecndceekgaglaaGreatNet44
import Derived.Test.YtecndceekgaglaaGreatOpen
namespace Go.Proofs.YtecndceekgaglaaGreat
open Go.RowKit
set_option linter.unusedVariables false
/-- A network all of whose blocks lie from B on. -/
def NetB (B : Nat) (w : World) (N : Nat) (s : NS) : Prop := ∃ bn bl vh vs, NetAt w N s bn bl vh vs ∧ NI s ∧ B ≤ N ∧ B ≤ bn ∧ B ≤ bl ∧ (∀ k, vh.ownBlock = some k → B ≤ k) ∧ (∀ k, vs.ownBlock = some k → B ≤ k)
theorem NetB.far {B : Nat} {w w' : World} {N : Nat} {s : NS} (h : NetB B w N s) (hb : Below w.heap.size w w') : NetB B w' N s := by
  obtain ⟨bn, bl, vh, vs, h1, h2⟩ := h
  exact ⟨bn, bl, vh, vs, h1.far hb, h2⟩
/-- The types of blocks that a network does not use. -/
abbrev NT (t : TypeId) : Prop := t ≠ 101 ∧ t ≠ 83 ∧ t ≠ 96
def NextP (B N : Nat) (w : World) (s' : NS) (w' : World) : Prop := NetB B w' N s' ∧ Below B w w' ∧ CK NT w w'
theorem NetB.next {B N : Nat} {w w' : World} {s s' : NS} {bn bl : Nat} {vh vs vh' vs' : Value} {L : List Nat} (h : NetAt w N s bn bl vh vs) (hB : B ≤ N ∧ B ≤ bn ∧ B ≤ bl ∧ (∀ k, vh.ownBlock = some k → B ≤ k) ∧ (∀ k, vs.ownBlock = some k → B ≤ k))
    (hk : KeepL L w w') (hL : ∀ k ∈ L, k = N ∨ k = bn ∨ k = bl ∨ vh.ownBlock = some k ∨ vs.ownBlock = some k) (h' : NetAt w' N s' bn bl vh' vs') (hv : ∀ k, vh'.ownBlock = some k → vh.ownBlock = some k ∨ w.heap.size ≤ k) (hs : ∀ k, vs'.ownBlock = some k → vs.ownBlock = some k ∨ w.heap.size ≤ k) (hni : NI s') : NextP B N w s' w' := by
  obtain ⟨b1, b2, b3, b4, b5⟩ := hB
  have hw : B ≤ w.heap.size := Nat.le_trans b1 (Nat.le_of_lt h.blk.lt)
  refine ⟨⟨bn, bl, vh', vs', h', hni, b1, b2, b3, fun k e => ?_, fun k e => ?_⟩, hk.below hw (fun k hm => ?_), CK.keepL hk (fun k hm cs t ht hb => ?_)⟩
  · rcases hv k e with h1 | h1
    · exact b4 k h1
    · omega
  · rcases hs k e with h1 | h1
    · exact b5 k h1
    · omega
  · rcases hL k hm with rfl | rfl | rfl | h1 | h1
    · exact b1
    · exact b2
    · exact b3
    · exact b4 k h1
    · exact b5 k h1
  · have same : ∀ {cs' t'}, Bk w k cs' t' → t = t' := fun {cs' t'} hb' => by
      unfold Bk at hb hb'
      rw [hb] at hb'
      injection hb' with hb'
      injection hb'
    rcases hL k hm with rfl | rfl | rfl | h1 | h1
    · exact ht.1 (same h.blk)
    · exact h.nodes.noBk hb
    · exact h.links.noBk hb
    · obtain ⟨vals, ho, _⟩ := h.holds
      obtain ⟨cs', hb'⟩ := ownBlock_cells ho h1
      exact ht.2.1 (same hb')
    · obtain ⟨vals, ho, _⟩ := h.sents
      obtain ⟨cs', hb'⟩ := ownBlock_cells ho h1
      exact ht.2.2 (same hb')
theorem NextP.far {B N : Nat} {w w' w2 : World} {s' : NS} (hb : Below w.heap.size w w2) (hB : B ≤ w.heap.size) (h : NextP B N w2 s' w') : NextP B N w s' w' :=
  ⟨h.1, (hb.mono hB).trans h.2.1, (CK.of_below hb).trans h.2.2⟩
/-- A call that came in. -/
structure ActV where
  d : Nat
  a : Nm
  b : Nm
  l1 : Value
  l2 : Value
  l3 : Value
  l4 : Value
  n : Int
  k : Int
  need : Int
  til : Int
  s : BytesArg
  c : BytesArg
def actC (x : ActV) : List Value := [.int .u8 (x.d : Int), encS x.a, encS x.b, x.l1, x.l2, x.l3, x.l4, .int .i64 x.n, .int .i64 x.k, .int .i64 x.need, .int .i64 x.til, .slice x.s.A x.s.n x.s.c, .slice x.c.A x.c.n x.c.c]
structure ActV.raw (w : World) (x : ActV) : Prop where
  d : x.d < 256
  a : x.a.length ≤ maxLen
  b : x.b.length ≤ maxLen
  s : IsBytes w (.slice x.s.A x.s.n x.s.c) x.s
  c : IsBytes w (.slice x.c.A x.c.n x.c.c) x.c
theorem IsBytes.far {w w' : World} {v : Value} {i : BytesArg} (h : IsBytes w v i) (hb : Below w.heap.size w w') : IsBytes w' v i := by
  obtain ⟨h1, h2, h3, h4, h5, h6⟩ := h
  exact ⟨h1, h2, h3, h4, h5, (h6.below hb).mono hb.size⟩
theorem ActV.raw.far {w w' : World} {x : ActV} (h : x.raw w) (hb : Below w.heap.size w w') : x.raw w' := ⟨h.d, h.a, h.b, h.s.far hb, h.c.far hb⟩
/-- What a call leaves. -/
def CallP (B N : Nat) (s : NS) (w : World) (e : Ending) (w' : World) : Prop := e = .returned (.tuple #[]) ∧ ∃ s', Step s s' ∧ NextP B N w s' w'
theorem NetB.same {B N : Nat} {w w' : World} {s : NS} {bn bl : Nat} {vh vs : Value} (h : NetAt w' N s bn bl vh vs) (hni : NI s) (hB : B ≤ N ∧ B ≤ bn ∧ B ≤ bl ∧ (∀ k, vh.ownBlock = some k → B ≤ k) ∧ (∀ k, vs.ownBlock = some k → B ≤ k)) (hw : B ≤ w.heap.size) (hb : Below w.heap.size w w') : ∃ s', Step s s' ∧ NextP B N w s' w' :=
  ⟨s, Step.refl s, ⟨bn, bl, vh, vs, h, hni, hB⟩, hb.mono hw, CK.of_below hb⟩
set_option maxRecDepth 100000 in
set_option maxHeartbeats 4000000 in
theorem call_any {B N : Nat} {w : World} {s : NS} (h : NetB B w N s) (x : ActV) (hx : x.raw w) : Calls Tryz.prog 24 #[.pointer (some ⟨N, 0, none⟩), .agg (actC x).toArray] w (CallP B N s w) := by
  obtain ⟨bn, bl, vh, vs, hn, hni, hB⟩ := h
  obtain ⟨w1, hw1⟩ : ∃ w1, w1 = w.alloc (.cells (actC x).toArray 68) := ⟨_, rfl⟩
  have hb1 : Below w.heap.size w w1 := by rw [hw1]; exact below_alloc _ _
  have hbk : Bk w1 w.heap.size (actC x).toArray 68 := by rw [hw1]; exact Bk.new _ _ _
  have hszB : B ≤ w.heap.size := Nat.le_trans hB.1 (Nat.le_of_lt hn.blk.lt)
  have hxx := hx.far hb1
  have hn1 := hn.far hb1
  have HN := Lib.hid hn1; have HNI := Lib.hid hni; have HB := Lib.hid hB; have HB1 := Lib.hid hb1; have HX := Lib.hid hxx; have HSZ := Lib.hid hszB; have HW1 := Lib.hid hw1
  have a0 := hbk.cell 0; have a1 := hbk.cell 1; have a2 := hbk.cell 2; have a7 := hbk.cell 7; have a8 := hbk.cell 8; have a9 := hbk.cell 9; have a10 := hbk.cell 10; have a11 := hbk.cell 11; have a12 := hbk.cell 12
  simp only [actC, List.getElem?_toArray, List.getElem?_cons_succ, List.getElem?_cons_zero] at a0 a1 a2 a7 a8 a9 a10 a11 a12
  have HNEXT : Hid (∀ (s' : NS) (w' : World), NextP B N w1 s' w' → NextP B N w s' w') := Lib.hid fun s' w' h => h.far hb1 hszB
  have HSAME : Hid (∀ (w' : World), NetAt w' N s bn bl vh vs → Below w1.heap.size w1 w' → ∃ s', Step s s' ∧ NextP B N w s' w') := Lib.hid fun w' hn' hb' => NetB.same hn' hni hB hszB (bnextK hb1 hb')
  have HVV : Hid (∀ k, vs.ownBlock = some k → vs.ownBlock = some k ∨ w1.heap.size ≤ k) := Lib.hid fun k hk => .inl hk
  have hd := hx.d
  obtain ⟨m, hm⟩ : ∃ m, m = x.d % 6 := ⟨_, rfl⟩
  have hm6 : m < 6 := by omega
  have hr1 : Int.tmod (x.d : Int) 6 = (m : Int) := by rw [Int.tmod_eq_emod_of_nonneg (by omega)]; omega
  have hr2 : (x.d : Int) % 6 = (m : Int) := by omega
  have hr3 : IntKind.u8.wrap (m : Int) = (m : Int) := by simp [IntKind.wrap, IntKind.bits, IntKind.signed]; omega
  have HT := Lib.hid (Tick_any hn1 hni x.n)
  have HR := Lib.hid (Reserve_any hn1 hni x.a x.b x.n x.til hx.a hx.b)
  have HU := Lib.hid (Use_any hn1 hni x.n)
  have HC := Lib.hid (Cancel_any hn1 hni x.n)
  have HF := Lib.hid (Fence_any hn1 hni x.a hx.a)
  have HS : Hid (Calls Tryz.prog 18 #[.pointer (some ⟨N, 0, none⟩), encS x.a, encS x.b, .slice x.s.A x.s.n x.s.c, .int .i64 x.k, .int .i64 x.need, .slice x.c.A x.c.n x.c.c] w1 (SendP N s bn bl vh vs x.a x.b x.s.l x.c.l x.s.n x.c.n x.k x.need w1)) := Lib.hid (by
    obtain ⟨_, s2, s3, s4, s5, s6⟩ := hxx.s
    obtain ⟨_, c2, c3, c4, c5, c6⟩ := hxx.c
    exact Send_any hn1 x.a x.b x.s.A x.c.A x.s.n x.s.c x.c.n x.c.c x.k x.need x.s.l x.c.l hx.a hx.b hni.sl (by omega) s2 c2 s5 c5 s6 c6)
  clear hn hni hB hw1 hb1 hbk hxx hn1 hx hszB hm hd
  unfold actC at HW1
  simp only [actC]
  match m, hm6 with
  | 0, _ =>
    try simp only [Nat.cast_ofNat, Int.ofNat_eq_natCast] at hr1 hr2 hr3
    go_enter Tryz.func24, Tryz.ntmps24
    go_wp2_with fail
    try rw [← HW1.out]
    go_wp2_with fail
    refine HT.out.mono ?_
    rintro e w2 hq
    obtain ⟨z, hz, rfl, hq | ⟨hz0, ⟨vh', hn2, hv2⟩, hk2⟩⟩ := hq
    · have HQ := Lib.hid (HSAME.out w2 hq.2.1 hq.2.2)
      clear hq hz
      go_wp2_with fail
      go_end0
      exact ⟨rfl, HQ.out⟩
    · have h3 := tickE_zero (s := s) (t := x.n) (by rw [← hz]; exact hz0)
      have hok := tick_ok HN.out.ok HNI.out h3.1 h3.2.2
      have HQ : Hid (∃ s', Step s s' ∧ NextP B N w s' w2) := Lib.hid ⟨_, hok.2.2, HNEXT.out _ _ (NetB.next HN.out HB.out hk2 (fun k hk => by simp only [List.mem_cons, List.not_mem_nil, or_false] at hk; rcases hk with rfl | rfl <;> simp) hn2 (fun k hk => .inr (hv2 k hk)) HVV.out hok.2.1)⟩
      clear h3 hok hz0 hn2 hv2 hk2 hz
      go_wp2_with fail
      go_end0
      exact ⟨rfl, HQ.out⟩
  | 1, _ =>
    try simp only [Nat.cast_ofNat, Int.ofNat_eq_natCast] at hr1 hr2 hr3
    go_enter Tryz.func24, Tryz.ntmps24
    go_wp2_with fail
    try rw [← HW1.out]
    go_wp2_with fail
    refine HR.out.mono ?_
    rintro e w2 hq
    obtain ⟨id, z, rfl, hq⟩ := hq
    rcases hq with ⟨_, _, _, hn2, hb2⟩ | ⟨_, hz, _, p, l, hpl, hgood, ⟨vh', hn2, hv2⟩, hk2⟩
    · have HQ := Lib.hid (HSAME.out w2 hn2 hb2)
      clear hn2 hb2
      go_wp2_with fail
      go_end0
      exact ⟨rfl, HQ.out⟩
    · obtain ⟨e1, e2, e3⟩ := resE_zero hz
      have hbt := amtE_zero e2
      have hok := res_ok (til := x.til) (id := wrap64 (s.last + 1)) HN.out.ok HNI.out hgood hbt.1 hbt.2 e3
      have HQ : Hid (∃ s', Step s s' ∧ NextP B N w s' w2) := Lib.hid ⟨_, hok.2.2, HNEXT.out _ _ (NetB.next HN.out HB.out hk2 (fun k hk => by
        simp only [List.mem_cons, Option.mem_toList] at hk
        rcases hk with rfl | rfl | h
        · exact .inl rfl
        · exact .inr (.inr (.inl rfl))
        · exact .inr (.inr (.inr (.inl h)))) hn2 hv2 HVV.out hok.2.1)⟩
      clear e1 e2 e3 hbt hok hn2 hv2 hk2 hz hpl hgood
      go_wp2_with fail
      go_end0
      exact ⟨rfl, HQ.out⟩
  | 2, _ =>
    try simp only [Nat.cast_ofNat, Int.ofNat_eq_natCast] at hr1 hr2 hr3
    go_enter Tryz.func24, Tryz.ntmps24
    go_wp2_with fail
    try rw [← HW1.out]
    go_wp2_with fail
    refine HU.out.mono ?_
    rintro e w2 hq
    rcases hq with ⟨rfl, _, hn2, hb2⟩ | ⟨i, y, v, rfl, ⟨hy, _, ⟨vh', hn2, hv2⟩, hk2⟩, hrow⟩
    · have HQ := Lib.hid (HSAME.out w2 hn2 hb2)
      clear hn2 hb2
      go_wp2_with fail
      go_end0
      exact ⟨rfl, HQ.out⟩
    · have hb16 := HNI.out.held.each y (List.mem_of_getElem? hy)
      have hok := back_ok HN.out.ok HNI.out hy (f := 0) (sp := y.bits) (by omega) (by have := hb16.b1; omega) (by have := hb16.b1; omega)
      have HQ : Hid (∃ s', Step s s' ∧ NextP B N w s' w2) := Lib.hid ⟨_, hok.2.2, HNEXT.out _ _ (NetB.next HN.out HB.out hk2 (fun k hk => by simp only [List.mem_cons, List.not_mem_nil, or_false] at hk; rcases hk with rfl | rfl <;> simp) hn2 (fun k hk => .inr (hv2 k hk)) HVV.out hok.2.1)⟩
      clear hb16 hok hn2 hv2 hk2 hy
      obtain ⟨gb, gc, gcs, rfl, _⟩ := hrow
      go_wp2_with fail
      go_end0
      exact ⟨rfl, HQ.out⟩
  | 3, _ =>
    try simp only [Nat.cast_ofNat, Int.ofNat_eq_natCast] at hr1 hr2 hr3
    go_enter Tryz.func24, Tryz.ntmps24
    go_wp2_with fail
    try rw [← HW1.out]
    go_wp2_with fail
    refine HC.out.mono ?_
    rintro e w2 hq
    rcases hq with ⟨rfl, _, hn2, hb2⟩ | ⟨i, y, rfl, hy, _, ⟨vh', hn2, hv2⟩, hk2⟩
    · have HQ := Lib.hid (HSAME.out w2 hn2 hb2)
      clear hn2 hb2
      go_wp2_with fail
      go_end0
      exact ⟨rfl, HQ.out⟩
    · have hb16 := HNI.out.held.each y (List.mem_of_getElem? hy)
      have hok := back_ok HN.out.ok HNI.out hy (f := y.bits) (sp := 0) (by omega) (by have := hb16.b1; omega) (by have := hb16.b1; omega)
      have HQ : Hid (∃ s', Step s s' ∧ NextP B N w s' w2) := Lib.hid ⟨_, hok.2.2, HNEXT.out _ _ (NetB.next HN.out HB.out hk2 (fun k hk => by simp only [List.mem_cons, List.not_mem_nil, or_false] at hk; rcases hk with rfl | rfl <;> simp) hn2 (fun k hk => .inr (hv2 k hk)) HVV.out hok.2.1)⟩
      clear hb16 hok hn2 hv2 hk2 hy
      skip
      go_wp2_with fail
      go_end0
      exact ⟨rfl, HQ.out⟩
  | 4, _ =>
    try simp only [Nat.cast_ofNat, Int.ofNat_eq_natCast] at hr1 hr2 hr3
    go_enter Tryz.func24, Tryz.ntmps24
    go_wp2_with fail
    try rw [← HW1.out]
    go_wp2_with fail
    refine HS.out.mono ?_
    rintro e w2 hq
    obtain ⟨id, z, rfl, hq⟩ := hq
    rcases hq with ⟨_, _, _, hn2, hb2⟩ | ⟨_, hz, hpl, _, vs', hn2, hk2, hv2⟩
    · have HQ := Lib.hid (HSAME.out w2 hn2 hb2)
      clear hn2 hb2
      go_wp2_with fail
      go_end0
      exact ⟨rfl, HQ.out⟩
    · have hk4 := (sendE_zero hz).2.2.2.2.2.2.1
      have hok := send_ok HN.out.ok HNI.out (m := x.c.n) (need := x.need) x.s.l x.c.l (x.need.toNat - 1) (k := x.k.toNat) (by rw [show ((x.k.toNat : Nat) : Int) = x.k by omega]; exact hz) hpl
      have HQ : Hid (∃ s', Step s s' ∧ NextP B N w s' w2) := Lib.hid ⟨_, hok.2.2, HNEXT.out _ _ (NetB.next HN.out HB.out hk2 (fun k hk => by
        simp only [List.mem_cons, Option.mem_toList] at hk
        rcases hk with rfl | rfl | h
        · exact .inl rfl
        · exact .inr (.inr (.inl rfl))
        · exact .inr (.inr (.inr (.inr h)))) hn2 (fun k hk => .inl hk) hv2 hok.2.1)⟩
      clear hk4 hok hn2 hv2 hk2 hz hpl
      go_wp2_with fail
      go_end0
      exact ⟨rfl, HQ.out⟩
  | 5, _ =>
    try simp only [Nat.cast_ofNat, Int.ofNat_eq_natCast] at hr1 hr2 hr3
    go_enter Tryz.func24, Tryz.ntmps24
    go_wp2_with fail
    try rw [← HW1.out]
    go_wp2_with fail
    refine HF.out.mono ?_
    rintro e w2 hq
    obtain ⟨z, hz, rfl, hq | ⟨hz0, ⟨vh', hn2, hv2⟩, hk2⟩⟩ := hq
    · have HQ := Lib.hid (HSAME.out w2 hq.2.1 hq.2.2)
      clear hq hz
      go_wp2_with fail
      go_end0
      exact ⟨rfl, HQ.out⟩
    · have hok := fence_ok HN.out.ok HNI.out x.a
      have HQ : Hid (∃ s', Step s s' ∧ NextP B N w s' w2) := Lib.hid ⟨_, hok.2.2.1, HNEXT.out _ _ (NetB.next HN.out HB.out hk2 (fun k hk => by simp only [List.mem_cons, List.not_mem_nil, or_false] at hk; rcases hk with rfl | rfl | rfl <;> simp) hn2 (fun k hk => .inr (hv2 k hk)) HVV.out hok.2.1)⟩
      clear hok hz0 hn2 hv2 hk2 hz
      go_wp2_with fail
      go_end0
      exact ⟨rfl, HQ.out⟩
end Go.Proofs.YtecndceekgaglaaGreat
/- The law's own held and has. Conditions: as each statement says. -/
namespace Go.Proofs.YtecndceekgaglaaGreat
open Go.RowKit
set_option linter.unusedVariables false
set_option maxRecDepth 100000 in
set_option maxHeartbeats 1000000 in
theorem has_any (A : Option Addr) (n c : Nat) (l : List Nm) (x : Nm) (w : World) (B : Nat) (hn : n ≤ 1000000) (hr : Rd w B 1 A n (l.map encS)) :
    Calls Tryz.prog 31 #[.slice A n c, encS x] w fun e w' => e = .returned (.bool (decide (x ∈ l))) ∧ w = w' := by
  have hln : l.length = n := by have := hr.1; simpa using this
  have HR := Lib.hid hr
  clear hr
  go_enter Tryz.func31, Tryz.ntmps31
  go_wp2_with fail
  go_loopw [5] (fun i wr => ∃ k : Nat, k ≤ n ∧ i = .int .i64 k ∧ w = wr ∧ ∀ j, j < k → l.getD j [] ≠ x) (fun i _ => n - (intOf i).toNat)
  case atStart => exact ⟨0, Nat.zero_le _, rfl, rfl, fun j hj => absurd hj (Nat.not_lt_zero _)⟩
  case round =>
    obtain ⟨k, hk, rfl, rfl, hne⟩ := hrel
    have HNE := Lib.hid hne
    clear hne
    by_cases hlt : k < n
    · have hki : (k : Int) < (n : Int) := by omega
      obtain ⟨b, off, rfl, hbw, hcell⟩ := HR.out.2 (by omega)
      have ca := hcell k (encS (l.getD k [])) (by rw [List.getElem?_map, List.getElem?_eq_getElem (by omega), List.getD_eq_getElem?_getD, List.getElem?_eq_getElem (by omega)]; rfl)
      have HMEM : Hid (l.getD k [] ∈ l) := Lib.hid (by rw [List.getD_eq_getElem?_getD, List.getElem?_eq_getElem (by omega)]; exact List.getElem_mem _)
      clear hcell
      generalize hy : l.getD k [] = y at *
      have HY := Lib.hid hy
      clear hy
      by_cases he : y = x
      · subst he
        have hb : (y == y) = true := by simp
        go_wp2_with fail
        go_ret
        exact ⟨by rw [decide_eq_true HMEM.out]; rfl, rfl⟩
      · have hb : (y == x) = false := by rw [beq_eq_false_iff_ne]; exact he
        have HE := Lib.hid he
        clear he
        go_wp2_with fail
        go_roundw
        case rel => exact ⟨k + 1, by omega, by go_num, trivial, fun j hj => by
          rcases Nat.lt_or_ge j k with h2 | h2
          · exact HNE.out j h2
          · obtain rfl : j = k := by omega
            rw [HY.out]; exact HE.out⟩
        case measure => simp [intOf]; omega
    · have hki : ¬ (k : Int) < (n : Int) := by omega
      obtain rfl : k = n := by omega
      have HNO : Hid (decide (x ∈ l) = false) := Lib.hid (decide_eq_false (fun hm => by
        obtain ⟨j, hj, e⟩ := List.getElem_of_mem hm
        exact HNE.out j (by omega) (by rw [List.getD_eq_getElem?_getD, List.getElem?_eq_getElem hj]; exact e)))
      go_wp2_with fail
      go_ret
      exact ⟨by rw [HNO.out]; rfl, rfl⟩
end Go.Proofs.YtecndceekgaglaaGreat
/- The contract of Transfers. Conditions: as each statement says. -/
namespace Go.Proofs.YtecndceekgaglaaGreat
open Go.RowKit
set_option linter.unusedVariables false
/-- Transfers in memory, from a base on. -/
def TrB (w : World) (base : Nat) (v : Value) (l : List SentM) : Prop := ∃ vals, w.ownsRow base 86 4 v l.length vals ∧
  ∀ (i : Nat) (x : SentM), l[i]? = some x → ∃ pv, vals[i * 4]? = some (.int .i64 x.id) ∧ vals[i * 4 + 1]? = some (.int .i64 x.need) ∧ vals[i * 4 + 2]? = some (.int .i64 x.len) ∧ vals[i * 4 + 3]? = some pv ∧ NmRows w pv x.paths
theorem TrB.ck {T : TypeId → Prop} {w w' : World} {base : Nat} {v : Value} {l : List SentM} (h : TrB w base v l) (hb : CK T w w') (h1 : T 9) (h2 : T 40) (h3 : T 86) : TrB w' base v l := by
  obtain ⟨vals, e1, e2⟩ := h
  refine ⟨vals, ownsRow_ck e1 hb h3, fun i x hx => ?_⟩
  obtain ⟨pv, q1, q2, q3, q4, q5⟩ := e2 i x hx
  exact ⟨pv, q1, q2, q3, q4, q5.ck hb h1 h2⟩
theorem info_tr : (Tryz.prog.info? 86).map (fun i => (i.zero, i.size, i.bytes)) = some (some (.agg #[.int .i64 0, .int .i64 0, .int .i64 0, .slice none 0 0]), 4, 48) := by kernel_rfl
theorem elB_tr : ElemB Tryz.prog 77 86 4 48 := ElemB.of Tryz.underlying77 info_tr rfl (by decide)
theorem tr_cells (x y z : Int) (A : Option Addr) (n c : Nat) : ∀ u ∈ (#[.int .i64 x, .int .i64 y, .int .i64 z, .slice A n c] : Array Value).toList, u.oneCell' = true := by
  intro u hu
  simp only [List.mem_cons, List.not_mem_nil, or_false] at hu
  rcases hu with rfl | rfl | rfl | rfl <;> rfl
theorem TrB.push {w w' : World} {base : Nat} {v v' : Value} {l : List SentM} {x : SentM} {vals : List Value} {pv : Value} (ho : w.ownsRow base 86 4 v l.length vals)
    (hv : ∀ (i : Nat) (x : SentM), l[i]? = some x → ∃ pv, vals[i * 4]? = some (.int .i64 x.id) ∧ vals[i * 4 + 1]? = some (.int .i64 x.need) ∧ vals[i * 4 + 2]? = some (.int .i64 x.len) ∧ vals[i * 4 + 3]? = some pv ∧ NmRows w pv x.paths)
    (hp : NmRows w pv x.paths) (hown : w'.ownsRow base 86 4 v' (l.length + 1) (vals ++ [.int .i64 x.id, .int .i64 x.need, .int .i64 x.len, pv])) (hg : w.grownBy w' v.ownBlock) : TrB w' base v' (l ++ [x]) := by
  have hc := CK.grown_row ho hg
  have hl : vals.length = l.length * 4 := ho.1
  refine ⟨_, by simpa using hown, fun i y hy => ?_⟩
  have g0 := fun i j => getE4 (us := [Value.int .i64 x.id, Value.int .i64 x.need, Value.int .i64 x.len, pv]) (i := i) hl j
  rcases Nat.lt_or_ge i l.length with hi | hi
  · rw [List.getElem?_append_left hi] at hy
    obtain ⟨pv', q0, q1, q2, q3, q4⟩ := hv i y hy
    have z0 := ((g0 i 0).2 hi (by omega)); have z1 := ((g0 i 1).2 hi (by omega)); have z2 := ((g0 i 2).2 hi (by omega)); have z3 := ((g0 i 3).2 hi (by omega))
    rw [Nat.add_zero] at z0
    exact ⟨pv', z0.trans q0, z1.trans q1, z2.trans q2, z3.trans q3, q4.ck hc (by decide) (by decide)⟩
  · rw [List.getElem?_append_right hi] at hy
    have hi0 : i - l.length = 0 := by
      have := (List.getElem?_eq_some_iff.1 hy).1
      simpa using this
    rw [hi0] at hy
    obtain rfl : x = y := by simpa using hy
    have hil : i = l.length := by omega
    have z0 := (g0 i 0).1 hil; have z1 := (g0 i 1).1 hil; have z2 := (g0 i 2).1 hil; have z3 := (g0 i 3).1 hil
    rw [Nat.add_zero] at z0
    exact ⟨pv, z0, z1, z2, z3, hp.ck hc (by decide) (by decide)⟩
/-- Rows of names, in an own row. -/
def NmO (w : World) (base : Nat) (v : Value) (l : List (List Nm)) : Prop := ∃ vals, w.ownsRow base 40 1 v l.length vals ∧ ∀ (i : Nat) (x : List Nm), l[i]? = some x → ∃ u, vals[i]? = some u ∧ NmRow w u x
theorem NmO.ck {T : TypeId → Prop} {w w' : World} {base : Nat} {v : Value} {l : List (List Nm)} (h : NmO w base v l) (hb : CK T w w') (h1 : T 9) (h2 : T 40) : NmO w' base v l := by
  obtain ⟨vals, e1, e2⟩ := h
  refine ⟨vals, ownsRow_ck e1 hb h2, fun i x hx => ?_⟩
  obtain ⟨u, q1, q2⟩ := e2 i x hx
  exact ⟨u, q1, q2.ck hb h1⟩
theorem NmO.rows {w : World} {base : Nat} {v : Value} {l : List (List Nm)} (h : NmO w base v l) (h0 : l ≠ []) : NmRows w v l := by
  obtain ⟨vals, h1, h2⟩ := h
  rcases h1.2 with ⟨_, h3⟩ | ⟨g, cap, cur, hv, hg1, hh, hcap, _, _, htk⟩
  · exact absurd (List.length_eq_zero_iff.1 h3) h0
  · refine ⟨g, cap, cur, hv, hcap, hh, fun i x hx => ?_⟩
    obtain ⟨u, q1, q2⟩ := h2 i x hx
    have hi := (List.getElem?_eq_some_iff.1 hx).1
    rw [← htk, List.getElem?_take, if_pos (by omega), Array.getElem?_toList] at q1
    exact ⟨u, q1, q2⟩
theorem NmO.push {w w' : World} {base : Nat} {v v' u : Value} {l : List (List Nm)} {x : List Nm} {vals : List Value} (ho : w.ownsRow base 40 1 v l.length vals) (hv : ∀ (i : Nat) (x : List Nm), l[i]? = some x → ∃ u, vals[i]? = some u ∧ NmRow w u x)
    (hp : NmRow w u x) (hown : w'.ownsRow base 40 1 v' (l.length + 1) (vals ++ [u])) (hg : w.grownBy w' v.ownBlock) : NmO w' base v' (l ++ [x]) := by
  have hc := CK.grown_row ho hg
  have hl : vals.length = l.length := by have := ho.1; omega
  refine ⟨_, by simpa using hown, fun i y hy => ?_⟩
  rcases Nat.lt_or_ge i l.length with hi | hi
  · rw [List.getElem?_append_left hi] at hy
    obtain ⟨u', q0, q1⟩ := hv i y hy
    exact ⟨u', by rw [List.getElem?_append_left (by omega)]; exact q0, q1.ck hc (by decide)⟩
  · rw [List.getElem?_append_right hi] at hy
    have hi0 : i - l.length = 0 := by
      have := (List.getElem?_eq_some_iff.1 hy).1
      simpa using this
    rw [hi0] at hy
    obtain rfl : x = y := by simpa using hy
    exact ⟨u, by rw [List.getElem?_append_right (by omega), hl, hi0]; rfl, hp.ck hc (by decide)⟩
theorem SentsAt.at9 {w : World} {A : Option Addr} {n c : Nat} {l : List SentM} (h : SentsAt w (.slice A n c) l) {i : Nat} {x : SentM} (hx : l[i]? = some x) : ∃ g pv sv, A = some ⟨g, 0, none⟩ ∧ w.cell? ⟨g, i * 5, none⟩ = some (.int .i64 x.id) ∧ w.cell? ⟨g, i * 5 + 1, none⟩ = some (.int .i64 x.need) ∧ w.cell? ⟨g, i * 5 + 2, none⟩ = some (.int .i64 x.len) ∧ w.cell? ⟨g, i * 5 + 3, none⟩ = some pv ∧ w.cell? ⟨g, i * 5 + 4, none⟩ = some sv ∧ NmRows w pv x.paths ∧ ShRows w sv x.shares := by
  obtain ⟨vals, h1, h2⟩ := h
  obtain ⟨pv, sv, q0, q1, q2, q3, q4, q5, q6⟩ := h2 i x hx
  have hi : i < l.length := (List.getElem?_eq_some_iff.1 hx).1
  rcases h1.2 with ⟨_, e⟩ | ⟨g, cap, cur, e, _, hh, hcap, _, _, htk⟩
  · omega
  · injection e with e1 e2 e3
    have hc : ∀ (j : Nat) (u : Value), vals[j]? = some u → w.cell? ⟨g, j, none⟩ = some u := fun j u hu => by
      have hj : j < l.length * 5 := by
        have := (List.getElem?_eq_some_iff.1 hu).1
        have := h1.1
        omega
      rw [Bk.cell (show Bk w g cur _ from hh), ← hu, ← htk, List.getElem?_take, if_pos hj, Array.getElem?_toList]
    exact ⟨g, pv, sv, e1, hc _ _ q0, hc _ _ q1, hc _ _ q2, hc _ _ q3, hc _ _ q4, q5, q6⟩
def TransP (l : List SentM) (w : World) (e : Ending) (w' : World) : Prop := (∃ A c, e = .returned (.slice A l.length c) ∧ l.length ≤ c ∧ TrB w' w.heap.size (.slice A l.length c) l) ∧ Below w.heap.size w w'
set_option maxRecDepth 100000 in
set_option maxHeartbeats 4000000 in
theorem Transfers_any {w : World} {N : Nat} {s : NS} {bn bl : Nat} {vh vs : Value} (h : NetAt w N s bn bl vh vs) (hni : NI s) :
    Calls Tryz.prog 29 #[.pointer (some ⟨N, 0, none⟩)] w (TransP s.sents w) := by
  obtain ⟨A, c, rfl, hc⟩ := h.sents.form
  have n0 := h.blk.cell 0; have n5 := h.blk.cell 5
  simp only [List.getElem?_toArray, List.getElem?_cons_succ, List.getElem?_cons_zero] at n0 n5
  have HV := Lib.hid (valid_any N _ w n0 rfl)
  have HTOK := Lib.hid hni.tok
  have hl256 := hni.sl
  have HS := Lib.hid h.sents
  generalize s.sents = L at *
  obtain ⟨ln, hln⟩ : ∃ ln, ln = L.length := ⟨_, rfl⟩
  have HLN := Lib.hid hln
  rw [← hln] at HS n5 hl256 hc
  have HI0 : Hid (TrB w w.heap.size (.slice none 0 0) (L.take 0) ∧ Below w.heap.size w w) := Lib.hid ⟨⟨[], World.ownsRow_nil _ _ _ _, fun i x hx => by simp at hx⟩, Below.refl _ _⟩
  clear h hni n0 hln
  go_enter Tryz.func29, Tryz.ntmps29
  go_wp2_with fail
  refine HV.out.mono ?_
  clear HV
  rintro e w2 ⟨rfl, rfl⟩
  go_wp2_with fail
  go_loopw [3, 5, 6, 8, 17] (fun v _ _ _ i wr => ∃ k : Nat, k ≤ ln ∧ i = .int .i64 k ∧ TrB wr w.heap.size v (L.take k) ∧ Below w.heap.size w wr) (fun _ _ _ _ i _ => ln - (intOf i).toNat)
  case atStart => exact ⟨0, Nat.zero_le _, rfl, HI0.out⟩
  case round =>
    obtain ⟨k, hk, rfl, ht, hb⟩ := hrel
    obtain ⟨wi, rfl⟩ : ∃ z : World, z = wr := ⟨_, rfl⟩
    have HT := Lib.hid ht; have HB := Lib.hid hb
    obtain ⟨vals3, h31, _⟩ := id ht
    obtain ⟨A3, c3, rfl, hc3⟩ := own_form h31
    clear h31
    have hlk : (L.take k).length = k := by rw [List.length_take, ← HLN.out]; omega
    rw [hlk] at hc3
    rw [hlk] at HT ⊢
    clear ht hb HI0 n5 hlk
    by_cases hlt : k < ln
    · have hki : (k : Int) < (ln : Int) := by omega
      obtain ⟨x, hx⟩ : ∃ x, L[k]? = some x := ⟨_, List.getElem?_eq_getElem (by rw [← HLN.out]; exact hlt)⟩
      have hsi := HS.out.ck (T := fun _ => True) (CK.of_below HB.out) trivial trivial trivial trivial trivial
      obtain ⟨g, pv, sv, rfl, c0, c1, c2, c3', c4, hrows, hsh⟩ := hsi.at9 hx
      obtain ⟨sb, sc, _, rfl, _⟩ := hsh
      generalize x.shares.length = sl at *
      have htok := HTOK.out x (List.mem_of_getElem? hx)
      have HTX := Lib.hid htok
      have HTK : Hid (L.take (k + 1) = L.take k ++ [x]) := Lib.hid (by
        obtain ⟨q1, q2⟩ := List.getElem?_eq_some_iff.1 hx
        rw [List.take_succ_eq_append_getElem q1, q2])
      obtain ⟨pb, pc, pcs, rfl, hpc, _⟩ := id hrows
      obtain ⟨xid, hxid⟩ : ∃ z, z = x.id := ⟨_, rfl⟩
      obtain ⟨xn, hxn⟩ : ∃ z, z = x.need := ⟨_, rfl⟩
      obtain ⟨xl, hxl⟩ : ∃ z, z = x.len := ⟨_, rfl⟩
      have HXI := Lib.hid hxid; have HXN := Lib.hid hxn; have HXL := Lib.hid hxl
      rw [← hxid] at c0; rw [← hxn] at c1; rw [← hxl] at c2
      obtain ⟨P, hP⟩ : ∃ P, P = x.paths := ⟨_, rfl⟩
      have HP := Lib.hid hP
      rw [← hP] at hrows htok HTX c3' hpc
      have HROWS := Lib.hid hrows
      obtain ⟨pl, hpl⟩ : ∃ pl, pl = P.length := ⟨_, rfl⟩
      have HPL := Lib.hid hpl
      rw [← hpl] at c3' hpc HROWS htok
      have hpl1 := htok.1
      have hpl4 : pl ≤ 16 := htok.2.1
      clear hx hsi hrows htok hxid hxn hxl hP hpl
      go_wp2_with fail
      obtain ⟨w4, hw4⟩ : ∃ z, z = (((wi.alloc (.cells #[.int .i64 xid, .int .i64 xn, .int .i64 xl, .slice (some ⟨pb, 0, none⟩) pl pc, .slice (some ⟨sb, 0, none⟩) sl sc] 96)).alloc (.cells #[.int .i64 xid, .int .i64 xn, .int .i64 xl, .slice none 0 0] 86))) := ⟨_, rfl⟩
      have HB4 : Hid (Below wi.heap.size wi w4) := Lib.hid (by rw [hw4]; exact alloc2_below _ _ _)
      have HK4 : Hid (Bk w4 (wi.heap.size + 1) #[.int .i64 xid, .int .i64 xn, .int .i64 xl, .slice none 0 0] 86) := Lib.hid (by rw [hw4]; exact (boxes2 wi _ _ _ _).2)
      rw [← hw4]
      clear hw4 c0 c1 c2 c3' c4
      have HJ0 : Hid (∃ v, Bk w4 (wi.heap.size + 1) #[.int .i64 xid, .int .i64 xn, .int .i64 xl, v] 86 ∧ NmO w4 wi.heap.size v (P.take 0) ∧ Below wi.heap.size wi w4) := Lib.hid ⟨_, HK4.out, ⟨[], World.ownsRow_nil _ _ _ _, fun i y hy => by simp at hy⟩, HB4.out⟩
      go_loopw [8, 28] (fun _ i wr => ∃ m : Nat, m ≤ pl ∧ i = .int .i64 m ∧ ∃ v, Bk wr (wi.heap.size + 1) #[.int .i64 xid, .int .i64 xn, .int .i64 xl, v] 86 ∧ NmO wr wi.heap.size v (P.take m) ∧ Below wi.heap.size wi wr) (fun _ i _ => pl - (intOf i).toNat)
      case atStart => exact ⟨0, Nat.zero_le _, rfl, HJ0.out⟩
      case round =>
        obtain ⟨m, hm, rfl, v, hbk, hno, hbj⟩ := hrel
        obtain ⟨wj, rfl⟩ : ∃ z : World, z = wr := ⟨_, rfl⟩
        have HBK := Lib.hid hbk; have HNO := Lib.hid hno; have HBJ := Lib.hid hbj
        obtain ⟨vals, hov, hvv⟩ := hno
        have hml : (P.take m).length = m := by rw [List.length_take, ← HPL.out]; omega
        obtain ⟨Av, cv, rfl, hcv⟩ := own_form hov
        rw [hml] at hov hcv HBK HNO
        have HOV := Lib.hid hov; have HVV := Lib.hid hvv; have HML := Lib.hid hml
        clear hml hbk hbj HJ0 HK4 HB4 hov hvv
        by_cases hmt : m < pl
        · have hmi : (m : Int) < (pl : Int) := by omega
          obtain ⟨p, hp⟩ : ∃ p, P[m]? = some p := ⟨_, List.getElem?_eq_getElem (by rw [← HPL.out]; exact hmt)⟩
          have hrj := NmRows.farW HROWS.out HBJ.out
          obtain ⟨u, cu, hrow⟩ := NmRows.at hrj hp
          have hpt := HTX.out.2.2 p (List.mem_of_getElem? hp)
          have hne : p ≠ [] := fun e => by rw [e] at hpt; simp at hpt
          have HNE := Lib.hid hne
          have HTKP : Hid (P.take (m + 1) = P.take m ++ [p]) := Lib.hid (by
            obtain ⟨q1, q2⟩ := List.getElem?_eq_some_iff.1 hp
            rw [List.take_succ_eq_append_getElem q1, q2])
          obtain ⟨ub, uc, ucs, rfl, _⟩ := id hrow
          have HCL : Hid (∀ W, Below wj.heap.size wj W → Calls Tryz.prog 68 #[.slice (some ⟨ub, 0, none⟩) p.length uc] W fun e w' => ∃ A' c', e = .returned (.slice A' p.length c') ∧ p.length ≤ c' ∧ w'.ownsRow W.heap.size 9 1 (.slice A' p.length c') p.length (p.map encS) ∧ Below W.heap.size W w') := Lib.hid fun W hW => clone_nm _ _ _ p W (by omega) (hrow.far hW).rd.2
          have HC3 : Hid (∀ W, Below wj.heap.size wj W → W.cell? ⟨wi.heap.size + 1, 3, none⟩ = some (.slice Av m cv)) := Lib.hid fun W hW => by rw [(HBK.out.past hW HBK.out.lt).cell]; rfl
          have HNOW : Hid (Below wj.heap.size wj wj.drew) := Lib.hid (Qw.below ⟨1, rfl⟩ _)
          have hm4 : m ≤ 16 := by
            have := HTX.out.1
            have := hpl4
            omega
          clear hp hrj hrow hpt hne
          generalize p.length = pn at *
          go_wp2_with fail
          refine wp_region_held_drew (S := (fun _ => True)) (by kernel_rfl) ?_ (fun hHeld => ?_)
          · (try dsimp only); all_goals trivial
          refine wpAnyH_take (i := 0) (oi := ⟨some 32, _, _, _, _, _⟩) (v := ?_) rfl (by kernel_rfl) (by kernel_rfl) (by kernel_rfl) (fun _ _ _ h => h) (Or.inl ⟨by rfl, ?_⟩) (by assumption) ?_
          rotate_left
          · (intro w hSw; (try dsimp only at hSw); go_simp; try with_reducible rfl)
          try simp only [Act.put, List.setIfInBounds_toArray, List.set_cons_zero, List.set_cons_succ]
          refine wpAnyH_take (i := 2) (oi := ⟨some 34, _, _, _, _, _⟩) (v := ?_) rfl (by kernel_rfl) (by kernel_rfl) (by kernel_rfl) (fun _ _ _ h => h) (Or.inl ⟨by rfl, ?_⟩) (by assumption) ?_
          rotate_left
          · (intro w hSw; (try dsimp only at hSw); go_simp; try with_reducible rfl)
          try simp only [Act.put, List.setIfInBounds_toArray, List.set_cons_zero, List.set_cons_succ]
          refine wpAnyH_ready (rs := [1, 3]) (by kernel_rfl) (by simp) ?_
          refine AllReadyH.cons (o := ⟨some 33, _, _, _, _, _⟩) rfl (fun K hK => ?_) ?_
          · skip
            have n3 := HC3.out _ HNOW.out
            go_simp
            clear n3
            refine hK.out _ _ ?_ (fun hHeld => ?_)
            · (try dsimp only); all_goals trivial
            clear hK K
            try simp only [Act.put, List.setIfInBounds_toArray, List.set_cons_zero, List.set_cons_succ]
            refine wpAnyH_ready (rs := [3]) (by kernel_rfl) (by simp) ?_
            refine AllReadyH.cons (o := ⟨some 35, _, _, _, _, _⟩) rfl (fun K hK => ?_) AllReadyH.nil
            go_simp
            refine (HCL.out _ HNOW.out).mono ?_
            rintro e w5 ⟨A5, c5, rfl, hc5, ho5, hb5⟩
            have HNR := Lib.hid (NmRow.own ho5 HNE.out)
            have HNOW := Lib.hid (bnextK HNOW.out hb5)
            clear ho5 hb5
            go_wp2_with fail
            refine hK.out _ _ ?_ (fun hHeld => ?_)
            · (try dsimp only); all_goals trivial
            clear hK K
            try simp only [Act.put, List.setIfInBounds_toArray, List.set_cons_zero, List.set_cons_succ]
            refine wpAnyH_ready (rs := [4]) (by kernel_rfl) (by simp) ?_
            refine AllReadyH.cons (o := ⟨some 36, _, _, _, _, _⟩) rfl (fun K hK => ?_) AllReadyH.nil
            go_simp
            refine hK.out _ _ ?_ (fun hHeld => ?_)
            · (try dsimp only); all_goals trivial
            clear hK K
            try simp only [Act.put, List.setIfInBounds_toArray, List.set_cons_zero, List.set_cons_succ]
            refine wpAnyH_ready (rs := [5]) (by kernel_rfl) (by simp) ?_
            refine AllReadyH.cons (o := ⟨some 37, _, _, _, _, _⟩) rfl (fun K hK => ?_) AllReadyH.nil
            refine step_pushS (wa := w5) (us := #[.slice A5 pn c5]) (tu := 40) elB_strs _ _ rfl rfl wi.heap.size m vals rfl (ownsRow_ck HOV.out (CK.of_below (T := fun _ => True) HNOW.out) trivial) rfl rfl (one_cell1 rfl) (by omega) (by decide) (by have := HBJ.out.size; have := HNOW.out.size; omega) ?_
            intro v9 w9 hown9 hb9 hg9 hlies
            obtain ⟨A9, d9, rfl, hd9⟩ := own_form hown9
            have hov5 := ownsRow_ck HOV.out (CK.of_below (T := fun _ => True) HNOW.out) trivial
            have hck := CK.grown_row hov5 hg9
            have hbk9 := hck _ _ _ (by decide) (HBK.out.past HNOW.out HBK.out.lt)
            have q3 := hbk9.cell 3
            have qf := hbk9.froz 3
            simp only [List.getElem?_toArray, List.getElem?_cons_succ, List.getElem?_cons_zero] at q3
            have hno9 : NmO w9 wi.heap.size (.slice A9 (m + 1) d9) (P.take (m + 1)) := by
              rw [HTKP.out]
              refine NmO.push (by rw [HML.out]; exact hov5) (fun i y hy => ?_) HNR.out (by rw [HML.out]; exact hown9) hg9
              obtain ⟨z, z1, z2⟩ := HVV.out i y hy
              exact ⟨z, z1, z2.far HNOW.out⟩
            have HBKX : Hid (Bk (w9.setCell ⟨wi.heap.size + 1, 3, none⟩ (.slice A9 (m + 1) d9)) (wi.heap.size + 1) #[.int .i64 xid, .int .i64 xn, .int .i64 xl, .slice A9 (m + 1) d9] 86) := Lib.hid (hbk9.set 3 _)
            have HNOX : Hid (NmO (w9.setCell ⟨wi.heap.size + 1, 3, none⟩ (.slice A9 (m + 1) d9)) wi.heap.size (.slice A9 (m + 1) d9) (P.take (m + 1))) := Lib.hid (hno9.ck (CK.setCell hbk9) (by decide) (by decide))
            have HBX : Hid (Below wi.heap.size wi (w9.setCell ⟨wi.heap.size + 1, 3, none⟩ (.slice A9 (m + 1) d9))) := Lib.hid (((HBJ.out.trans (HNOW.out.mono HBJ.out.size)).trans hb9).setCell (p := ⟨wi.heap.size + 1, 3, none⟩) (by show wi.heap.size ≤ wi.heap.size + 1; omega) _)
            clear hown9 hb9 hg9 hov5 hck hbk9 hno9 hlies
            refine hK.out _ _ ?_ (fun hHeld => ?_)
            · (try dsimp only); all_goals trivial
            clear hK K
            try simp only [Act.put, List.setIfInBounds_toArray, List.set_cons_zero, List.set_cons_succ]
            refine wpAnyH_take (i := 6) (oi := ⟨some 38, _, _, _, _, _⟩) (v := ?_) rfl (by kernel_rfl) (by kernel_rfl) (by kernel_rfl) (fun _ _ _ h => h) (Or.inl ⟨by rfl, ?_⟩) (by assumption) ?_
            rotate_left
            · (intro w hSw; (try dsimp only at hSw); go_simp; try with_reducible rfl)
            try simp only [Act.put, List.setIfInBounds_toArray, List.set_cons_zero, List.set_cons_succ]
            refine wpAnyH_ready (rs := [7]) (by kernel_rfl) (by simp) ?_
            refine AllReadyH.cons (o := ⟨none, _, _, _, _, _⟩) rfl (fun K hK => ?_) AllReadyH.nil
            go_simp
            refine hK.out _ _ ?_ (fun hHeld => ?_)
            · (try dsimp only); all_goals trivial
            clear hK K
            try simp only [Act.put]
            refine wpAnyH_done (by kernel_rfl) ?_ _
            go_wp2_with fail
            go_roundw
            case rel => exact ⟨m + 1, by omega, by go_num, _, HBKX.out, HNOX.out, HBX.out⟩
            case measure => simp [intOf]; omega
          refine AllReadyH.cons (o := ⟨some 35, _, _, _, _, _⟩) rfl (fun K hK => ?_) AllReadyH.nil
          go_simp
          refine (HCL.out _ HNOW.out).mono ?_
          rintro e w5 ⟨A5, c5, rfl, hc5, ho5, hb5⟩
          have HNR := Lib.hid (NmRow.own ho5 HNE.out)
          have HNOW := Lib.hid (bnextK HNOW.out hb5)
          clear ho5 hb5
          go_wp2_with fail
          refine hK.out _ _ ?_ (fun hHeld => ?_)
          · (try dsimp only); all_goals trivial
          clear hK K
          try simp only [Act.put, List.setIfInBounds_toArray, List.set_cons_zero, List.set_cons_succ]
          refine wpAnyH_ready (rs := [1, 4]) (by kernel_rfl) (by simp) ?_
          refine AllReadyH.cons (o := ⟨some 33, _, _, _, _, _⟩) rfl (fun K hK => ?_) ?_
          · skip
            have n3 := HC3.out _ HNOW.out
            go_simp
            clear n3
            refine hK.out _ _ ?_ (fun hHeld => ?_)
            · (try dsimp only); all_goals trivial
            clear hK K
            try simp only [Act.put, List.setIfInBounds_toArray, List.set_cons_zero, List.set_cons_succ]
            refine wpAnyH_ready (rs := [4]) (by kernel_rfl) (by simp) ?_
            refine AllReadyH.cons (o := ⟨some 36, _, _, _, _, _⟩) rfl (fun K hK => ?_) AllReadyH.nil
            go_simp
            refine hK.out _ _ ?_ (fun hHeld => ?_)
            · (try dsimp only); all_goals trivial
            clear hK K
            try simp only [Act.put, List.setIfInBounds_toArray, List.set_cons_zero, List.set_cons_succ]
            refine wpAnyH_ready (rs := [5]) (by kernel_rfl) (by simp) ?_
            refine AllReadyH.cons (o := ⟨some 37, _, _, _, _, _⟩) rfl (fun K hK => ?_) AllReadyH.nil
            refine step_pushS (wa := w5) (us := #[.slice A5 pn c5]) (tu := 40) elB_strs _ _ rfl rfl wi.heap.size m vals rfl (ownsRow_ck HOV.out (CK.of_below (T := fun _ => True) HNOW.out) trivial) rfl rfl (one_cell1 rfl) (by omega) (by decide) (by have := HBJ.out.size; have := HNOW.out.size; omega) ?_
            intro v9 w9 hown9 hb9 hg9 hlies
            obtain ⟨A9, d9, rfl, hd9⟩ := own_form hown9
            have hov5 := ownsRow_ck HOV.out (CK.of_below (T := fun _ => True) HNOW.out) trivial
            have hck := CK.grown_row hov5 hg9
            have hbk9 := hck _ _ _ (by decide) (HBK.out.past HNOW.out HBK.out.lt)
            have q3 := hbk9.cell 3
            have qf := hbk9.froz 3
            simp only [List.getElem?_toArray, List.getElem?_cons_succ, List.getElem?_cons_zero] at q3
            have hno9 : NmO w9 wi.heap.size (.slice A9 (m + 1) d9) (P.take (m + 1)) := by
              rw [HTKP.out]
              refine NmO.push (by rw [HML.out]; exact hov5) (fun i y hy => ?_) HNR.out (by rw [HML.out]; exact hown9) hg9
              obtain ⟨z, z1, z2⟩ := HVV.out i y hy
              exact ⟨z, z1, z2.far HNOW.out⟩
            have HBKX : Hid (Bk (w9.setCell ⟨wi.heap.size + 1, 3, none⟩ (.slice A9 (m + 1) d9)) (wi.heap.size + 1) #[.int .i64 xid, .int .i64 xn, .int .i64 xl, .slice A9 (m + 1) d9] 86) := Lib.hid (hbk9.set 3 _)
            have HNOX : Hid (NmO (w9.setCell ⟨wi.heap.size + 1, 3, none⟩ (.slice A9 (m + 1) d9)) wi.heap.size (.slice A9 (m + 1) d9) (P.take (m + 1))) := Lib.hid (hno9.ck (CK.setCell hbk9) (by decide) (by decide))
            have HBX : Hid (Below wi.heap.size wi (w9.setCell ⟨wi.heap.size + 1, 3, none⟩ (.slice A9 (m + 1) d9))) := Lib.hid (((HBJ.out.trans (HNOW.out.mono HBJ.out.size)).trans hb9).setCell (p := ⟨wi.heap.size + 1, 3, none⟩) (by show wi.heap.size ≤ wi.heap.size + 1; omega) _)
            clear hown9 hb9 hg9 hov5 hck hbk9 hno9 hlies
            refine hK.out _ _ ?_ (fun hHeld => ?_)
            · (try dsimp only); all_goals trivial
            clear hK K
            try simp only [Act.put, List.setIfInBounds_toArray, List.set_cons_zero, List.set_cons_succ]
            refine wpAnyH_take (i := 6) (oi := ⟨some 38, _, _, _, _, _⟩) (v := ?_) rfl (by kernel_rfl) (by kernel_rfl) (by kernel_rfl) (fun _ _ _ h => h) (Or.inl ⟨by rfl, ?_⟩) (by assumption) ?_
            rotate_left
            · (intro w hSw; (try dsimp only at hSw); go_simp; try with_reducible rfl)
            try simp only [Act.put, List.setIfInBounds_toArray, List.set_cons_zero, List.set_cons_succ]
            refine wpAnyH_ready (rs := [7]) (by kernel_rfl) (by simp) ?_
            refine AllReadyH.cons (o := ⟨none, _, _, _, _, _⟩) rfl (fun K hK => ?_) AllReadyH.nil
            go_simp
            refine hK.out _ _ ?_ (fun hHeld => ?_)
            · (try dsimp only); all_goals trivial
            clear hK K
            try simp only [Act.put]
            refine wpAnyH_done (by kernel_rfl) ?_ _
            go_wp2_with fail
            go_roundw
            case rel => exact ⟨m + 1, by omega, by go_num, _, HBKX.out, HNOX.out, HBX.out⟩
            case measure => simp [intOf]; omega
          refine AllReadyH.cons (o := ⟨some 36, _, _, _, _, _⟩) rfl (fun K hK => ?_) AllReadyH.nil
          go_simp
          refine hK.out _ _ ?_ (fun hHeld => ?_)
          · (try dsimp only); all_goals trivial
          clear hK K
          try simp only [Act.put, List.setIfInBounds_toArray, List.set_cons_zero, List.set_cons_succ]
          refine wpAnyH_ready (rs := [1]) (by kernel_rfl) (by simp) ?_
          refine AllReadyH.cons (o := ⟨some 33, _, _, _, _, _⟩) rfl (fun K hK => ?_) AllReadyH.nil
          have n3 := HC3.out _ (bnextK HNOW.out (below_alloc w5 (.cells #[.slice A5 pn c5] 40)))
          go_simp
          clear n3
          refine hK.out _ _ ?_ (fun hHeld => ?_)
          · (try dsimp only); all_goals trivial
          clear hK K
          try simp only [Act.put, List.setIfInBounds_toArray, List.set_cons_zero, List.set_cons_succ]
          refine wpAnyH_ready (rs := [5]) (by kernel_rfl) (by simp) ?_
          refine AllReadyH.cons (o := ⟨some 37, _, _, _, _, _⟩) rfl (fun K hK => ?_) AllReadyH.nil
          refine step_pushS (wa := w5) (us := #[.slice A5 pn c5]) (tu := 40) elB_strs _ _ rfl rfl wi.heap.size m vals rfl (ownsRow_ck HOV.out (CK.of_below (T := fun _ => True) HNOW.out) trivial) rfl rfl (one_cell1 rfl) (by omega) (by decide) (by have := HBJ.out.size; have := HNOW.out.size; omega) ?_
          intro v9 w9 hown9 hb9 hg9 hlies
          obtain ⟨A9, d9, rfl, hd9⟩ := own_form hown9
          have hov5 := ownsRow_ck HOV.out (CK.of_below (T := fun _ => True) HNOW.out) trivial
          have hck := CK.grown_row hov5 hg9
          have hbk9 := hck _ _ _ (by decide) (HBK.out.past HNOW.out HBK.out.lt)
          have q3 := hbk9.cell 3
          have qf := hbk9.froz 3
          simp only [List.getElem?_toArray, List.getElem?_cons_succ, List.getElem?_cons_zero] at q3
          have hno9 : NmO w9 wi.heap.size (.slice A9 (m + 1) d9) (P.take (m + 1)) := by
            rw [HTKP.out]
            refine NmO.push (by rw [HML.out]; exact hov5) (fun i y hy => ?_) HNR.out (by rw [HML.out]; exact hown9) hg9
            obtain ⟨z, z1, z2⟩ := HVV.out i y hy
            exact ⟨z, z1, z2.far HNOW.out⟩
          have HBKX : Hid (Bk (w9.setCell ⟨wi.heap.size + 1, 3, none⟩ (.slice A9 (m + 1) d9)) (wi.heap.size + 1) #[.int .i64 xid, .int .i64 xn, .int .i64 xl, .slice A9 (m + 1) d9] 86) := Lib.hid (hbk9.set 3 _)
          have HNOX : Hid (NmO (w9.setCell ⟨wi.heap.size + 1, 3, none⟩ (.slice A9 (m + 1) d9)) wi.heap.size (.slice A9 (m + 1) d9) (P.take (m + 1))) := Lib.hid (hno9.ck (CK.setCell hbk9) (by decide) (by decide))
          have HBX : Hid (Below wi.heap.size wi (w9.setCell ⟨wi.heap.size + 1, 3, none⟩ (.slice A9 (m + 1) d9))) := Lib.hid (((HBJ.out.trans (HNOW.out.mono HBJ.out.size)).trans hb9).setCell (p := ⟨wi.heap.size + 1, 3, none⟩) (by show wi.heap.size ≤ wi.heap.size + 1; omega) _)
          clear hown9 hb9 hg9 hov5 hck hbk9 hno9 hlies
          refine hK.out _ _ ?_ (fun hHeld => ?_)
          · (try dsimp only); all_goals trivial
          clear hK K
          try simp only [Act.put, List.setIfInBounds_toArray, List.set_cons_zero, List.set_cons_succ]
          refine wpAnyH_take (i := 6) (oi := ⟨some 38, _, _, _, _, _⟩) (v := ?_) rfl (by kernel_rfl) (by kernel_rfl) (by kernel_rfl) (fun _ _ _ h => h) (Or.inl ⟨by rfl, ?_⟩) (by assumption) ?_
          rotate_left
          · (intro w hSw; (try dsimp only at hSw); go_simp; try with_reducible rfl)
          try simp only [Act.put, List.setIfInBounds_toArray, List.set_cons_zero, List.set_cons_succ]
          refine wpAnyH_ready (rs := [7]) (by kernel_rfl) (by simp) ?_
          refine AllReadyH.cons (o := ⟨none, _, _, _, _, _⟩) rfl (fun K hK => ?_) AllReadyH.nil
          go_simp
          refine hK.out _ _ ?_ (fun hHeld => ?_)
          · (try dsimp only); all_goals trivial
          clear hK K
          try simp only [Act.put]
          refine wpAnyH_done (by kernel_rfl) ?_ _
          go_wp2_with fail
          go_roundw
          case rel => exact ⟨m + 1, by omega, by go_num, _, HBKX.out, HNOX.out, HBX.out⟩
          case measure => simp [intOf]; omega
        · have hmi : ¬ (m : Int) < (pl : Int) := by omega
          obtain rfl : m = pl := by omega
          have HPA : Hid (P.take m = P) := Lib.hid (by rw [HPL.out]; exact List.take_length)
          have hrows2 : NmRows wj (.slice Av m cv) x.paths := by
            have h2 := HNO.out
            rw [HPA.out] at h2
            rw [← HP.out]
            exact h2.rows (fun e => by have := HPL.out; rw [e] at this; simp at this; omega)
          have HR2 := Lib.hid hrows2
          have c0 := HBK.out.cell 0; have c1 := HBK.out.cell 1; have c2 := HBK.out.cell 2; have c3 := HBK.out.cell 3
          simp only [List.getElem?_toArray, List.getElem?_cons_succ, List.getElem?_cons_zero] at c0 c1 c2 c3
          have htj := HT.out.ck (T := fun _ => True) (CK.of_below HBJ.out) trivial trivial trivial
          obtain ⟨tv, tov, tvv⟩ := htj
          have hlk : (L.take k).length = k := by rw [List.length_take, ← HLN.out]; omega
          rw [hlk] at tov
          have TOV := Lib.hid tov; have TVV := Lib.hid tvv; have HLK := Lib.hid hlk
          have HBW := Lib.hid (HB.out.trans (HBJ.out.mono HB.out.size))
          have hszw := HBW.out.size
          clear hrows2 tov tvv hlk
          go_wp2_with (at_builtin
                       refine wpList_push elB_tr (.tmp 40) (.tmp 42) rfl rfl w.heap.size k tv rfl TOV.out rfl rfl (tr_cells _ _ _ _ _ _) (by omega) (by decide) hszw ?_
                       intro v9 w9 hown9 hb9 hg9
                       obtain ⟨A9, d9, rfl, hd9⟩ := own_form hown9
                       have HT9 : Hid (TrB w9 w.heap.size (.slice A9 (k + 1) d9) (L.take (k + 1))) := Lib.hid (by
                         rw [HTK.out]
                         refine TrB.push (x := x) (by rw [HLK.out]; exact TOV.out) TVV.out HR2.out (by rw [HLK.out, ← HXI.out, ← HXN.out, ← HXL.out]; exact hown9) hg9)
                       have HB9 : Hid (Below w.heap.size w w9) := Lib.hid (HBW.out.trans hb9)
                       clear hown9 hb9 hg9)
          go_roundw
          case rel => exact ⟨k + 1, by omega, by go_num, HT9.out, HB9.out⟩
          case measure => simp [intOf]; omega
    · have hki : ¬ (k : Int) < (ln : Int) := by omega
      obtain rfl : k = ln := by omega
      have HALL : Hid (L.take k = L) := Lib.hid (by rw [HLN.out]; exact List.take_length)
      go_wp2_with fail
      go_ret
      have h2 := HT.out
      rw [HALL.out] at h2
      refine ⟨⟨A3, c3, by rw [HLN.out]; rfl, by rw [← HLN.out]; exact hc3, ?_⟩, HB.out⟩
      rw [← HLN.out]; exact h2
end Go.Proofs.YtecndceekgaglaaGreat
/- How a list of calls that came in is opened. Conditions: none beyond those in each statement. -/
namespace Go.Proofs.YtecndceekgaglaaGreat
open Go.ChangeShapes Go.WideShapes Go.ChangeAt Go.RowKit
set_option linter.unusedVariables false
section
variable {H : Type} {enc : TypeId × Value → H} {P : Program} {w : World} {base : Nat} {spare : Nat → Bool} {held : Bool}
theorem OpenAct_fields {t : TypeId} {f0 f1 f2 f3 f4 f5 f6 f7 f8 f9 : Field} {fuel : Nat} {cs : List Value} {x : DataW H × List MemPlace} (ht : P.underlying t = some (.struct #[f0, f1, f2, f3, f4, f5, f6, f7, f8, f9])) (h : DataW.trod enc P w base spare held fuel t cs = some x) :
    ∃ (n : Nat) (y0 y1 y2 y4 y5 y6 y7 y8 y9 : DataW H × List MemPlace), DataW.trod enc P w base spare held n f0.type ((cs.drop f0.offset).take (P.cellsOf f0.type)) = some y0 ∧ DataW.trod enc P w base spare held n f1.type ((cs.drop f1.offset).take (P.cellsOf f1.type)) = some y1 ∧ DataW.trod enc P w base spare held n f2.type ((cs.drop f2.offset).take (P.cellsOf f2.type)) = some y2 ∧
      DataW.trod enc P w base spare held n f4.type ((cs.drop f4.offset).take (P.cellsOf f4.type)) = some y4 ∧ DataW.trod enc P w base spare held n f5.type ((cs.drop f5.offset).take (P.cellsOf f5.type)) = some y5 ∧ DataW.trod enc P w base spare held n f6.type ((cs.drop f6.offset).take (P.cellsOf f6.type)) = some y6 ∧
      DataW.trod enc P w base spare held n f7.type ((cs.drop f7.offset).take (P.cellsOf f7.type)) = some y7 ∧ DataW.trod enc P w base spare held n f8.type ((cs.drop f8.offset).take (P.cellsOf f8.type)) = some y8 ∧ DataW.trod enc P w base spare held n f9.type ((cs.drop f9.offset).take (P.cellsOf f9.type)) = some y9 := by
  obtain ⟨xs, n, _, rfl, hl, hlen, hf⟩ := DataW.trod_struct ht h
  match xs, hlen with
  | [y0, y1, y2, y3, y4, y5, y6, y7, y8, y9], _ => exact ⟨n, y0, y1, y2, y4, y5, y6, y7, y8, y9, by simpa using hf 0 f0 rfl, by simpa using hf 1 f1 rfl, by simpa using hf 2 f2 rfl, by simpa using hf 4 f4 rfl, by simpa using hf 5 f5 rfl, by simpa using hf 6 f6 rfl, by simpa using hf 7 f7 rfl, by simpa using hf 8 f8 rfl, by simpa using hf 9 f9 rfl⟩
end
theorem OpenAct_list {α : Type} {l : List α} (h : l.length = 13) : ∃ a0 a1 a2 a3 a4 a5 a6 a7 a8 a9 a10 a11 a12, l = [a0, a1, a2, a3, a4, a5, a6, a7, a8, a9, a10, a11, a12] := by
  match l, h with
  | [a0, a1, a2, a3, a4, a5, a6, a7, a8, a9, a10, a11, a12], _ => exact ⟨a0, a1, a2, a3, a4, a5, a6, a7, a8, a9, a10, a11, a12, rfl⟩
theorem OpenAct_each {α : Type} {Q : Nat → α → Prop} : ∀ (n : Nat), (∀ k, k < n → ∃ x, Q k x) → ∃ l : List α, l.length = n ∧ ∀ k (h : k < l.length), Q k l[k]
  | 0, _ => ⟨[], rfl, fun k h => absurd h (by simp)⟩
  | n + 1, h => by
    obtain ⟨l, hl, hq⟩ := OpenAct_each n (fun k hk => h k (by omega))
    obtain ⟨x, hx⟩ := h n (by omega)
    refine ⟨l ++ [x], by simp [hl], fun k hk => ?_⟩
    rcases Nat.lt_or_ge k l.length with h1 | h1
    · rw [List.getElem_append_left h1]; exact hq k h1
    · have hk' : k = l.length := by simp at hk; omega
      subst hk'
      rw [List.getElem_append_right (Nat.le_refl _)]
      simpa [hl] using hx
def actsC (l : List ActV) : List Value := l.flatMap actC
theorem actC_len (x : ActV) : (actC x).length = 13 := rfl
theorem actsC_len : ∀ l : List ActV, (actsC l).length = l.length * 13
  | [] => rfl
  | x :: l => by
    have := actsC_len l
    unfold actsC at *
    rw [List.flatMap_cons, List.length_append, this, actC_len, List.length_cons]
    omega
theorem actsC_get : ∀ (l : List ActV) (k : Nat) (x : ActV), l[k]? = some x → ∀ o, o < 13 → (actsC l)[k * 13 + o]? = (actC x)[o]?
  | [], k, x, h, o, ho => by simp at h
  | y :: l, 0, x, h, o, ho => by
    obtain rfl : y = x := by simpa using h
    unfold actsC
    rw [List.flatMap_cons, Nat.zero_mul, Nat.zero_add, List.getElem?_append_left (by rw [actC_len]; exact ho)]
  | y :: l, k + 1, x, h, o, ho => by
    have := actsC_get l k x (by simpa using h) o ho
    unfold actsC at *
    rw [List.flatMap_cons, List.getElem?_append_right (by rw [actC_len]; omega), actC_len, show (k + 1) * 13 + o - 13 = k * 13 + o by omega]
    exact this
structure ActsArg where
  A : Option Addr
  n : Nat
  c : Nat
  l : List ActV
def IsActs (w : World) (v : Value) (i : ActsArg) : Prop := v = .slice i.A i.n i.c ∧ i.n ≤ i.c ∧ i.c ≤ 9223372036854775807 ∧ i.l.length = i.n ∧ Rd w w.heap.size 13 i.A i.n (actsC i.l) ∧ ∀ x ∈ i.l, x.raw w
theorem actsC_rd {w : World} {b off n : Nat} {l : List ActV} (hl : l.length = n) (hb : 0 < n → b < w.heap.size) (h : ∀ k (h : k < l.length), ∀ o, o < 13 → w.cell? ⟨b, off + k * 13 + o, none⟩ = (actC l[k])[o]?) : Rd w w.heap.size 13 (some ⟨b, off, none⟩) n (actsC l) := by
  refine ⟨by rw [actsC_len, hl], fun hn => ⟨b, off, rfl, hb hn, fun j u hu => ?_⟩⟩
  have hj : j < l.length * 13 := by have := (List.getElem?_eq_some_iff.1 hu).1; rwa [actsC_len] at this
  have hjl : j / 13 < l.length := by omega
  have hm : j % 13 < 13 := Nat.mod_lt _ (by omega)
  have e : j = j / 13 * 13 + j % 13 := by omega
  rw [e, actsC_get l (j / 13) _ (List.getElem?_eq_getElem hjl) _ hm] at hu
  rw [e, ← Nat.add_assoc, h _ hjl _ hm]
  exact hu
section
variable {H : Type} {enc : TypeId × Value → H} {W : World} {v : Value} {d : DataW H} {p : List MemPlace}
set_option maxRecDepth 100000 in
set_option maxHeartbeats 1000000 in
theorem open_acts_cells {fuel : Nat} {cs : List Value} {x : DataW H × List MemPlace} (h : DataW.trod enc Tryz.prog W 0 (fun _ => true) true fuel 53 cs = some x) :
    ∃ i, cs = [.slice i.A i.n i.c] ∧ IsActs W (.slice i.A i.n i.c) i := by
  rcases Deep.open_slice Tryz.underlying53 h with ⟨hc, _⟩ | ⟨a, len, cap, m, n, D, Pl, hc, _, hl, hm, hm2, _, hel⟩
  · exact ⟨⟨none, 0, 0, []⟩, hc, rfl, Nat.le_refl _, by decide, rfl, Rd.nil _ _ _ _, by simp⟩
  · have c1 : Tryz.prog.cellsOf 68 = 13 := by kernel_rfl
    have k1 : Tryz.prog.cellsOf 5 = 1 := by kernel_rfl
    have k2 : Tryz.prog.cellsOf 9 = 1 := by kernel_rfl
    have k3 : Tryz.prog.cellsOf 3 = 1 := by kernel_rfl
    have k4 : Tryz.prog.cellsOf 2 = 1 := by kernel_rfl
    have k5 : Tryz.prog.cellsOf 23 = 1 := by kernel_rfl
    have hsp : 0 < len → a.spot = none := fun h0 => by
      obtain ⟨cs', hcs', ht⟩ := hel 0 (by rw [hm2, if_pos rfl]; omega)
      rw [c1] at hcs'
      obtain ⟨_, hcl, hcell⟩ := World.cells?_some hcs'
      obtain ⟨a0, a1, a2, a3, a4, a5, a6, a7, a8, a9, a10, a11, a12, rfl⟩ := OpenAct_list hcl
      have q0 := hcell 0 (by omega)
      simp only [List.getElem?_cons_zero, Deep.add_add, Nat.zero_mul, Nat.add_zero] at q0
      exact spot_none q0 rfl
    obtain ⟨l, hll, hq⟩ := OpenAct_each (Q := fun k (s : ActV) => a.block < W.heap.size ∧ (∀ o, o < 13 → W.cell? ⟨a.block, a.off + k * 13 + o, none⟩ = (actC s)[o]?) ∧ s.raw W) len (fun k hk => by
      have hml : k < m := by rw [hm2, if_pos rfl]; omega
      obtain ⟨cs', hcs', ht⟩ := hel k hml
      rw [c1] at hcs'
      obtain ⟨_, hcl, hcell⟩ := World.cells?_some hcs'
      obtain ⟨n', y0, y1, y2, y4, y5, y6, y7, y8, y9, f0, f1, f2, f4, f5, f6, f7, f8, f9⟩ := OpenAct_fields Tryz.underlying68 ht
      obtain ⟨a0, a1, a2, a3, a4, a5, a6, a7, a8, a9, a10, a11, a12, rfl⟩ := OpenAct_list hcl
      simp only [k1, k2, k3, k4, k5, List.drop_zero, List.drop_succ_cons, List.take_succ_cons, List.take_zero] at f0 f1 f2 f4 f5 f6 f7 f8 f9
      obtain ⟨z0, e0, _, wa0⟩ := DataW.trod_int Tryz.underlying5 f0
      obtain ⟨z1, e1, _, wa1⟩ := DataW.trod_string Tryz.underlying9 f1
      obtain ⟨z2, e2, _, wa2⟩ := DataW.trod_string Tryz.underlying9 f2
      obtain ⟨z4, e4, _, _⟩ := DataW.trod_int Tryz.underlying3 f4
      obtain ⟨z5, e5, _, _⟩ := DataW.trod_int Tryz.underlying3 f5
      obtain ⟨z6, e6, _, _⟩ := DataW.trod_int Tryz.underlying3 f6
      obtain ⟨z7, e7, _, _⟩ := DataW.trod_int Tryz.underlying2 f7
      obtain ⟨i8, e8, hi8⟩ := open_bytes_cells f8
      obtain ⟨i9, e9, hi9⟩ := open_bytes_cells f9
      simp only [List.cons.injEq, and_true] at e0 e1 e2 e4 e5 e6 e7 e8 e9
      subst e0 e1 e2 e4 e5 e6 e7 e8 e9
      obtain ⟨n0, rfl, hn0⟩ := open_nat_u8 wa0
      have hs := hsp (by omega)
      have q0 := hcell 0 (by omega)
      simp only [List.getElem?_cons_zero, Deep.add_add, Nat.add_zero] at q0
      have hb : a.block < W.heap.size := by
        have := World.block_lt_of_cell? W _ q0
        rwa [add_spot hs] at this
      refine ⟨⟨n0, z1.data.toList, z2.data.toList, a3, a4, a5, a6, z4, z5, z6, z7, i8, i9⟩, hb, fun o ho => ?_, ⟨hn0, by rw [Array.length_toList]; exact wa1, by rw [Array.length_toList]; exact wa2, hi8, hi9⟩⟩
      have qo := hcell o ho
      rw [Deep.add_add, add_spot hs] at qo
      rw [Nat.add_assoc]
      refine qo.trans ?_
      unfold actC
      rw [encS_data, encS_data])
    have hrd : Rd W W.heap.size 13 (some a) len (actsC l) := by
      rcases Nat.eq_zero_or_pos len with h0 | h0
      · subst h0; obtain rfl := List.eq_nil_of_length_eq_zero hll; exact Rd.nil _ _ _ _
      · have hs := hsp h0
        have := actsC_rd (w := W) (b := a.block) (off := a.off) hll (fun _ => (hq 0 (by omega)).1) (fun k hk => (hq k hk).2.1)
        rwa [← hs] at this
    exact ⟨⟨some a, len, cap, l⟩, hc, rfl, hl, by simp [maxLen] at hm; omega, hll, hrd, fun p hp => by
      obtain ⟨k, hk, rfl⟩ := List.getElem_of_mem hp
      exact (hq k hk).2.2⟩
set_option maxRecDepth 100000 in
theorem open_acts {base : Nat} (hv : Value.okWide Tryz.prog W .any base 53 v) (h : DataW.Trod enc Tryz.prog W 0 (fun _ => true) true 53 v d p) : ∃ i, IsActs W v i := by
  obtain ⟨a, n, c, rfl⟩ := okWide_slice Tryz.underlying53 hv
  obtain ⟨fuel, hf⟩ := h
  obtain ⟨i, hc, hi⟩ := open_acts_cells hf
  simp only [Value.cells] at hc
  exact ⟨i, by rw [show (Value.slice a n c) = .slice i.A i.n i.c by simpa using hc]; exact hi⟩
end
end Go.Proofs.YtecndceekgaglaaGreat
