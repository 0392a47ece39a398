/- What the laws ask of a network. Conditions: as each statement says. -/
import Derived.Test.YtecndceekgaglaaGreatNet65
import Derived.Test.YtecndceekgaglaaGreatSm3
namespace Go.Proofs.YtecndceekgaglaaGreat
open Go.RowKit
set_option linter.unusedVariables false
theorem SmI.ni {s : NS} {st : List Int} (h : SmI s st) : NI s := by
  refine ⟨⟨fun x hx => (by rw [h.holds] at hx; exact absurd hx (by simp)), fun q hq => ?_⟩, by rw [h.holds]; simp, by rw [h.sents]; simp, fun t ht => (by rw [h.sents] at ht; exact absurd ht (by simp)), fun x hx => (by rw [h.holds] at hx; exact absurd hx (by simp))⟩
  rw [h.holds]
  exact congrArg LkV.held (h.lks q hq)
theorem NetNew.netB {w W : World} {s : NS} {N bn bl : Nat} (h : NetNew w s N bn bl W) (hni : NI s) : NetB w.heap.size W N s := ⟨bn, bl, _, _, h.1, hni, h.2.2.2.2, h.2.2.1, h.2.2.2.1, (fun k hk => nomatch hk), (fun k hk => nomatch hk)⟩
theorem acts_at {W : World} {Bb : Nat} {A : Option Addr} {n : Nat} {l : List ActV} (h : Rd W Bb 13 A n (actsC l)) {k : Nat} {x : ActV} (hx : l[k]? = some x) (hk : k < n) : ∃ b off, A = some ⟨b, off, none⟩ ∧ W.cell? ⟨b, off + k * 13, none⟩ = some (.int .u8 (x.d : Int)) ∧ W.cell? ⟨b, off + k * 13 + 1, none⟩ = some (encS x.a) ∧ W.cell? ⟨b, off + k * 13 + 2, none⟩ = some (encS x.b) ∧
    W.cell? ⟨b, off + k * 13 + 3, none⟩ = some x.l1 ∧ W.cell? ⟨b, off + k * 13 + 4, none⟩ = some x.l2 ∧ W.cell? ⟨b, off + k * 13 + 5, none⟩ = some x.l3 ∧ W.cell? ⟨b, off + k * 13 + 6, none⟩ = some x.l4 ∧ W.cell? ⟨b, off + k * 13 + 7, none⟩ = some (.int .i64 x.n) ∧ W.cell? ⟨b, off + k * 13 + 8, none⟩ = some (.int .i64 x.k) ∧ W.cell? ⟨b, off + k * 13 + 9, none⟩ = some (.int .i64 x.need) ∧
    W.cell? ⟨b, off + k * 13 + 10, none⟩ = some (.int .i64 x.til) ∧ W.cell? ⟨b, off + k * 13 + 11, none⟩ = some (.slice x.s.A x.s.n x.s.c) ∧ W.cell? ⟨b, off + k * 13 + 12, none⟩ = some (.slice x.c.A x.c.n x.c.c) := by
  obtain ⟨b, off, rfl, _, hc⟩ := h.2 (by omega)
  have g : ∀ o, o < 13 → ∀ u, (actC x)[o]? = some u → W.cell? ⟨b, off + k * 13 + o, none⟩ = some u := fun o ho u hu => by
    rw [Nat.add_assoc]
    exact hc _ u (by rw [actsC_get l k x hx o ho]; exact hu)
  exact ⟨b, off, rfl, g 0 (by omega) _ rfl, g 1 (by omega) _ rfl, g 2 (by omega) _ rfl, g 3 (by omega) _ rfl, g 4 (by omega) _ rfl, g 5 (by omega) _ rfl, g 6 (by omega) _ rfl, g 7 (by omega) _ rfl, g 8 (by omega) _ rfl, g 9 (by omega) _ rfl, g 10 (by omega) _ rfl, g 11 (by omega) _ rfl, g 12 (by omega) _ rfl⟩
def FenN (B N : Nat) (s : NS) (x : Nm) (w : World) (e : Ending) (w' : World) : Prop := e = .returned (.int .i64 (if s.fen x = true then 10 else 0)) ∧ ∃ s', Step s s' ∧ s'.fen x = true ∧ NextP B N w s' w'
theorem oneE_ok {s : NS} {x : Nm} (hx : x ∈ s.nodes) (hn : namedB x = true) : oneE s x = 0 := by unfold oneE; rw [if_pos hn, if_pos hx]
theorem fenB_in {s : NS} {x : Nm} (hx : x ∈ s.nodes) : fenB s x = s.fen x := by unfold fenB; simp [hx]
theorem short_nm {x : Nm} (hn : namedB x = true) : x.length ≤ maxLen := by
  have := (named_len hn).2
  unfold maxLen
  omega
theorem fence_net {B N : Nat} {w : World} {s : NS} (h : NetB B w N s) (x : Nm) (hx : x ∈ s.nodes) (hn : namedB x = true) : Calls Tryz.prog 28 #[.pointer (some ⟨N, 0, none⟩), encS x] w (FenN B N s x w) := by
  obtain ⟨bn, bl, vh, vs, h1, hni, hB⟩ := h
  have hw : B ≤ w.heap.size := Nat.le_trans hB.1 (Nat.le_of_lt h1.blk.lt)
  refine (Fence_any h1 hni x (short_nm hn)).mono ?_
  rintro e w' ⟨z, hz, rfl, hq⟩
  have e1 : z = if s.fen x = true then 10 else 0 := by
    rw [hz]
    unfold fenceE fen1E
    rw [oneE_ok hx hn, fenB_in hx]
    by_cases hf : s.fen x = true
    · rw [if_pos hf]; rfl
    · rw [if_neg hf]; rfl
  refine ⟨by rw [e1], ?_⟩
  rcases hq with ⟨h0, hn2, hb2⟩ | ⟨h0, ⟨vh', hn2, hv2⟩, hk2⟩
  · have hf : s.fen x = true := by
      by_cases hf : s.fen x = true
      · exact hf
      · rw [if_neg hf] at e1; exact absurd e1 h0
    exact ⟨s, Step.refl s, hf, ⟨bn, bl, vh, vs, hn2, hni, hB⟩, hb2.mono hw, CK.of_below hb2⟩
  · obtain ⟨q1, q2, q3, q4⟩ := fence_ok h1.ok hni x
    exact ⟨_, q3, q4, NetB.next h1 hB hk2 (fun k hk => by simp only [List.mem_cons, List.not_mem_nil, or_false] at hk; rcases hk with rfl | rfl | rfl <;> simp) hn2 (fun k hk => .inr (hv2 k hk)) (fun k hk => .inl hk) q2⟩
theorem fenced_net {B N : Nat} {w : World} {s : NS} (h : NetB B w N s) (x : Nm) (hx : x ∈ s.nodes) (hn : namedB x = true) : Calls Tryz.prog 27 #[.pointer (some ⟨N, 0, none⟩), encS x] w fun e w' => e = .returned (.tuple #[.bool (s.fen x), .int .i64 0]) ∧ Below w.heap.size w w' := by
  obtain ⟨bn, bl, vh, vs, h1, hni, hB⟩ := h
  refine (Fenced_any h1 x (short_nm hn)).mono ?_
  rintro e w' ⟨⟨b, z, rfl, hz, hb⟩, hbw⟩
  rw [oneE_ok hx hn] at hz hb
  rw [if_pos rfl, fenB_in hx] at hb
  subst hz; subst hb
  exact ⟨rfl, hbw⟩
theorem holds_net {B N : Nat} {w : World} {s : NS} (h : NetB B w N s) : Calls Tryz.prog 30 #[.pointer (some ⟨N, 0, none⟩)] w (HoldsP s.holds w) := by
  obtain ⟨bn, bl, vh, vs, h1, hni, hB⟩ := h
  exact Holds_any h1 hni
theorem trans_net {B N : Nat} {w : World} {s : NS} (h : NetB B w N s) : Calls Tryz.prog 29 #[.pointer (some ⟨N, 0, none⟩)] w (TransP s.sents w) := by
  obtain ⟨bn, bl, vh, vs, h1, hni, hB⟩ := h
  exact Transfers_any h1 hni
theorem NetB.ni {B N : Nat} {w : World} {s : NS} (h : NetB B w N s) : NI s := by
  obtain ⟨bn, bl, vh, vs, h1, hni, hB⟩ := h
  exact hni
theorem NetB.ok {B N : Nat} {w : World} {s : NS} (h : NetB B w N s) : NSOK s := by
  obtain ⟨bn, bl, vh, vs, h1, hni, hB⟩ := h
  exact h1.ok
/-- What a fenced node does to Route. -/
def RtP (x : Nm) (i k : Nat) (w : World) (e : Ending) (w' : World) : Prop :=
  (∃ A n c p z, e = .returned (.tuple #[.slice A n c, .int .i64 z]) ∧ n ≤ 16 ∧ Rd w' w'.heap.size 1 A n (List.map encS p) ∧ x ∉ p ∧ (((nm i = x ∨ nm k = x) ∧ i ≠ k) → z = 20)) ∧ Below w.heap.size w w'
theorem route_net {B N : Nat} {w : World} {s : NS} (h : NetB B w N s) (h8 : s.nodes = names8) {x : Nm} (hf : s.fen x = true) (hx : x ∈ s.nodes) {i k : Nat} (hi : i < 8) (hk : k < 8) : Calls Tryz.prog 32 #[.pointer (some ⟨N, 0, none⟩), encS (nm i), encS (nm k), .int .i64 1] w (RtP x i k w) := by
  obtain ⟨bn, bl, vh, vs, h1, hni, hB⟩ := h
  have ai := nm_named i hi
  have ak := nm_named k hk
  have mi : nm i ∈ s.nodes := by rw [h8]; exact nm_mem hi
  have mk : nm k ∈ s.nodes := by rw [h8]; exact nm_mem hk
  have hfb : fenB s x = true := by rw [fenB_in hx]; exact hf
  refine (Route_any h1 (nm i) (nm k) 1 (short_nm ai) (short_nm ak)).mono ?_
  rintro e w' ⟨⟨v, z, rfl, hq⟩, hb⟩
  have hends : endsE s (nm i) (nm k) = 0 → ¬ ((nm i = x ∨ nm k = x) ∧ i ≠ k) := fun h0 hx2 => by
    obtain ⟨_, _, _, _, _, f1, f2⟩ := endsE_zero h0
    rcases hx2.1 with e | e
    · rw [e, hfb] at f1; cases f1
    · rw [e, hfb] at f2; cases f2
  refine ⟨?_, hb⟩
  rcases hq with ⟨h0, hz, rfl⟩ | ⟨h0, _, hz, rfl⟩ | ⟨h0, p, l, hpl, hz, hrow⟩
  · refine ⟨none, 0, 0, [], z, rfl, by omega, Rd.nil _ _ _ _, by simp, fun hx2 => ?_⟩
    have hne : nm i ≠ nm k := fun e => hx2.2 (nm_inj hi hk e)
    have e1 : twoE (nm i) (nm k) = 0 := by unfold twoE; rw [if_pos ⟨ai, ak, hne⟩]
    have e2 : bothE s (nm i) (nm k) = 0 := by unfold bothE; rw [if_pos ⟨mi, mk⟩]
    have e3 : fenE s (nm i) (nm k) = 20 := by
      unfold fenE
      rw [if_pos]
      rcases hx2.1 with e | e
      · rw [e, hfb]; rfl
      · rw [e, hfb, Bool.or_true]
    have e4 : endsE s (nm i) (nm k) = 20 := by unfold endsE; rw [e1, e2, e3]; rfl
    rw [hz]
    unfold routeE
    rw [e4]
    rfl
  · exact ⟨none, 0, 0, [], z, rfl, by omega, Rd.nil _ _ _ _, by simp, fun hx2 => absurd hx2 (hends (firstE2 h0).1)⟩
  · obtain ⟨_, _, hab, hma, hmb, _, _⟩ := endsE_zero (firstE2 h0).1
    have hgood := (pathsN h1.ok hma hmb hab (by rw [hpl]; simp)).2.1 (nmP s p) (by rw [hpl]; simp)
    have hnr := hrow.names
    obtain ⟨g, c, cs, rfl, _⟩ := id hnr
    have hlen : (nmP s p).length ≤ 16 := Nat.le_trans (nodup_sub_len hgood.nodup hgood.mem) h1.ok.nn
    exact ⟨some ⟨g, 0, none⟩, (nmP s p).length, c, nmP s p, z, rfl, hlen, hnr.rd.2, (fun hm => by have := hgood.fen x hm; rw [hfb] at this; cases this), fun hx2 => absurd hx2 (hends (firstE2 h0).1)⟩
end Go.Proofs.YtecndceekgaglaaGreat
