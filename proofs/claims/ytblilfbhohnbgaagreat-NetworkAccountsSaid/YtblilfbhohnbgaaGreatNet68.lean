/- What the laws ask of a network. Conditions: as each statement says. -/
import Derived.Test.YtblilfbhohnbgaaGreatNet65
import Derived.Test.YtblilfbhohnbgaaGreatSm3
import Derived.Test.YtblilfbhohnbgaaGreatNet44
namespace Go.Proofs.YtblilfbhohnbgaaGreat
open Go.RowKit
set_option linter.unusedVariables false
theorem SmI.ni {s : NS} {st : List Int} (h : SmI s st) : NI s := by
  refine ⟨⟨fun x hx => (by rw [h.holds] at hx; exact absurd hx (by simp)), fun q hq => ?_⟩, by rw [h.holds]; simp, by rw [h.sents]; simp, fun t ht => (by rw [h.sents] at ht; exact absurd ht (by simp)), fun x hx => (by rw [h.holds] at hx; exact absurd hx (by simp))⟩
  rw [h.holds]
  exact congrArg LkV.held (h.lks q hq)
theorem NetNew.netB {w W : World} {s : NS} {N bn bl : Nat} (h : NetNew w s N bn bl W) (hni : NI s) : NetB w.heap.size W N s := ⟨bn, bl, _, _, h.1, hni, h.2.2.2.2, h.2.2.1, h.2.2.2.1, (fun k hk => nomatch hk), (fun k hk => nomatch hk)⟩
theorem acts_at {W : World} {Bb : Nat} {A : Option Addr} {n : Nat} {l : List ActV} (h : Rd W Bb 13 A n (actsC l)) {k : Nat} {x : ActV} (hx : l[k]? = some x) (hk : k < n) : ∃ b off, A = some ⟨b, off, none⟩ ∧ W.cell? ⟨b, off + k * 13, none⟩ = some (.int .u8 (x.d : Int)) ∧ W.cell? ⟨b, off + k * 13 + 1, none⟩ = some (encS x.a) ∧ W.cell? ⟨b, off + k * 13 + 2, none⟩ = some (encS x.b) ∧
    W.cell? ⟨b, off + k * 13 + 3, none⟩ = some x.l1 ∧ W.cell? ⟨b, off + k * 13 + 4, none⟩ = some x.l2 ∧ W.cell? ⟨b, off + k * 13 + 5, none⟩ = some x.l3 ∧ W.cell? ⟨b, off + k * 13 + 6, none⟩ = some x.l4 ∧ W.cell? ⟨b, off + k * 13 + 7, none⟩ = some (.int .i64 x.n) ∧ W.cell? ⟨b, off + k * 13 + 8, none⟩ = some (.int .i64 x.k) ∧ W.cell? ⟨b, off + k * 13 + 9, none⟩ = some (.int .i64 x.need) ∧
    W.cell? ⟨b, off + k * 13 + 10, none⟩ = some (.int .i64 x.til) ∧ W.cell? ⟨b, off + k * 13 + 11, none⟩ = some (.slice x.s.A x.s.n x.s.c) ∧ W.cell? ⟨b, off + k * 13 + 12, none⟩ = some (.slice x.c.A x.c.n x.c.c) := by
  obtain ⟨b, off, rfl, _, hc⟩ := h.2 (by omega)
  have g : ∀ o, o < 13 → ∀ u, (actC x)[o]? = some u → W.cell? ⟨b, off + k * 13 + o, none⟩ = some u := fun o ho u hu => by
    rw [Nat.add_assoc]
    exact hc _ u (by rw [actsC_get l k x hx o ho]; exact hu)
  exact ⟨b, off, rfl, g 0 (by omega) _ rfl, g 1 (by omega) _ rfl, g 2 (by omega) _ rfl, g 3 (by omega) _ rfl, g 4 (by omega) _ rfl, g 5 (by omega) _ rfl, g 6 (by omega) _ rfl, g 7 (by omega) _ rfl, g 8 (by omega) _ rfl, g 9 (by omega) _ rfl, g 10 (by omega) _ rfl, g 11 (by omega) _ rfl, g 12 (by omega) _ rfl⟩
theorem NetB.ni {B N : Nat} {w : World} {s : NS} (h : NetB B w N s) : NI s := by
  obtain ⟨bn, bl, vh, vs, h1, hni, hB⟩ := h
  exact hni
theorem NetB.ok {B N : Nat} {w : World} {s : NS} (h : NetB B w N s) : NSOK s := by
  obtain ⟨bn, bl, vh, vs, h1, hni, hB⟩ := h
  exact h1.ok
def mG (m : List Bool) (a b : Nat) : Bool := m.getD (a * 8 + b) false
theorem mG_set (m : List Bool) (a b c d : Nat) (hl : m.length = 64) (ha : a < 8) (hb : b < 8) (hc : c < 8) (hd : d < 8) : mG (m.set (a * 8 + b) true) c d = if c = a ∧ d = b then true else mG m c d := by
  unfold mG
  simp only [List.getD_eq_getElem?_getD, List.getElem?_set, hl]
  by_cases h1 : a * 8 + b = c * 8 + d
  · rw [if_pos h1, if_pos (by omega), if_pos (by omega)]; rfl
  · rw [if_neg h1, if_neg (by omega)]
theorem stG_set1 (st : List Int) (a b c d : Nat) (v : Int) (hl : st.length = 64) (ha : a < 8) (hb : b < 8) (hc : c < 8) (hd : d < 8) : stG (st.set (a * 8 + b) v) c d = if c = a ∧ d = b then v else stG st c d := by
  unfold stG
  simp only [List.getD_eq_getElem?_getD, List.getElem?_set, hl]
  by_cases h1 : a * 8 + b = c * 8 + d
  · rw [if_pos h1, if_pos (by omega), if_pos (by omega)]; rfl
  · rw [if_neg h1, if_neg (by omega)]
/-- What holds of the network and its tables while links are laid. -/
structure AccI (s : NS) (m : List Bool) (t : List Int) : Prop where
  nodes : s.nodes = names8
  ml : m.length = 64
  tl : t.length = 64
  made : ∀ a b, a < b → b < 8 → mG m a b = true → pr8 a b ∈ s.pairs ∧ stG t a b = totL (s.lk (pr8 a b)) ∧ (s.lk (pr8 a b)).cap = 300
  prs : ∀ p ∈ s.pairs, ∃ a b, a < b ∧ b < 8 ∧ p = pr8 a b ∧ mG m a b = true
  pod : s.pairs.Nodup
  holds : s.holds = []
  sents : s.sents = []
  held : ∀ p ∈ s.pairs, (s.lk p).held = 0
theorem AccI.len28 {s : NS} {m : List Bool} {t : List Int} (h : AccI s m t) : s.pairs.length ≤ 28 := by
  have := nodup_sub_len (l := s.pairs) (m := allPr) h.pod (fun p hp => by
    obtain ⟨a, b, h1, h2, rfl, _⟩ := h.prs p hp
    unfold allPr
    rw [List.mem_flatMap]
    exact ⟨b, List.mem_range.2 h2, List.mem_map.2 ⟨a, List.mem_range.2 h1, rfl⟩⟩)
  rwa [allPr_len] at this
theorem AccI.start : AccI (smN 8) (List.replicate 64 false) (List.replicate 64 0) := by
  obtain ⟨h1, h2, h3, h4, h5, h6⟩ := smN_pairs 8
  have hz : ∀ a b, mG (List.replicate 64 false) a b = false := fun a b => by
    unfold mG
    rw [List.getD_eq_getElem?_getD, List.getElem?_replicate]
    split <;> rfl
  refine ⟨by rw [smN_nodes 8 (by omega)]; rfl, List.length_replicate, List.length_replicate, fun a b _ _ h => ?_, ?_, by rw [h1]; exact List.nodup_nil, h5, h6, ?_⟩
  · rw [hz] at h; cases h
  · rw [h1]; intro p hp; cases hp
  · rw [h1]; intro p hp; cases hp
def accL (s : NS) (a b : Nat) (v g ev : Int) : NS := addLink s (nm a) (nm b) v 300 g ev
theorem AccI.linkE {s : NS} {m : List Bool} {t : List Int} (h : AccI s m t) {a b : Nat} (hab : a < b) (hb : b < 8) (h0 : mG m a b = false) {v g ev : Int} (hv : 0 ≤ v ∧ v ≤ 255) (hg : 0 ≤ g ∧ g ≤ 255) (he : 1 ≤ ev ∧ ev ≤ 7) : linkE s (nm a) (nm b) v 300 g ev = 0 ∧ pr8 a b ∉ s.pairs := by
  have ha : a < 8 := by omega
  have hnot : pr8 a b ∉ s.pairs := fun hm => by
    obtain ⟨c, d, h1, h2, e, h3⟩ := h.prs _ hm
    rcases pr8_inj ha hb (by omega) h2 e with ⟨rfl, rfl⟩ | ⟨rfl, rfl⟩
    · rw [h0] at h3; cases h3
    · omega
  refine ⟨?_, hnot⟩
  have h28 := h.len28
  unfold Go.Proofs.YtblilfbhohnbgaaGreat.linkE twoE possE bothE link1E
  rw [if_pos ⟨nm_named a ha, nm_named b hb, fun e => by have := nm_inj ha hb e; omega⟩, if_pos (by unfold possL; rw [decide_eq_true_eq]; omega), if_pos (by rw [h.nodes]; exact ⟨nm_mem ha, nm_mem hb⟩), if_neg (show ¬ pairOf (nm a) (nm b) ∈ s.pairs from hnot), if_neg (by omega)]
  rfl
theorem AccI.step {s : NS} {m : List Bool} {t : List Int} (h : AccI s m t) {a b : Nat} (hab : a < b) (hb : b < 8) (h0 : mG m a b = false) {v g ev : Int} (hv : 0 ≤ v ∧ v ≤ 255) (hg : 0 ≤ g ∧ g ≤ 255) (he : 1 ≤ ev ∧ ev ≤ 7) : AccI (accL s a b v g ev) (m.set (a * 8 + b) true) (t.set (a * 8 + b) v) := by
  have ha : a < 8 := by omega
  obtain ⟨_, hnot⟩ := h.linkE hab hb h0 hv hg he
  have hlk : ∀ p, (accL s a b v g ev).lk p = if p = pr8 a b then ⟨v, 300, g, ev, v, 0, 0⟩ else s.lk p := fun p => rfl
  have hpr : (accL s a b v g ev).pairs = s.pairs ++ [pr8 a b] := rfl
  have hmem : ∀ p, p ∈ (accL s a b v g ev).pairs ↔ p ∈ s.pairs ∨ p = pr8 a b := fun p => by rw [hpr, List.mem_append, List.mem_singleton]
  have hold : ∀ p, p ∈ s.pairs → (accL s a b v g ev).lk p = s.lk p := fun p hp => by rw [hlk, if_neg (fun e : p = pr8 a b => hnot (by rw [← e]; exact hp))]
  have hnew : (accL s a b v g ev).lk (pr8 a b) = ⟨v, 300, g, ev, v, 0, 0⟩ := by rw [hlk, if_pos rfl]
  refine ⟨h.nodes, by simp [h.ml], by simp [h.tl], fun c d hcd hd hm => ?_, fun p hp => ?_, ?_, h.holds, h.sents, fun p hp => ?_⟩
  · rw [mG_set m a b c d h.ml ha hb (by omega) hd] at hm
    rw [stG_set1 t a b c d v h.tl ha hb (by omega) hd]
    by_cases e : c = a ∧ d = b
    · obtain ⟨rfl, rfl⟩ := e
      rw [if_pos ⟨rfl, rfl⟩, hnew]
      exact ⟨(hmem _).2 (.inr rfl), by unfold totL; simp, rfl⟩
    · rw [if_neg e] at hm ⊢
      obtain ⟨k1, k2, k3⟩ := h.made c d hcd hd hm
      rw [hold _ k1]
      exact ⟨(hmem _).2 (.inl k1), k2, k3⟩
  · rcases (hmem p).1 hp with hp | rfl
    · obtain ⟨c, d, h1, h2, h3, h4⟩ := h.prs p hp
      refine ⟨c, d, h1, h2, h3, ?_⟩
      rw [mG_set m a b c d h.ml ha hb (by omega) h2]
      split
      · rfl
      · exact h4
    · refine ⟨a, b, hab, hb, rfl, ?_⟩
      rw [mG_set m a b a b h.ml ha hb ha hb, if_pos ⟨rfl, rfl⟩]
  · rw [hpr, List.nodup_append]
    exact ⟨h.pod, by simp, fun x hx y hy e => by rw [List.mem_singleton] at hy; subst hy; subst e; exact hnot hx⟩
  · rcases (hmem p).1 hp with hp | rfl
    · rw [hold p hp]; exact h.held p hp
    · rw [hnew]
theorem AccI.ni {s : NS} {m : List Bool} {t : List Int} (h : AccI s m t) : NI s := by
  refine ⟨⟨fun x hx => (by rw [h.holds] at hx; exact absurd hx (by simp)), fun q hq => ?_⟩, by rw [h.holds]; simp, by rw [h.sents]; simp, fun t ht => (by rw [h.sents] at ht; exact absurd ht (by simp)), fun x hx => (by rw [h.holds] at hx; exact absurd hx (by simp))⟩
  rw [h.holds]
  exact h.held q hq
/-- The tables agree with a network: those before the place (a, b) with it as it is, the others with what it was at the time now. -/
structure AccT (s : NS) (m : List Bool) (t : List Int) (now : Int) (a b : Nat) : Prop where
  nodes : s.nodes = names8
  ml : m.length = 64
  tl : t.length = 64
  made : ∀ c d, c < d → d < 8 → mG m c d = true → pr8 c d ∈ s.pairs ∧ (s.lk (pr8 c d)).cap = 300 ∧ stG t c d ≤ totL (s.lk (pr8 c d)) ∧ (s.now = now → totL (s.lk (pr8 c d)) = stG t c d) ∧ ((c < a ∨ c = a ∧ d < b) → stG t c d = totL (s.lk (pr8 c d)))
theorem AccI.tab {s : NS} {m : List Bool} {t : List Int} (h : AccI s m t) : AccT s m t s.now 8 0 :=
  ⟨h.nodes, h.ml, h.tl, fun c d h1 h2 h3 => by
    obtain ⟨k1, k2, k3⟩ := h.made c d h1 h2 h3
    exact ⟨k1, k3, Int.le_of_eq k2, fun _ => k2.symm, fun _ => k2⟩⟩
/-- Behind a call. -/
theorem AccT.call {s s' : NS} {m : List Bool} {t : List Int} {now : Int} (h : AccT s m t now 8 0) (hs : Step s s') : AccT s' m t s.now 0 0 := by
  refine ⟨hs.nodes.trans h.nodes, h.ml, h.tl, fun c d h1 h2 h3 => ?_⟩
  obtain ⟨k1, k2, _, _, k5⟩ := h.made c d h1 h2 h3
  have e := k5 (by omega)
  have hq := hs.sum _ k1
  exact ⟨by rw [hs.pairs]; exact k1, (hs.cap _).trans k2, by rw [e]; exact hq.1, fun en => by rw [e]; exact hq.2 en, fun h => by omega⟩
theorem AccT.skip {s : NS} {m : List Bool} {t : List Int} {now : Int} {a b : Nat} (h : AccT s m t now a b) (hn : mG m a b = false) : AccT s m t now a (b + 1) :=
  ⟨h.nodes, h.ml, h.tl, fun c d h1 h2 h3 => by
    obtain ⟨k1, k2, k3, k4, k5⟩ := h.made c d h1 h2 h3
    refine ⟨k1, k2, k3, k4, fun h' => ?_⟩
    by_cases e : c = a ∧ d = b
    · rw [e.1, e.2, hn] at h3; cases h3
    · exact k5 (by omega)⟩
theorem AccT.put {s : NS} {m : List Bool} {t : List Int} {now : Int} {a b : Nat} (h : AccT s m t now a b) (hab : a < b) (hb : b < 8) : AccT s m (t.set (a * 8 + b) (totL (s.lk (pr8 a b)))) now a (b + 1) :=
  ⟨h.nodes, h.ml, by simp [h.tl], fun c d h1 h2 h3 => by
    obtain ⟨k1, k2, k3, k4, k5⟩ := h.made c d h1 h2 h3
    rw [stG_set1 t a b c d _ h.tl (by omega) hb (by omega) h2]
    by_cases e : c = a ∧ d = b
    · obtain ⟨rfl, rfl⟩ := e
      rw [if_pos ⟨rfl, rfl⟩]
      exact ⟨k1, k2, Int.le_refl _, fun _ => rfl, fun _ => rfl⟩
    · rw [if_neg e]
      exact ⟨k1, k2, k3, k4, fun h' => k5 (by omega)⟩⟩
theorem AccT.row {s : NS} {m : List Bool} {t : List Int} {now : Int} {a : Nat} (h : AccT s m t now a 8) : AccT s m t now (a + 1) 0 :=
  ⟨h.nodes, h.ml, h.tl, fun c d h1 h2 h3 => by
    obtain ⟨k1, k2, k3, k4, k5⟩ := h.made c d h1 h2 h3
    exact ⟨k1, k2, k3, k4, fun h' => k5 (by omega)⟩⟩
theorem AccT.inn {s : NS} {m : List Bool} {t : List Int} {now : Int} {a : Nat} (h : AccT s m t now a 0) : AccT s m t now a (a + 1) :=
  ⟨h.nodes, h.ml, h.tl, fun c d h1 h2 h3 => by
    obtain ⟨k1, k2, k3, k4, k5⟩ := h.made c d h1 h2 h3
    exact ⟨k1, k2, k3, k4, fun h' => k5 (by omega)⟩⟩
/-- What is asked of one link. -/
theorem AccT.ask {s : NS} {m : List Bool} {t : List Int} {now : Int} {a b : Nat} (h : AccT s m t now a b) (hok : NSOK s) (hni : NI s) (hab : a < b) (hb : b < 8) (hm : mG m a b = true) :
    stockE s (nm a) (nm b) = 0 ∧ (∃ x, x = s.lk (pairOf (nm a) (nm b)) ∧ 0 ≤ x.free ∧ 0 ≤ x.held ∧ 0 ≤ x.spent ∧ x.free + x.held ≤ 300 ∧ x.held = heldSum s.holds (pairOf (nm a) (nm b)) ∧ x.free + x.held + x.spent ≤ 72057594037993472 ∧ x.free + x.held + x.spent = totL (s.lk (pr8 a b)) ∧ stG t a b ≤ x.free + x.held + x.spent ∧ (s.now = now → x.free + x.held + x.spent = stG t a b)) := by
  obtain ⟨k1, k2, k3, k4, _⟩ := h.made a b hab hb hm
  have ha : a < 8 := by omega
  obtain ⟨c1, c2, c3, c4, c5, c6, c7, c8, c9, c10⟩ := hok.lk _ k1
  have hn := hok.now
  refine ⟨?_, s.lk (pairOf (nm a) (nm b)), rfl, c6, c7, c9, ?_, ?_, ?_, rfl, k3, k4⟩
  · unfold stockE twoE stk1E
    rw [if_pos ⟨nm_named a ha, nm_named b hb, fun e => by have := nm_inj ha hb e; omega⟩, if_pos (show pairOf (nm a) (nm b) ∈ s.pairs from k1)]
    rfl
  · exact Int.le_trans c8 (Int.le_of_eq k2)
  · exact hni.held.held _ k1
  · exact Int.le_trans c10 (by omega)
end Go.Proofs.YtblilfbhohnbgaaGreat
