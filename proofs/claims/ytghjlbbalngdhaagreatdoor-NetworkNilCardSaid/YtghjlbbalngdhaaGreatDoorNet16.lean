/- The contract of choose. Conditions: as the statement says. -/
import Derived.Test.YtghjlbbalngdhaaGreatDoorNet13
import Derived.Stop.RegionWithIn
import Derived.Sort.CutIn
import Derived.Shelf.Abstract
namespace Go.Proofs.YtghjlbbalngdhaaGreatDoor
open Go.RowKit
set_option linter.unusedVariables false
attribute [local go_sem] Oper.semAt_some
def ChP (ns : List Nm) (g : PG) (s t k : Nat) (w : World) (e : Ending) (w' : World) : Prop :=
  (∃ v, e = .returned v ∧ if countG g s t k < k then v = .slice none 0 0 else OutAt w' w.heap.size ns v (chooseL s t k g) ∧ (chooseL s t k g = [] → v = .slice none 0 0)) ∧ Below w.heap.size w w'
theorem GX.names {w : World} {n₀ G : Nat} {ns : List Nm} {g : PG} (h : GX w n₀ G ns g) : ∃ nA nc, w.cell? ⟨G, 0, none⟩ = some (.slice nA g.n nc) ∧ Rd w n₀ 1 nA g.n (ns.map encS) := by
  obtain ⟨h1, h2, h3, nA, nc, ab, ao, ac, bo, co, h4, h5, _⟩ := h
  exact ⟨nA, nc, by rw [h4.cell]; rfl, h5⟩
/-- The marks that range statements have left. -/
def Marks (n₀ : Nat) : List Deferred → World → Prop
  | [], _ => True
  | d :: ds, W => (∃ D, d = { target := .collected D, args := #[] } ∧ n₀ ≤ D ∧ W.heap[D]? = some (.deferred (some [])) ∧ ∀ d' ∈ ds, d'.target ≠ .collected D) ∧ Marks n₀ ds W
theorem Marks.keep {n₀ : Nat} {W W' : World} (hk : ∀ (k : Nat) (o : Obj), W.heap[k]? = some o → o.isCells = false → W'.heap[k]? = some o) : ∀ {ds : List Deferred}, Marks n₀ ds W → Marks n₀ ds W'
  | [], _ => trivial
  | d :: ds, ⟨⟨D, h1, h0, h2, h3⟩, h4⟩ => ⟨⟨D, h1, h0, hk _ _ h2 rfl, h3⟩, Marks.keep hk h4⟩
theorem Marks.put {n₀ : Nat} {W : World} {D : Nat} (o : Obj) : ∀ {ds : List Deferred}, (∀ d' ∈ ds, d'.target ≠ .collected D) → Marks n₀ ds W → Marks n₀ ds (W.putObj D o)
  | [], _, _ => trivial
  | d :: ds, hd, ⟨⟨D', h1, h0, h2, h3⟩, h4⟩ => ⟨⟨D', h1, h0, (World.putObj_heap_other (fun e => hd d (by simp) (by rw [h1, e]))).trans h2, h3⟩, Marks.put o (fun d' hd' => hd d' (by simp [hd'])) h4⟩
theorem Marks.lt {n₀ : Nat} {W : World} : ∀ {ds : List Deferred}, Marks n₀ ds W → ∀ d ∈ ds, ∀ D, d.target = .collected D → D < W.heap.size
  | [], _, d, hd, _, _ => by simp at hd
  | d :: ds, ⟨⟨D', h1, h0, h2, h3⟩, h4⟩, d', hd, D, hD => by
    rcases List.mem_cons.1 hd with rfl | hd
    · rw [h1] at hD
      simp at hD
      subst hD
      exact (Array.getElem?_eq_some_iff.1 h2).1
    · exact Marks.lt h4 d' hd D hD
theorem Marks.iter {n₀ n₁ : Nat} {A B : World} {row : Option Nat} : ∀ {ds : List Deferred}, Marks n₀ ds A → (∀ d ∈ ds, ∀ D, d.target = .collected D → D < n₁) → A.grownBy B row → (∀ r, row = some r → n₁ ≤ r) → Marks n₀ ds B
  | [], _, _, _, _ => trivial
  | d :: ds, ⟨⟨D', h1, h0, h2, h3⟩, h4⟩, hb, hg, hr => ⟨⟨D', h1, h0, (hg.block D' (Array.getElem?_eq_some_iff.1 h2).1 (fun e => by
      have := hb d (by simp) D' (by rw [h1])
      have := hr D' e.symm
      omega)).trans h2, h3⟩, Marks.iter h4 (fun d' hd' => hb d' (by simp [hd'])) hg hr⟩
theorem PathV.put {W : World} {v : Value} {p : List Nat} {l : Nat} {o o' : Obj} (h : PathV W v p) (ho : W.heap[l]? = some o) (hc : o.isCells = false) : PathV (W.putObj l o') v p := by
  obtain ⟨hh, c, cs, h1, h2, h3, h4⟩ := h
  refine ⟨hh, c, cs, h1, h2, (World.putObj_heap_other (fun e => ?_)).trans h3, h4⟩
  unfold Bk at h3
  rw [e, ho] at h3; cases h3; cases hc
theorem below_next (W : World) (r : Int) : Below W.heap.size W (W.alloc (.cells #[.int .i64 (r - 1)] 3)) := (Below.refl _ W).alloc (Nat.le_refl _) _
theorem ChS.next {n₀ b4 b9 b11 b13 b14 : Nat} {ns : List Nm} {s t : Nat} {G : Nat} {g : PG} {v : Value} {acc : List (List Nat)} {r : Int} {w0 W : World} (h : ChS n₀ b4 b9 b11 b13 b14 ns s t G g v acc r w0 W) :
    ChS n₀ b4 b9 b11 b13 W.heap.size ns s t G g v acc (r - 1) w0 (W.alloc (.cells #[.int .i64 (r - 1)] 3)) := by
  have h1 := h.far (below_next W r)
  exact { h1 with k14 := Bk.new W #[.int .i64 (r - 1)] 3 }
theorem chooseL_none {s t r : Nat} {g : PG} (h : ∀ q ∈ eachG g s t, ¬ r ≤ countG (g.without q) s t r) : chooseL s t (r + 1) g = chooseL s t r g := by
  have : pickG g s t r = none := by
    unfold pickG
    rw [List.find?_eq_none]
    intro q hq
    simpa using h q hq
  rw [chooseL, this]
theorem chooseL_some {s t r : Nat} {g : PG} {q : List (List Nat)} {p : List Nat} (hp : q ++ [p] <+: eachG g s t) (hq : ∀ y ∈ q, ¬ r ≤ countG (g.without y) s t r) (h : r ≤ countG (g.without p) s t r) : chooseL s t (r + 1) g = p :: chooseL s t r (g.without p) := by
  have : pickG g s t r = some p := by
    obtain ⟨x, hx⟩ := hp
    unfold pickG
    rw [← hx, List.append_assoc, List.find?_append, List.find?_eq_none.2 (fun y hy => by simpa using hq y hy)]
    simp [h]
  rw [chooseL, this]
theorem eachG_len {g : PG} {s t : Nat} {p : List Nat} (h : p ∈ eachG g s t) : p.length ≤ g.n := by
  unfold eachG at h
  rw [List.mem_flatMap] at h
  obtain ⟨i, hi, h⟩ := h
  rw [List.mem_range] at hi
  obtain ⟨r, rfl, h1, _⟩ := extG_mem g s t _ (i + 1) [s] p (by simp) h
  simp; omega
theorem info_str16 : (Tryz.prog.info? 9).map (fun i => (i.zero, i.size, i.bytes)) = some (some (.string ⟨#[]⟩), 1, 16) := by kernel_rfl
theorem elB_str : ElemB Tryz.prog 35 9 1 16 := ElemB.of Tryz.underlying35 info_str16 rfl (by decide)
theorem info_strs16 : (Tryz.prog.info? 35).map (fun i => (i.zero, i.size, i.bytes)) = some (some (.slice none 0 0), 1, 24) := by kernel_rfl
theorem elB_strs : ElemB Tryz.prog 55 35 1 24 := ElemB.of Tryz.underlying55 info_strs16 rfl (by decide)
theorem RowAt.own {w : World} {base n : Nat} {v : Value} {ns : List Nm} {p : List Nat} (h : w.ownsRow base 9 1 v n ((p.take p.length).map fun a => encS (ns.getD a []))) (hp : 1 ≤ p.length) : RowAt w ns v p := by
  rw [List.take_length] at h
  have h1 := h.1
  obtain rfl : n = p.length := by simpa using h1.symm
  rcases h.2 with ⟨_, h2⟩ | ⟨g, cap, cur, rfl, hg, hh, hcap, _, _, htk⟩
  · omega
  · refine ⟨g, cap, cur, rfl, hcap, hh, fun i hi => ?_⟩
    have e : (p.map fun a => encS (ns.getD a []))[i]? = some (encS (ns.getD (p.getD i 0) [])) := by
      rw [List.getElem?_map, List.getD_eq_getElem?_getD (l := p), List.getElem?_eq_getElem hi]; rfl
    rw [← htk, List.getElem?_take, if_pos (by omega), Array.getElem?_toList] at e
    exact e
theorem chooseL_len (s t : Nat) : ∀ (k : Nat) (g : PG), (chooseL s t k g).length ≤ k
  | 0, _ => by simp [chooseL]
  | k + 1, g => by
    rw [chooseL]
    split
    · have := chooseL_len s t k (g.without ‹_›)
      simp; omega
    · have := chooseL_len s t k g
      omega
theorem ko_push {n₀ n : Nat} {wa w2 : World} {t : TypeId} {v : Value} {vals : List Value} (ho : wa.ownsRow n₀ t 1 v n vals) (hb : Below n₀ wa w2) (hg : wa.grownBy w2 v.ownBlock) : KeepsOthers wa w2 :=
  ⟨hb.size, fun k o hk hc => (hg.block k (Array.getElem?_eq_some_iff.1 hk).1 (fun e => by
    rcases ho.2 with ⟨rfl, _⟩ | ⟨g0, cap, cur, rfl, _, hh, _⟩
    · cases e
    · obtain rfl : k = g0 := by simpa [Value.ownBlock] using e
      rw [hh] at hk
      cases hk; cases hc)).trans hk⟩
theorem leaves_ch {F : Fence} {m : Nat} {P : Program} {fn : Func} {tmps : Array Value} {R : Ending → World → Prop} {n₀ b4 b9 b11 b13 b14 : Nat} {ns : List Nm} {s t : Nat} {G : Nat} {g : PG} {v : Value} {acc : List (List Nat)} {left : Int} {w0 : World} :
    ∀ (ds : List Deferred) (W : World), Marks n₀ ds W → ChS n₀ b4 b9 b11 b13 b14 ns s t G g v acc left w0 W → (∀ W', ChS n₀ b4 b9 b11 b13 b14 ns s t G g v acc left w0 W' → LeavesInM F m P fn tmps R [] .returning W') → LeavesInM F m P fn tmps R ds .returning W
  | [], W, _, hs, hf => hf W hs
  | d :: ds, W, ⟨⟨D, h1, h0, h2, h3⟩, h4⟩, hs, hf => by
    refine ⟨by simp, .inl ⟨D, _, by rw [h1], run_takeDeferred h2, ?_⟩⟩
    refine leaves_ch ds _ (Marks.put _ h3 h4) (hs.iter (grownBy_putObj' W D _) (fun r e => by cases e; exact ⟨h0, _, h2, rfl⟩)) hf
set_option maxRecDepth 100000 in
set_option maxHeartbeats 2000000 in
theorem choose_any {w : World} {G : Nat} {ns : List Nm} {g : PG} (h : GX w w.heap.size G ns g) (hsn : ns.Pairwise (· < ·)) (s t k : Nat) (x y : Nm) (hx : ns[s]? = some x) (hy : ns[t]? = some y) (hst : s ≠ t) (hk1 : 1 ≤ k) (hk : k ≤ 1000) :
    Calls Tryz.prog 66 #[.pointer (some ⟨G, 0, none⟩), encS x, encS y, .int .i64 (k : Int)] w (ChP ns g s t k w) := by
  obtain ⟨nA, nc, hnm, hrd⟩ := h.names
  have hn16 := h.1.2.2
  have hsg : s < g.n := by rw [h.1.1]; exact (List.getElem?_eq_some_iff.1 hx).1
  have htg : t < g.n := by rw [h.1.1]; exact (List.getElem?_eq_some_iff.1 hy).1
  have hGl : G < w.heap.size := h.at' (Nat.le_refl _) |>.lt
  have H := Lib.hid h; have HX := Lib.hid hx; have HY := Lib.hid hy; have HS := Lib.hid hsn; have HRD := Lib.hid hrd
  clear h hx hy hsn hrd
  refine (callsIn_wide (n := 6)).1 ?_
  refine callsIn_of_wp_marks Tryz.func66 rfl trivial ?_ rfl
  simp only [Tryz.ntmps66, List.size_toArray, List.length_cons, List.length_nil, Nat.reduceAdd, Nat.reduceSub, Array.replicate_succ, Array.replicate_zero, List.push_toArray, List.append_toArray, List.nil_append, List.cons_append]
  refine wpIn_wide.2 ?_
  go_wp2_with fail
  refine (search_any (HRD.out.alloc (Nat.le_refl _) _) hn16 HS.out s x HX.out).mono ?_
  rintro e w' ⟨rfl, rfl⟩
  go_wp2_with fail
  refine (search_any ((HRD.out.alloc (Nat.le_refl _) _).alloc (by simp) _) hn16 HS.out t y HY.out).mono ?_
  rintro e w' ⟨rfl, rfl⟩
  have hb4 := Bk.new w #[.pointer (some ⟨G, 0, none⟩)] 123
  have hb9 := Bk.new (w.alloc (.cells #[.pointer (some ⟨G, 0, none⟩)] 123)) #[.int .i64 (s : Int)] 3
  have hb11 := Bk.new ((w.alloc (.cells #[.pointer (some ⟨G, 0, none⟩)] 123)).alloc (.cells #[.int .i64 (s : Int)] 3)) #[.int .i64 (t : Int)] 3
  have hb13 := Bk.new (((w.alloc (.cells #[.pointer (some ⟨G, 0, none⟩)] 123)).alloc (.cells #[.int .i64 (s : Int)] 3)).alloc (.cells #[.int .i64 (t : Int)] 3)) #[.slice none 0 0] 55
  have hbl : Below w.heap.size w ((((w.alloc (.cells #[.pointer (some ⟨G, 0, none⟩)] 123)).alloc (.cells #[.int .i64 (s : Int)] 3)).alloc (.cells #[.int .i64 (t : Int)] 3)).alloc (.cells #[.slice none 0 0] 55)) := ((((Below.refl _ w).alloc (Nat.le_refl _) _).alloc (by simp) _).alloc (by simp; omega) _).alloc (by simp; omega) _
  have HB4 := Lib.hid (hb4.keepL ((KeepL.alloc [] _ (.cells #[.int .i64 (s : Int)] 3)).trans ((KeepL.alloc [] _ (.cells #[.int .i64 (t : Int)] 3)).trans (KeepL.alloc [] _ (.cells #[.slice none 0 0] 55)))) (by simp))
  have HB9 := Lib.hid (hb9.keepL ((KeepL.alloc [] _ (.cells #[.int .i64 (t : Int)] 3)).trans (KeepL.alloc [] _ (.cells #[.slice none 0 0] 55))) (by simp))
  have HB11 := Lib.hid (hb11.keepL (KeepL.alloc [] _ (.cells #[.slice none 0 0] 55)) (by simp))
  have HB13 := Lib.hid hb13; have HBL := Lib.hid hbl
  clear hb4 hb9 hb11 hb13 hbl
  simp only [World.size_alloc] at HB9 HB11 HB13
  go_upto_region 4 with fail
  generalize (((w.alloc (.cells #[.pointer (some ⟨G, 0, none⟩)] 123)).alloc (.cells #[.int .i64 (s : Int)] 3)).alloc (.cells #[.int .i64 (t : Int)] 3)).alloc (.cells #[.slice none 0 0] 55) = W at HB4 HB9 HB11 HB13 HBL ⊢
  have hge : w.heap.size ≤ w.heap.size + 1 + 1 + 1 ∧ w.heap.size ≤ w.heap.size + 1 + 1 ∧ w.heap.size ≤ w.heap.size + 1 := by omega
  generalize w.heap.size + 1 + 1 + 1 = b13 at HB13 hge ⊢
  generalize w.heap.size + 1 + 1 = b11 at HB11 hge ⊢
  generalize w.heap.size + 1 = b9 at HB9 hge ⊢
  obtain ⟨b4, e4⟩ : ∃ z, z = w.heap.size := ⟨_, rfl⟩
  have hge4 : w.heap.size ≤ b4 := by omega
  have HB4' : Hid (Bk W b4 #[.pointer (some ⟨G, 0, none⟩)] 123) := Lib.hid (by rw [e4]; exact HB4.out)
  rw [← e4]
  clear HB4 e4 hnm
  have HGW : Hid (GX W w.heap.size G ns g) := Lib.hid (H.out.kt (Kb.of_below HBL.out) trivial trivial (Nat.le_refl _))
  have hcn := count_any (HGW.out.at' HBL.out.size) s t k (k : Int) rfl hk hsg htg hst
  have c4 := HB4'.out.cell 0; have c9 := HB9.out.cell 0; have c11 := HB11.out.cell 0
  simp only [List.getElem?_toArray, List.getElem?_cons_zero] at c4 c9 c11
  go_wp2_with fail
  refine hcn.mono ?_
  clear hcn c4 c9 c11
  rintro e W1 ⟨⟨z, hz, rfl⟩, hb1⟩
  have HZ := Lib.hid hz
  have HK1 : Hid (Kb w.heap.size W W1) := Lib.hid (Kb.of_below hb1)
  have HBL1 : Hid (Below w.heap.size w W1) := Lib.hid (HBL.out.trans (hb1.mono HBL.out.size))
  have hW1 : w.heap.size ≤ W1.heap.size := HBL1.out.size
  by_cases hzk : z < (k : Int)
  · clear hz hb1
    go_wp2_with fail
    refine ⟨_, results_tmp rfl _ _ _, ?_⟩
    refine ⟨⟨_, rfl, ?_⟩, HBL1.out⟩
    have hz2 := HZ.out
    rw [if_pos (by omega)]; rfl
  · have hc0 : ¬ countG g s t k < k := by omega
    clear hz hb1
    go_wp2_with fail
    have h14 := Bk.new W1 #[.int .i64 ((k : Int) - 1)] 3
    have hbw2 : Below W1.heap.size W1 (W1.alloc (.cells #[.int .i64 ((k : Int) - 1)] 3)) := (Below.refl _ _).alloc (Nat.le_refl _) _
    have K2 : Kb w.heap.size W (W1.alloc (.cells #[.int .i64 ((k : Int) - 1)] 3)) := HK1.out.trans (Kb.of_below hbw2)
    have HST : Hid (ChS w.heap.size b4 b9 b11 b13 W1.heap.size ns s t G g (.slice none 0 0) [] ((k : Int) - 1) w (W1.alloc (.cells #[.int .i64 ((k : Int) - 1)] 3))) := Lib.hid
      ⟨K2.bk _ _ _ trivial HB4'.out, K2.bk _ _ _ trivial HB9.out, K2.bk _ _ _ trivial HB11.out, K2.bk _ _ _ trivial HB13.out, h14, HGW.out.kt K2 trivial trivial HBL.out.size, ⟨[], World.ownsRow_nil _ _ _ _, fun i p hp => by simp at hp⟩, fun _ => rfl, HBL1.out.trans (hbw2.mono hW1), Nat.le_refl _⟩
    clear h14 hbw2 K2
    generalize W1.heap.size = b14 at HST ⊢
    generalize W1.alloc (.cells #[.int .i64 ((k : Int) - 1)] 3) = W2 at HST ⊢
    refine wp_loop_ghost (fun r a' w' => ∃ (G' : Nat) (g' : PG) (v : Value) (acc : List (List Nat)) (b14 : Nat) (ds : List Deferred) (u47 u48 u49 u50 u51 u52 u53 u54 u88 : Value), a' = { tmps := #[Value.pointer (some { block := G, off := 0 }), encS x, encS y, Value.int IntKind.i64 ↑k, Value.pointer (some { block := b4, off := 0 }), undef, undef, undef, Value.slice none 0 0, Value.pointer (some { block := b9, off := 0 }), Value.bool true, Value.pointer (some { block := b11, off := 0 }), Value.bool true, Value.pointer (some { block := b13, off := 0 }), Value.pointer (some { block := b14, off := 0 }), undef, undef, undef, undef, undef, Value.tuple #[Value.int IntKind.i64 ↑s, Value.bool true], Value.pointer (some { block := G, off := 0 }), Value.pointer (some { block := G, off := 0 }), Value.pointer (some { block := G, off := 0 }), Value.slice nA g.n nc, encS x, Value.tuple #[Value.int IntKind.i64 ↑s, Value.bool true], Value.int IntKind.i64 ↑s, Value.bool true, Value.tuple #[Value.int IntKind.i64 ↑t, Value.bool true], Value.pointer (some { block := G, off := 0 }), Value.pointer (some { block := G, off := 0 }), Value.pointer (some { block := G, off := 0 }), Value.slice nA g.n nc, encS y, Value.tuple #[Value.int IntKind.i64 ↑t, Value.bool true], Value.int IntKind.i64 ↑t, Value.bool true, Value.pointer (some { block := G, off := 0 }), Value.int IntKind.i64 ↑s, Value.int IntKind.i64 ↑t, Value.int IntKind.i64 ↑k, Value.int IntKind.i64 z, Value.int IntKind.i64 ↑k, Value.bool (decide (z < ↑k)), Value.int IntKind.i64 ↑k, Value.int IntKind.i64 (↑k - 1), u47, u48, u49, u50, u51, u52, u53, u54, undef, undef, undef, undef, undef, undef, undef, undef, undef, undef, undef, undef, undef, undef, undef, undef, undef, undef, undef, undef, undef, undef, undef, undef, undef, undef, undef, undef, undef, undef, undef, undef, undef, u88, undef], defers := ds } ∧ ChS w.heap.size b4 b9 b11 b13 b14 ns s t G' g' v acc ((r : Int) - 1) w w' ∧ acc ++ chooseL s t r g' = chooseL s t k g ∧ Marks w.heap.size ds w' ∧ r ≤ k) k ?_ ?_
    · exact ⟨G, g, _, [], b14, [], _, _, _, _, _, _, _, _, _, rfl, HST.out, rfl, trivial, Nat.le_refl _⟩
    · clear HST HB4' HB9 HB11 HB13 HBL HGW HK1 HBL1 hW1
      rintro r a' wa ⟨G', g', v, acc, b14, ds, u47, u48, u49, u50, u51, u52, u53, u54, u88, rfl, hst2, hacc, hmk, hrk⟩
      have HST := Lib.hid hst2; have HAC := Lib.hid hacc; have HMK := Lib.hid hmk
      have c14 := hst2.k14.cell 0
      simp only [List.getElem?_toArray, List.getElem?_cons_zero] at c14
      clear hst2 hacc hmk
      cases r with
      | zero =>
        have c13 := HST.out.k13.cell 0
        simp only [List.getElem?_toArray, List.getElem?_cons_zero] at c13
        go_wp2_with fail
        refine leaves_ch ds wa HMK.out HST.out (fun W' hs' => ?_)
        refine ⟨_, results_tmp rfl _ _ _, ?_⟩
        refine ⟨⟨_, rfl, ?_⟩, hs'.low⟩
        rw [if_neg hc0, ← HAC.out]
        simp only [chooseL, List.append_nil]
        exact ⟨hs'.out, hs'.nil⟩
      | succ r =>
        dsimp only
        have hr1 : ((r + 1 : Nat) : Int) - 1 = (r : Int) := by omega
        rw [hr1] at HST c14
        clear hr1
        have hst := HST.out
        have c4 := hst.k4.cell 0; have c9 := hst.k9.cell 0; have c11 := hst.k11.cell 0
        simp only [List.getElem?_toArray, List.getElem?_cons_zero] at c4 c9 c11
        have HEA := Lib.hid (each_any wa G' s t)
        clear hst
        go_wp2_with fail
        refine HEA.out.mono ?_
        clear HEA
        rintro e w' ⟨rfl, hw'⟩
        have HW' := Lib.hid hw'
        clear hw'
        go_wp2_with fail
        have hbe : Below wa.heap.size wa w' := by rw [HW'.out]; exact eachW_below _ _ _ _
        have hcap : Caps w' wa.heap.size (wa.heap.size + 1) (wa.heap.size + 1 + 1) G' s t := by rw [HW'.out]; exact eachW_caps _ _ _ _
        have hst1 := HST.out.far hbe
        have hmk1 : Marks w.heap.size ds w' := HMK.out.keep (fun k o ho _ => (hbe.block k (Array.getElem?_eq_some_iff.1 ho).1).trans ho)
        have hmb : ∀ d ∈ ds, ∀ D, d.target = .collected D → D < w'.heap.size := fun d hd D hD => Nat.lt_of_lt_of_le (HMK.out.lt d hd D hD) hbe.size
        have hgn : g'.n = g.n := hst1.gx.1.1.trans H.out.1.1.symm
        have hga := hst1.gx.at' hst1.sz
        have HSQ := Lib.hid (each1_any (n₀ := w'.heap.size) 5 hcap hga (Nat.le_refl _) (by omega) (by omega))
        have HS1 := Lib.hid hst1; have HM1 := Lib.hid hmk1; have HMB := Lib.hid hmb
        have hsz1 : w.heap.size ≤ w'.heap.size := hst1.sz
        clear hbe hcap hst1 hmk1 hmb hga HST HMK HW' c14 c4 c9 c11
        refine (wpIn_wide (n := 6)).1 ?_
        refine wpIn_rangeFunc_ownP rfl (by decide) (gf := 132) (lb := eachLb wa.heap.size (wa.heap.size + 1) (wa.heap.size + 1 + 1)) rfl trivial (enters_of Tryz.func132 (by kernel_rfl) rfl) HSQ.out ?hRel (fun h1 h2 => h1.trans h2) (fun W l o o' hl ho hc _ => Kx.putObj W l o o' hl ho hc) (Below.refl _ _) rfl
          (fun pre W => (∀ q ∈ pre, ¬ r ≤ countG (g'.without q) s t r) ∧ ChS w.heap.size b4 b9 b11 b13 b14 ns s t G' g' v acc (r : Int) w W ∧ Marks w.heap.size ds W ∧ w'.heap.size ≤ W.heap.size)
          (fun c pre W => c = .exit 2 ∧ ∃ q p, pre = q ++ [p] ∧ (∀ x ∈ q, ¬ r ≤ countG (g'.without x) s t r) ∧ r ≤ countG (g'.without p) s t r ∧ ∃ Gn vn, ChS w.heap.size b4 b9 b11 b13 b14 ns s t Gn (g'.without p) vn (acc ++ [p]) (r : Int) w W ∧ Marks w.heap.size ds W)
          ?hI ?hIx ⟨fun q hq => absurd hq (by simp), HS1.out, HM1.out, Nat.le_refl _⟩ (fun pv => { tmps := #[Value.pointer (some { block := G, off := 0 }), encS x, encS y, Value.int IntKind.i64 ↑k, Value.pointer (some { block := b4, off := 0 }), undef, undef, undef, Value.slice none 0 0, Value.pointer (some { block := b9, off := 0 }), Value.bool true, Value.pointer (some { block := b11, off := 0 }), Value.bool true, Value.pointer (some { block := b13, off := 0 }), Value.pointer (some { block := b14, off := 0 }), pv, undef, undef, undef, undef, Value.tuple #[Value.int IntKind.i64 ↑s, Value.bool true], Value.pointer (some { block := G, off := 0 }), Value.pointer (some { block := G, off := 0 }), Value.pointer (some { block := G, off := 0 }), Value.slice nA g.n nc, encS x, Value.tuple #[Value.int IntKind.i64 ↑s, Value.bool true], Value.int IntKind.i64 ↑s, Value.bool true, Value.tuple #[Value.int IntKind.i64 ↑t, Value.bool true], Value.pointer (some { block := G, off := 0 }), Value.pointer (some { block := G, off := 0 }), Value.pointer (some { block := G, off := 0 }), Value.slice nA g.n nc, encS y, Value.tuple #[Value.int IntKind.i64 ↑t, Value.bool true], Value.int IntKind.i64 ↑t, Value.bool true, Value.pointer (some { block := G, off := 0 }), Value.int IntKind.i64 ↑s, Value.int IntKind.i64 ↑t, Value.int IntKind.i64 ↑k, Value.int IntKind.i64 z, Value.int IntKind.i64 ↑k, Value.bool (decide (z < ↑k)), Value.int IntKind.i64 ↑k, Value.int IntKind.i64 (↑k - 1), Value.int IntKind.i64 ↑r, Value.bool true, u49, u50, Value.pointer (some { block := G', off := 0 }), Value.int IntKind.i64 ↑s, Value.int IntKind.i64 ↑t, Value.func (Fn.func 132) #[] (eachLb wa.heap.size (wa.heap.size + 1) (wa.heap.size + 1 + 1)), pv, undef, undef, undef, undef, undef, undef, undef, undef, undef, undef, undef, undef, undef, undef, undef, undef, undef, undef, undef, undef, undef, undef, undef, undef, undef, undef, undef, undef, undef, undef, undef, undef, u88, undef], defers := [] }) ?assign ?body ?done ?stop
        case hRel => exact fun x v W l o o' hp hl ho hc => hp.put ho hc
        case hI =>
          rintro pre A B row ⟨h1, h2, h3, h4⟩ hg hr
          exact ⟨h1, h2.iter hg (fun r e => ⟨Nat.le_trans hsz1 (hr r e).1, (hr r e).2⟩), h3.iter HMB.out hg (fun r e => (hr r e).1), Nat.le_trans h4 hg.size⟩
        case hIx =>
          rintro c pre A B row ⟨h0, q, p, h1, h2, h3, Gn, vn, h4, h5⟩ hg hr
          exact ⟨h0, q, p, h1, h2, h3, Gn, vn, h4.iter hg (fun r e => ⟨Nat.le_trans hsz1 (hr r e).1, (hr r e).2⟩), h5.iter HMB.out hg (fun r e => (hr r e).1)⟩
        case assign =>
          intro l x W K hK
          refine wpIn_region_lit (wpListIn_of_plain (fun a w h => h) _ _ _ rfl ?_)
          go_wp2_with fail
          exact hK
        case body =>
          rintro l pre p pv W hpre hrel ⟨hf, hs2, hm2, hszW⟩
          have hpm : p ∈ eachG g' s t := hpre.subset (by simp)
          have hpg := eachG_mem hpm
          have hpl := eachG_len hpm
          have hg16 : g'.n ≤ 16 := by omega
          have hpn : ∀ i, i < p.length → p.getD i 0 < g'.n := fun i hi => by
            rcases Nat.eq_zero_or_pos i with h0 | h0
            · subst h0; rw [hpg.first]; omega
            · refine hpg.lt _ ?_
              rw [List.getD_eq_getElem?_getD, List.getElem?_eq_getElem hi]
              rw [List.mem_iff_getElem]
              exact ⟨i - 1, by rw [List.length_drop]; omega, by rw [List.getElem_drop]; simp only [Option.getD_some]; congr 1; omega⟩
          have hga := hs2.gx.at' hs2.sz
          have HWO := Lib.hid (without_any hga pv p hrel hpg.len (by omega) hpn)
          have c4 := hs2.k4.cell 0
          simp only [List.getElem?_toArray, List.getElem?_cons_zero] at c4
          have HS2 := Lib.hid hs2; have HM2 := Lib.hid hm2; have HF := Lib.hid hf; have HPRE := Lib.hid hpre; have HREL := Lib.hid hrel; have HPN := Lib.hid hpn
          clear hpm hs2 hm2 hf hpre hrel hga hpn HSQ HS1 HM1
          gi_upto_region 11 with fail
          refine wpIn_region_lit (wpListIn_of_plain (fun a w h => h) _ _ _ rfl ?_)
          go_wp2_with fail
          refine HWO.out.mono ?_
          clear HWO
          rintro e w1 ⟨rfl, ⟨hg1, hng⟩, hb1⟩
          have HG1 := Lib.hid hg1; have HNG := Lib.hid hng; have HB1 := Lib.hid hb1
          clear hg1 hng hb1
          go_wp2_with fail
          gi_upto_region 12 with fail
          have HS3 := Lib.hid (HS2.out.far HB1.out)
          have HCN := Lib.hid (fun w : World => fun hg : GAt w w.heap.size W.heap.size ns (g'.without p) => count_any hg s t r (r : Int) rfl (by omega) (by show s < g'.n; omega) (by show t < g'.n; omega) hst)
          have c9 := HS3.out.k9.cell 0; have c11 := HS3.out.k11.cell 0; have c14 := HS3.out.k14.cell 0
          simp only [List.getElem?_toArray, List.getElem?_cons_zero] at c9 c11 c14
          refine wpIn_mono (Q := fun e a w' => e = .normal ∧ ∃ zz : Int, zz = countG (g'.without p) s t r ∧ Below w1.heap.size w1 w' ∧ a = { tmps := #[Value.pointer (some { block := G, off := 0 }), encS x, encS y, Value.int IntKind.i64 ↑k, Value.pointer (some { block := b4, off := 0 }), undef, undef, undef, Value.slice none 0 0, Value.pointer (some { block := b9, off := 0 }), Value.bool true, Value.pointer (some { block := b11, off := 0 }), Value.bool true, Value.pointer (some { block := b13, off := 0 }), Value.pointer (some { block := b14, off := 0 }), pv, Value.pointer (some { block := W.heap.size, off := 0 }), undef, undef, undef, Value.tuple #[Value.int IntKind.i64 ↑s, Value.bool true], Value.pointer (some { block := G, off := 0 }), Value.pointer (some { block := G, off := 0 }), Value.pointer (some { block := G, off := 0 }), Value.slice nA g.n nc, encS x, Value.tuple #[Value.int IntKind.i64 ↑s, Value.bool true], Value.int IntKind.i64 ↑s, Value.bool true, Value.tuple #[Value.int IntKind.i64 ↑t, Value.bool true], Value.pointer (some { block := G, off := 0 }), Value.pointer (some { block := G, off := 0 }), Value.pointer (some { block := G, off := 0 }), Value.slice nA g.n nc, encS y, Value.tuple #[Value.int IntKind.i64 ↑t, Value.bool true], Value.int IntKind.i64 ↑t, Value.bool true, Value.pointer (some { block := G, off := 0 }), Value.int IntKind.i64 ↑s, Value.int IntKind.i64 ↑t, Value.int IntKind.i64 ↑k, Value.int IntKind.i64 z, Value.int IntKind.i64 ↑k, Value.bool (decide (z < ↑k)), Value.int IntKind.i64 ↑k, Value.int IntKind.i64 (↑k - 1), Value.int IntKind.i64 ↑r, Value.bool true, u49, u50, Value.pointer (some { block := G', off := 0 }), Value.int IntKind.i64 ↑s, Value.int IntKind.i64 ↑t, Value.func (Fn.func 132) #[] (eachLb wa.heap.size (wa.heap.size + 1) (wa.heap.size + 1 + 1)), pv, Value.pointer (some { block := G', off := 0 }), pv, Value.pointer (some { block := W.heap.size, off := 0 }), Value.pointer (some { block := W.heap.size, off := 0 }), Value.int IntKind.i64 ↑s, Value.int IntKind.i64 ↑t, Value.int IntKind.i64 ↑r, Value.int IntKind.i64 zz, Value.int IntKind.i64 ↑r, Value.bool (decide (zz < ↑r)), undef, undef, undef, undef, undef, undef, undef, undef, undef, undef, undef, undef, undef, undef, undef, undef, undef, undef, undef, undef, undef, undef, u88, undef], defers := [] }) ?reg ?cont
          case reg =>
            have hqw : Qw w1 w1.drew := ⟨1, rfl⟩
            have HQD := Lib.hid (hqw.below w1.heap.size)
            clear hqw
            have HCW := Lib.hid (HCN.out w1.drew (HG1.out.q ⟨1, rfl⟩))
            clear HCN
            gi_region_with (refine ⟨trivial, (CallsIn.inRound l (callsIn_wide.2 HCW.out)).mono ?_⟩; rintro e w9 ⟨⟨zz, hzz, rfl⟩, hb9⟩; have c14' := (hb9.cell (p := ⟨b14, 0, none⟩) HS3.out.k14.lt).trans c14; have HZZ := Lib.hid hzz; have HB9 := Lib.hid hb9; clear hzz hb9)
            all_goals exact ⟨rfl, _, HZZ.out, HQD.out.trans HB9.out, rfl⟩
          case cont =>
            rintro e a w2 ⟨rfl, zz, hzz, hb2, rfl⟩
            have hbW : Below W.heap.size W w2 := bnextK HB1.out hb2
            have HKO : Hid (KeepsOthers W w2) := Lib.hid ⟨hbW.size, fun k o ho _ => (hbW.block k (Array.getElem?_eq_some_iff.1 ho).1).trans ho⟩
            have HS4 := Lib.hid (HS2.out.far hbW)
            have HM4 : Hid (Marks w.heap.size ds w2) := Lib.hid (HM2.out.keep (fun k o ho _ => (hbW.block k (Array.getElem?_eq_some_iff.1 ho).1).trans ho))
            by_cases hzr : zz < (r : Int)
            · have HFN : Hid (∀ q ∈ pre ++ [p], ¬ r ≤ countG (g'.without q) s t r) := Lib.hid (fun q hq => by
                rcases List.mem_append.1 hq with hq | hq
                · exact HF.out q hq
                · rw [List.mem_singleton] at hq; subst hq; omega)
              clear hzz
              gi_wp2_with fail
              exact ⟨HKO.out, Kx.of_below hszW hbW, HFN.out, HS4.out, HM4.out, Nat.le_trans hszW hbW.size⟩
            · have hok : r ≤ countG (g'.without p) s t r := by omega
              clear hzz
              obtain ⟨hh, c, cs, rfl, hcc, hbk, hcs⟩ := HREL.out
              obtain ⟨nA2, nc2, hnm2, hrd2⟩ := HS4.out.gx.names
              obtain ⟨nb, no, rfl, _, hnc⟩ := hrd2.2 (by omega)
              have HBK : Hid (Bk w2 hh cs 3) := Lib.hid (hbk.past hbW hbk.lt)
              have HCS := Lib.hid hcs
              have HNC : Hid (∀ a, a < g'.n → w2.cell? ⟨nb, no + a, none⟩ = some (encS (ns.getD a []))) := Lib.hid (fun a ha => hnc a _ (by
                have hal : a < ns.length := by rw [← HS4.out.gx.1.1]; exact ha
                rw [List.getElem?_map, List.getElem?_eq_getElem hal, List.getD_eq_getElem?_getD, List.getElem?_eq_getElem hal]; rfl))
              have HNM := Lib.hid hnm2
              have hnbl : nb < w2.heap.size := by
                have := hrd2.2 (by omega)
                obtain ⟨b', o', he, hb', _⟩ := this
                injection he with he; injection he with e1 _ _
                have := HS4.out.sz
                omega
              clear hbk hcs hnm2 hrd2 hnc
              gi_wp2_with fail
              gi_loopw [17, 68] (fun u j wr => ∃ i : Nat, i ≤ p.length ∧ j = .int .i64 i ∧ wr.ownsRow w2.heap.size 9 1 u i ((p.take i).map fun a => encS (ns.getD a [])) ∧ Below w2.heap.size w2 wr) (fun _ j _ => p.length - (intOf j).toNat)
              case atStart => exact ⟨0, Nat.zero_le _, rfl, World.ownsRow_nil _ _ _ _, Below.refl _ _⟩
              case round =>
                obtain ⟨i, hi, rfl, ho, hb⟩ := hrel
                obtain ⟨w3, rfl⟩ : ∃ z : World, z = wr := ⟨_, rfl⟩
                have HO := Lib.hid ho; have HB := Lib.hid hb
                have hs3 : w2.heap.size ≤ w3.heap.size := hb.size
                clear ho hb
                by_cases hlt : i < p.length
                · have hki : (i : Int) < (p.length : Int) := by omega
                  have hxa := HPN.out i hlt
                  have HTS : Hid (p.take (i + 1) = p.take i ++ [p.getD i 0]) := Lib.hid (by
                    rw [List.take_succ_eq_append_getElem hlt, List.getD_eq_getElem?_getD, List.getElem?_eq_getElem hlt]; rfl)
                  have cp : w3.cell? ⟨hh, i, none⟩ = some (.int .i64 (p.getD i 0 : Nat)) := by
                    rw [(HBK.out.past HB.out HBK.out.lt).cell, HCS.out i hlt]
                  generalize p.getD i 0 = a at cp hxa HTS
                  have hai : (a : Int) < (g'.n : Int) := by omega
                  have ca : w3.cell? ⟨nb, no + a, none⟩ = some (encS (ns.getD a [])) := (HB.out.cell (p := ⟨nb, no + a, none⟩) hnbl).trans (HNC.out a hxa)
                  have cg : w3.cell? ⟨G', 0, none⟩ = some (.slice (some ⟨nb, no, none⟩) g'.n nc2) := (HB.out.cell (p := ⟨G', 0, none⟩) (HS4.out.gx.at' HS4.out.sz).lt).trans HNM.out
                  have cb : w3.cell? ⟨b4, 0, none⟩ = some (.pointer (some ⟨G', 0, none⟩)) := by
                    rw [(HS4.out.far HB.out).k4.cell]; rfl
                  generalize hnm0 : ns.getD a [] = nm at ca
                  have HNE := Lib.hid hnm0
                  clear hnm0
                  gi_upto_region 17 with fail
                  refine wpIn_region_lit (wpListIn_of_plain (fun a w h => h) _ _ _ rfl ?_)
                  go_wp2_with (at_builtin; refine wpList_pushL elB_str (.tmp 72) (.tmp 80) rfl rfl w2.heap.size i _ rfl HO.out rfl rfl (one_cell1 rfl) (by omega) (by decide) hs3 ?_; intro v8 w8 hown8 hb8 _ _; have HO8 := Lib.hid hown8; have HB8 := Lib.hid (HB.out.trans hb8); clear hown8 hb8)
                  gi_wp2_with fail
                  go_roundw
                  case rel => exact ⟨i + 1, by omega, by go_num, by rw [HTS.out, List.map_append, List.map_singleton, HNE.out]; exact HO8.out, HB8.out⟩
                  case measure => simp [intOf]; omega
                · have hki : ¬ (i : Int) < (p.length : Int) := by omega
                  obtain rfl : i = p.length := by omega
                  have hpl2 := hpg.len
                  have hrow := RowAt.own HO.out (by omega)
                  have hs3' := HS4.out.far HB.out
                  have hgx3 : GX w3 w.heap.size W.heap.size ns (g'.without p) := (HS2.out.gx.new HS2.out.sz HB1.out HNG.out).kt (Kb.of_below (bnextK hb2 HB.out)) trivial trivial (Nat.le_trans HS2.out.sz HB1.out.size)
                  obtain ⟨vals, hov, hvv⟩ := hs3'.out
                  have hal : acc.length ≤ 1000 := by
                    have h1 := chooseL_len s t k g
                    rw [← HAC.out, List.length_append] at h1
                    omega
                  have c13 := hs3'.k13.cell 0
                  simp only [List.getElem?_toArray, List.getElem?_cons_zero] at c13
                  obtain ⟨h17, c17, cs17, hu17, _⟩ := id hrow
                  subst hu17
                  have HRW := Lib.hid hrow; have HS5 := Lib.hid hs3'; have HGX3 := Lib.hid hgx3; have HOV := Lib.hid hov; have HVV := Lib.hid hvv
                  have hsw := hs3'.sz
                  clear hrow hs3' hgx3 hov hvv HCN c9 c11
                  gi_upto_region 19 with fail
                  refine wpIn_region_lit (wpListIn_of_plain (fun a w h => h) _ _ _ rfl ?_)
                  go_wp2_with (at_builtin
                               refine wpList_pushL elB_strs (.tmp 83) (.tmp 85) rfl rfl w.heap.size acc.length _ rfl HOV.out rfl rfl (one_cell1 rfl) (by omega) (by decide) hsw ?_
                               intro v9 w9 hown9 hb9 hg9 _
                               obtain ⟨A9, d9, rfl, hd9⟩ := own_form hown9
                               have hpu := ChS.push HS5.out HGX3.out HRW.out HOV.out HVV.out hown9 hb9 hg9 hge4 hge.1
                               obtain ⟨hpa, ⟨q13, f13⟩, q4, f4⟩ := hpu
                               have HPA := Lib.hid hpa
                               have HKP := Lib.hid (ko_push HOV.out hb9 hg9)
                               clear hpa hown9 hb9 hg9)
                  gi_wp2_with fail
                  have hko := ((HKO.out.trans ⟨HB.out.size, fun k o h _ => (HB.out.block k (Array.getElem?_eq_some_iff.1 h).1).trans h⟩).trans HKP.out).trans ((KeepsOthers.setCell w9 ⟨b13, 0, none⟩ (.slice A9 (acc.length + 1) d9)).trans (KeepsOthers.setCell (w9.setCell ⟨b13, 0, none⟩ (.slice A9 (acc.length + 1) d9)) ⟨b4, 0, none⟩ (.pointer (some ⟨W.heap.size, 0, none⟩))))
                  exact ⟨hko, rfl, pre, p, rfl, HF.out, hok, W.heap.size, _, HPA.out, HM2.out.keep (fun k o h c => hko.same k o h c)⟩
        case done =>
          rintro D W hD ⟨hf, hs2, hm2, _⟩ hK
          have c14 := hs2.k14.cell 0
          simp only [List.getElem?_toArray, List.getElem?_cons_zero] at c14
          have HN := Lib.hid (ChS.next hs2)
          have hbn := below_next W (r : Int)
          have HMN : Hid (Marks w.heap.size ({ target := .collected D, args := #[] } :: ds) (W.alloc (.cells #[.int .i64 ((r : Int) - 1)] 3))) := Lib.hid
            (Marks.keep (fun k o ho _ => (hbn.block k (Array.getElem?_eq_some_iff.1 ho).1).trans ho) ⟨⟨D, rfl, Nat.le_trans hsz1 hD, hK, fun d' hd' e => by have := HMB.out d' hd' D e; omega⟩, hm2⟩)
          have HPK : Hid (chooseL s t (r + 1) g' = chooseL s t r g') := Lib.hid (chooseL_none hf)
          clear hs2 hm2 hf hbn hK
          go_wp2_with fail
          exact ⟨r, by omega, G', g', v, acc, W.heap.size, _, _, _, _, _, _, _, _, _, _, rfl, HN.out, by rw [← HAC.out, HPK.out], HMN.out, by omega⟩
        case stop =>
          rintro D c pre W hD hpre ⟨rfl, q, p, rfl, hf, hp, Gn, vn, hs2, hm2⟩ hK
          have c14 := hs2.k14.cell 0
          simp only [List.getElem?_toArray, List.getElem?_cons_zero] at c14
          have HN := Lib.hid (ChS.next hs2)
          have hbn := below_next W (r : Int)
          have HMN : Hid (Marks w.heap.size ({ target := .collected D, args := #[] } :: ds) (W.alloc (.cells #[.int .i64 ((r : Int) - 1)] 3))) := Lib.hid
            (Marks.keep (fun k o ho _ => (hbn.block k (Array.getElem?_eq_some_iff.1 ho).1).trans ho) ⟨⟨D, rfl, Nat.le_trans hsz1 hD, hK, fun d' hd' e => by have := HMB.out d' hd' D e; omega⟩, hm2⟩)
          have HPK : Hid (chooseL s t (r + 1) g' = p :: chooseL s t r (g'.without p)) := Lib.hid (chooseL_some hpre hf hp)
          clear hs2 hm2 hf hbn hK hpre
          refine wpIn_exit ?_
          go_wp2_with fail
          exact ⟨r, by omega, Gn, g'.without p, vn, acc ++ [p], W.heap.size, _, _, _, _, _, _, _, _, _, _, rfl, HN.out, by rw [← HAC.out, HPK.out]; simp, HMN.out, by omega⟩
#print axioms choose_any
end Go.Proofs.YtghjlbbalngdhaaGreatDoor
