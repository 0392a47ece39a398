/- The runs of a value in a list: plainly, and the iterator. Conditions: as each statement says. -/
import Derived.Test.YtdgmjedkhjeadaaGreatRangeQ
import Derived.Test.YtdgmjedkhjeadaaGreatJou8
import Derived.Deep.LoopGhost
namespace Go.Proofs.YtdgmjedkhjeadaaGreat
open Go.RowKit
set_option linter.unusedVariables false
/-- The end of a run. -/
def endB (l : List Bool) (v : Bool) : Nat → Nat → Nat
  | 0, i => i
  | k + 1, i => if l[i]? = some v then endB l v k (i + 1) else i
/-- The longest runs of a value. -/
def runsB (l : List Bool) (v : Bool) (hi : Nat) : Nat → Nat → List (Nat × Nat)
  | 0, _ => []
  | f + 1, i => if hi ≤ i then [] else if l[i]? = some v then (i, endB l v (hi - i) i) :: runsB l v hi f (endB l v (hi - i) i + 1) else runsB l v hi f (i + 1)
def runsL (l : List Bool) (v : Bool) (lo hi : Nat) : List (Nat × Nat) := runsB l v hi (hi + 1 - lo) lo
theorem endB_le (l : List Bool) (v : Bool) : ∀ k i, i ≤ endB l v k i ∧ endB l v k i ≤ i + k
  | 0, i => ⟨Nat.le_refl _, Nat.le_refl _⟩
  | k + 1, i => by
    rw [endB]
    split
    · have := endB_le l v k (i + 1); omega
    · omega
theorem runsB_nil (l : List Bool) (v : Bool) (hi : Nat) : ∀ f i, hi ≤ i → runsB l v hi f i = []
  | 0, _, _ => rfl
  | f + 1, i, h => by rw [runsB, if_pos h]
/-- What a round of a range over an iterator keeps: all blocks but those of its own kinds, and some numbers. -/
structure KpS (L : List Nat) (W W' : World) : Prop where
  size : W.heap.size ≤ W'.heap.size
  bk : ∀ b cs t, Bk W b cs t → t ≠ 77 → t ≠ 82 → t ≠ 125 → t ≠ 115 → (t = 3 → b ∉ L) → Bk W' b cs t
theorem KpS.refl (L : List Nat) (W : World) : KpS L W W := ⟨Nat.le_refl _, fun _ _ _ h _ _ _ _ _ => h⟩
theorem KpS.trans {L : List Nat} {A B C : World} (h : KpS L A B) (k : KpS L B C) : KpS L A C :=
  ⟨Nat.le_trans h.size k.size, fun b cs t hb h1 h2 h3 h4 h5 => k.bk b cs t (h.bk b cs t hb h1 h2 h3 h4 h5) h1 h2 h3 h4 h5⟩
theorem KpS.of_below {L : List Nat} {W W' : World} (h : Below W.heap.size W W') : KpS L W W' := ⟨h.size, fun b cs t hb _ _ _ _ _ => hb.past h hb.lt⟩
theorem KpS.putObj (L : List Nat) (W : World) (l : Nat) (o o' : Obj) (ho : W.heap[l]? = some o) (hc : o.isCells = false) : KpS L W (W.putObj l o') :=
  ⟨by simp [World.putObj], fun b cs t hb _ _ _ _ _ => by
    have hne : b ≠ l := by
      rintro rfl
      unfold Bk at hb
      rw [ho] at hb; cases hb; cases hc
    exact (World.putObj_heap_other hne).trans hb⟩
/-- What the iterator has captured. -/
structure RCaps (w : World) (L : List Nat) (b1 b2 b3 b4 : Nat) (l : List Bool) (lo hi : Nat) (v : Bool) : Prop where
  c1 : Bk w b1 #[.int .i64 (lo : Int)] 3
  c2 : Bk w b2 #[.int .i64 (hi : Int)] 3
  c3 : ∃ g c, Bk w b3 #[.slice (some ⟨g, 0, none⟩) l.length c] 48 ∧ ∃ s, Bk w g (l.map Value.bool ++ s).toArray 4
  c4 : Bk w b4 #[.bool v] 4
  n1 : b1 ∉ L
  n2 : b2 ∉ L
  hi : hi ≤ l.length
  len : l.length ≤ 1000
theorem RCaps.kp {w w' : World} {L : List Nat} {b1 b2 b3 b4 : Nat} {l : List Bool} {lo hi : Nat} {v : Bool} (h : RCaps w L b1 b2 b3 b4 l lo hi v) (k : KpS L w w') : RCaps w' L b1 b2 b3 b4 l lo hi v := by
  obtain ⟨g, c, h3, s, h4⟩ := h.c3
  exact ⟨k.bk _ _ _ h.c1 (by decide) (by decide) (by decide) (by decide) (fun _ => h.n1), k.bk _ _ _ h.c2 (by decide) (by decide) (by decide) (by decide) (fun _ => h.n2), ⟨g, c, k.bk _ _ _ h3 (by decide) (by decide) (by decide) (by decide) (fun e => absurd e (by decide)), s, k.bk _ _ _ h4 (by decide) (by decide) (by decide) (by decide) (fun e => absurd e (by decide))⟩, k.bk _ _ _ h.c4 (by decide) (by decide) (by decide) (by decide) (fun e => absurd e (by decide)), h.n1, h.n2, h.hi, h.len⟩
def runV (x : Nat × Nat) : Array Value := #[.int .i64 (x.1 : Int), .int .i64 (x.2 : Int)]
abbrev runLb (b1 b2 b3 b4 : Nat) : Array Value := #[.pointer (some ⟨b1, 0, none⟩), .pointer (some ⟨b2, 0, none⟩), .pointer (some ⟨b3, 0, none⟩), .pointer (some ⟨b4, 0, none⟩)]
theorem roundIn_any8 {m m' l : Nat} {P : Program} {f : FuncId} {tmps : Array Value} {assign body : Code} {w : World} {R : Ending → World → Prop} (h : RoundIn Fence.wide m P l f tmps assign body w R) : RoundIn Fence.wide m' P l f tmps assign body w R := ⟨h.1, fun c cs _ => h.2 c cs (room_wide _)⟩
theorem yieldAt_any8 {m : Nat} (m' : Nat) {l : Nat} {P : Program} {args : Array Value} {W : World} {R : Ending → World → Prop} (h : YieldAt Fence.wide m P l args W R) : YieldAt Fence.wide m' P l args W R := by
  obtain ⟨fn, tmps, assign, body, hy, hR⟩ := h
  exact ⟨fn, tmps, assign, body, hy, roundIn_any8 hR⟩
theorem grown_of_below8 {W W' : World} (h : Below W.heap.size W W') : W.grownBy W' none := ⟨h.os, h.tape, h.output, h.size, fun k hk _ => h.block k hk⟩
def SeqE {α : Type} (J Jx : List α → World → Prop) (xs : List α) (e : Ending) (W' : World) : Prop := (∃ v, e = .returned v) ∧ (J xs W' ∨ ∃ pre, pre <+: xs ∧ Jx pre W')
set_option maxRecDepth 100000 in
set_option maxHeartbeats 2000000 in
theorem runs1_any {L : List Nat} {b1 b2 b3 b4 : Nat} {ls : List Bool} {lo hi : Nat} {v : Bool} {w : World} (n : Nat) (hcp : RCaps w L b1 b2 b3 b4 ls lo hi v) :
    SeqVals Fence.wide n Tryz.prog 93 (runLb b1 b2 b3 b4) (fun (x : Nat × Nat) a W => a = runV x) (KpS L) (runsL ls v lo hi) w := by
  intro l J Jx W hbw hAJ _ hY hJ0
  have hJ : ∀ pre A B, J pre A → Below A.heap.size A B → J pre B := fun pre A B h hb => hAJ pre A B none h (grown_of_below8 hb) (fun r e => by cases e)
  have hY2 : ∀ m pre x W1, pre ++ [x] <+: runsL ls v lo hi → J pre W1 → YieldAt Fence.wide m Tryz.prog l (runV x) W1 fun e W' => KeepsFrom W.heap.size W1 W' ∧ ((e = .returned (.bool true) ∧ J (pre ++ [x]) W' ∧ KpS L W1 W') ∨ (e = .returned (.bool false) ∧ Jx (pre ++ [x]) W')) :=
    fun m pre x W1 h1 h3 => yieldAt_any8 m (hY pre x (runV x) W1 h1 rfl h3)
  have HC0 := Lib.hid (hcp.kp (KpS.of_below hbw)); have HJ0 := Lib.hid hJ0; have HJ := Lib.hid hJ; have HY := Lib.hid hY2
  clear hY hAJ hbw hcp hJ0 hJ hY2
  refine callsIn_wide.2 ?_
  show Calls Tryz.prog _ _ W (SeqE J Jx (runsL ls v lo hi))
  have c1 : W.cell? ⟨b1, 0, none⟩ = some (.int .i64 (lo : Int)) := HC0.out.c1.cell 0
  have hlen := HC0.out.len
  have hhi := HC0.out.hi
  have HALL : Hid (runsL ls v lo hi = runsB ls v hi (hi + 1 - lo) lo) := Lib.hid rfl
  generalize runsL ls v lo hi = all at HALL HY ⊢
  simp only [runLb, List.append_toArray, List.cons_append, List.nil_append]
  go_enter Tryz.func93, Tryz.ntmps93
  go_wp2_with fail
  clear c1
  go_loopg [6, 7] (hi + 2) (fun gk v6 _ wr => ∃ (i f : Nat) (pre : List (Nat × Nat)), v6 = .int .i64 i ∧ f < gk ∧ hi ≤ i + f ∧ i ≤ hi + 1 + lo ∧ pre ++ runsB ls v hi f i = all ∧ J pre wr ∧ KpS L W wr)
  case atStart => exact ⟨lo, hi + 1 - lo, [], rfl, by omega, by omega, by omega, by rw [HALL.out]; rfl, HJ0.out, KpS.refl _ _⟩
  case round =>
    obtain ⟨i, f, pre, rfl, hf, hif, hil, hall, hj, hk⟩ := hrel
    obtain ⟨wi, rfl⟩ : ∃ z : World, z = wr := ⟨_, rfl⟩
    have HCI := Lib.hid (HC0.out.kp hk); have HK := Lib.hid hk; have HJI := Lib.hid hj; have HA := Lib.hid hall
    have c2 : wi.cell? ⟨b2, 0, none⟩ = some (.int .i64 (hi : Int)) := HCI.out.c2.cell 0
    have c4 : wi.cell? ⟨b4, 0, none⟩ = some (.bool v) := HCI.out.c4.cell 0
    obtain ⟨g, c, h3, s, h4⟩ := HCI.out.c3
    have c3 : wi.cell? ⟨b3, 0, none⟩ = some (.slice (some ⟨g, 0, none⟩) ls.length c) := h3.cell 0
    have HROW : Hid (∀ k x, ls[k]? = some x → wi.cell? ⟨g, k, none⟩ = some (.bool x)) := Lib.hid fun k x hx => by
      rw [h4.cell, List.getElem?_toArray, List.getElem?_append_left (by have := (List.getElem?_eq_some_iff.1 hx).1; simpa using this), List.getElem?_map, hx]; rfl
    clear hk hj hall h3 h4 HJ0 HALL
    by_cases hlt : i < hi
    · have hki : (i : Int) < (hi : Int) := by omega
      obtain ⟨f, rfl⟩ : ∃ f', f = f' + 1 := ⟨f - 1, by omega⟩
      obtain ⟨x, hx⟩ : ∃ x, ls[i]? = some x := ⟨_, List.getElem?_eq_getElem (by omega)⟩
      have cx := HROW.out i x hx
      have hil2 : (i : Int) < (ls.length : Int) := by omega
      have HX := Lib.hid hx
      clear hx
      by_cases hv : x = v
      · subst hv
        have e1 : (x != x) = false := by simp
        have HR : Hid (runsB ls x hi (f + 1) i = (i, endB ls x (hi - i) i) :: runsB ls x hi f (endB ls x (hi - i) i + 1)) := Lib.hid (by rw [runsB, if_neg (by omega), if_pos HX.out])
        have hle := endB_le ls x (hi - i) i
        obtain ⟨E, hE⟩ : ∃ E, E = endB ls x (hi - i) i := ⟨_, rfl⟩
        have HE := Lib.hid hE
        rw [← hE] at HR hle
        clear hE
        go_upto_region 3 with fail
        go_quiet (fail)
        obtain ⟨v1, hv1⟩ : ∃ z, z = wi.drewN nq := ⟨_, rfl⟩
        have HQ1 : Hid (Qw wi v1) := Lib.hid ⟨_, hv1⟩
        rw [← hv1]
        clear hv1
        go_wp2_with fail
        go_loopw [7] (fun v7 wr2 => ∃ e k : Nat, e + k = hi ∧ v7 = .int .i64 e ∧ E = endB ls x k e ∧ Qw wi wr2) (fun v7 _ => hi - (intOf v7).toNat)
        case atStart => exact ⟨i, hi - i, by omega, rfl, HE.out, HQ1.out⟩
        case round =>
          obtain ⟨e, k, hek, rfl, hEk, hq⟩ := hrel
          obtain ⟨q, rfl⟩ := hq
          have HEK := Lib.hid hEk
          clear hEk
          cases k with
          | zero =>
            have hke : decide ((e : Int) < (hi : Int)) = false := decide_eq_false (by omega)
            have hke2 : decide (e < hi) = false := decide_eq_false (by omega)
            have hEe : E = e := HEK.out
            go_upto_region 5 with fail
            go_quiet (fail)
            obtain ⟨v2, hv2⟩ : ∃ z, z = (wi.drewN q).drewN nq := ⟨_, rfl⟩
            have hb2 : Below wi.heap.size wi v2 := by rw [hv2]; exact Qw.below (Qw.trans ⟨q, rfl⟩ ⟨nq, rfl⟩) _
            rw [← hv2]
            have hpre : pre ++ [(i, E)] <+: all := ⟨runsB ls x hi f (E + 1), by rw [← HA.out, HR.out]; simp⟩
            have HYY := Lib.hid (HY.out 0 pre (i, E) v2 hpre (HJ.out _ _ _ HJI.out hb2))
            have HP := Lib.hid hpre; have HB2 := Lib.hid hb2
            rw [hEe] at HYY HP HR
            clear hv2 hb2 hpre
            unfold runV at HYY
            go_upto_region 7 with fail
            refine (wpIn_wide (n := 1)).1 ?_
            obtain ⟨fn, tmps, assign, body, hy, hRR⟩ := HYY.out
            clear HYY
            have hdd : ∀ k : Nat, (Fence.wide.depth.isSome = true → 1 ≤ k) := fun k h => by cases h
            gi_wp2_with ((try refine ⟨hdd _, ?_⟩); refine hRR.mono ?_; clear hRR; rintro e W2 ⟨_, ⟨rfl, hJ2, hk2⟩ | ⟨rfl, hx2⟩⟩)
            · have HJ2 := Lib.hid hJ2; have HK2 := Lib.hid (HK.out.trans ((KpS.of_below HB2.out).trans hk2))
              clear hJ2 hk2
              go_wp2_with fail
              go_roundg (f + 1)
              case measure => omega
              case rel => exact ⟨e + 1, f, pre ++ [(i, e)], by go_num, by omega, by omega, by omega, by rw [← HA.out, HR.out]; simp, HJ2.out, HK2.out⟩
            · have HX2 := Lib.hid hx2
              clear hx2
              go_wp2_with fail
              refine bodyPost_ret (results_none (by rfl) _ _ _) rfl ?_
              exact ⟨⟨_, rfl⟩, .inr ⟨_, HP.out, HX2.out⟩⟩
          | succ k =>
            have hke : decide ((e : Int) < (hi : Int)) = true := decide_eq_true (by omega)
            have hke2 : decide (e < hi) = true := decide_eq_true (by omega)
            obtain ⟨y, hy⟩ : ∃ y, ls[e]? = some y := ⟨_, List.getElem?_eq_getElem (by omega)⟩
            have cy := HROW.out e y hy
            have hel : (e : Int) < (ls.length : Int) := by omega
            have HEY : Hid (E = if y = x then endB ls x k (e + 1) else e) := Lib.hid (by
              rw [HEK.out, endB, hy]
              by_cases h : y = x
              · rw [if_pos (by rw [h]), if_pos h]
              · rw [if_neg (by intro h2; injection h2 with h2; exact h h2), if_neg h])
            clear hy
            by_cases hyx : y = x
            · subst hyx
              have e2 : (y == y) = true := by simp
              have HE2 : Hid (E = endB ls y k (e + 1)) := Lib.hid (by rw [HEY.out, if_pos rfl])
              go_upto_region 5 with fail
              go_quiet (fail)
              go_wp2_with fail
              go_roundw
              case rel => exact ⟨e + 1, k, by omega, by go_num, HE2.out, ⟨q + nq, rfl⟩⟩
              case measure => simp [intOf]; omega
            · have e2 : (y == x) = false := by simpa using hyx
              have hEe : E = e := by rw [HEY.out, if_neg hyx]
              clear hyx
              go_upto_region 5 with fail
              go_quiet (fail)
              obtain ⟨v2, hv2⟩ : ∃ z, z = (wi.drewN q).drewN nq := ⟨_, rfl⟩
              have hb2 : Below wi.heap.size wi v2 := by rw [hv2]; exact Qw.below (Qw.trans ⟨q, rfl⟩ ⟨nq, rfl⟩) _
              rw [← hv2]
              have hpre : pre ++ [(i, E)] <+: all := ⟨runsB ls x hi f (E + 1), by rw [← HA.out, HR.out]; simp⟩
              have HYY := Lib.hid (HY.out 0 pre (i, E) v2 hpre (HJ.out _ _ _ HJI.out hb2))
              have HP := Lib.hid hpre; have HB2 := Lib.hid hb2
              rw [hEe] at HYY HP HR
              clear hv2 hb2 hpre
              unfold runV at HYY
              go_upto_region 7 with fail
              refine (wpIn_wide (n := 1)).1 ?_
              obtain ⟨fn, tmps, assign, body, hy, hRR⟩ := HYY.out
              clear HYY
              have hdd : ∀ k : Nat, (Fence.wide.depth.isSome = true → 1 ≤ k) := fun k h => by cases h
              gi_wp2_with ((try refine ⟨hdd _, ?_⟩); refine hRR.mono ?_; clear hRR; rintro e W2 ⟨_, ⟨rfl, hJ2, hk2⟩ | ⟨rfl, hx2⟩⟩)
              · have HJ2 := Lib.hid hJ2; have HK2 := Lib.hid (HK.out.trans ((KpS.of_below HB2.out).trans hk2))
                clear hJ2 hk2
                go_wp2_with fail
                go_roundg (f + 1)
                case measure => omega
                case rel => exact ⟨e + 1, f, pre ++ [(i, e)], by go_num, by omega, by omega, by omega, by rw [← HA.out, HR.out]; simp, HJ2.out, HK2.out⟩
              · have HX2 := Lib.hid hx2
                clear hx2
                go_wp2_with fail
                refine bodyPost_ret (results_none (by rfl) _ _ _) rfl ?_
                exact ⟨⟨_, rfl⟩, .inr ⟨_, HP.out, HX2.out⟩⟩
      · have HR : Hid (runsB ls v hi (f + 1) i = runsB ls v hi f (i + 1)) := Lib.hid (by rw [runsB, if_neg (by omega), if_neg (by rw [HX.out]; intro h; injection h with h; exact hv h)])
        have hx2 : x = !v := by revert hv; cases x <;> cases v <;> simp
        subst hx2
        clear hv
        cases v with
        | true =>
          go_upto_region 3 with fail
          go_quiet (fail)
          have HF : Hid (J pre (wi.drewN nq) ∧ KpS L W (wi.drewN nq)) := Lib.hid ⟨HJ.out _ _ _ HJI.out (Qw.below ⟨nq, rfl⟩ _), HK.out.trans (KpS.of_below (Qw.below ⟨nq, rfl⟩ _))⟩
          generalize wi.drewN nq = v1 at HF ⊢
          go_wp2_with fail
          go_roundg (f + 1)
          case measure => omega
          case rel => exact ⟨i + 1, f, pre, by go_num, by omega, by omega, by omega, by rw [← HR.out]; exact HA.out, HF.out.1, HF.out.2⟩
        | false =>
          go_upto_region 3 with fail
          go_quiet (fail)
          have HF : Hid (J pre (wi.drewN nq) ∧ KpS L W (wi.drewN nq)) := Lib.hid ⟨HJ.out _ _ _ HJI.out (Qw.below ⟨nq, rfl⟩ _), HK.out.trans (KpS.of_below (Qw.below ⟨nq, rfl⟩ _))⟩
          generalize wi.drewN nq = v1 at HF ⊢
          go_wp2_with fail
          go_roundg (f + 1)
          case measure => omega
          case rel => exact ⟨i + 1, f, pre, by go_num, by omega, by omega, by omega, by rw [← HR.out]; exact HA.out, HF.out.1, HF.out.2⟩
    · have hki : ¬ (i : Int) < (hi : Int) := by omega
      have HR : Hid (pre = all) := Lib.hid (by have := HA.out; rw [runsB_nil _ _ _ _ _ (by omega), List.append_nil] at this; exact this)
      go_wp2_with fail
      go_end0
      exact ⟨⟨_, rfl⟩, .inl (by rw [← HR.out]; exact HJI.out)⟩
set_option maxRecDepth 100000 in
theorem runs_any {L : List Nat} {ls : List Bool} {lo hi : Nat} (v : Bool) {g c : Nat} {s : List Value} {w : World} (hg : Bk w g (ls.map Value.bool ++ s).toArray 4) (hhi : hi ≤ ls.length) (hlen : ls.length ≤ 1000) (hL : ∀ k ∈ L, k < w.heap.size) :
    Calls Tryz.prog 66 #[.slice (some ⟨g, 0, none⟩) ls.length c, .int .i64 (lo : Int), .int .i64 (hi : Int), .bool v] w fun e w' => e = .returned (.func (.func 93) #[] (runLb (w.heap.size + 1) (w.heap.size + 1 + 1) w.heap.size (w.heap.size + 1 + 1 + 1))) ∧ RCaps w' L (w.heap.size + 1) (w.heap.size + 1 + 1) w.heap.size (w.heap.size + 1 + 1 + 1) ls lo hi v ∧ Below w.heap.size w w' := by
  have HG := Lib.hid hg; have HL := Lib.hid hL
  clear hg hL
  go_enter Tryz.func66, Tryz.ntmps66
  go_wp2_with fail
  go_ret
  have e1 : (w.alloc (.cells #[.slice (some ⟨g, 0, none⟩) ls.length c] 48)).heap.size = w.heap.size + 1 := by simp
  obtain ⟨w1, h1⟩ : ∃ z, z = w.alloc (.cells #[.slice (some ⟨g, 0, none⟩) ls.length c] 48) := ⟨_, rfl⟩
  rw [← h1] at e1 ⊢
  obtain ⟨w2, h2⟩ : ∃ z, z = w1.alloc (.cells #[.int .i64 (lo : Int)] 3) := ⟨_, rfl⟩
  have e2 : w2.heap.size = w.heap.size + 1 + 1 := by rw [h2]; simp [e1]
  rw [← h2]
  obtain ⟨w3, h3⟩ : ∃ z, z = w2.alloc (.cells #[.int .i64 (hi : Int)] 3) := ⟨_, rfl⟩
  have e3 : w3.heap.size = w.heap.size + 1 + 1 + 1 := by rw [h3]; simp [e2]
  rw [← h3]
  obtain ⟨w4, h4⟩ : ∃ z, z = w3.alloc (.cells #[.bool v] 4) := ⟨_, rfl⟩
  rw [← h4]
  have b1 : Below w.heap.size w w1 := by rw [h1]; exact balloc _ _
  have b2 : Below w1.heap.size w1 w2 := by rw [h2]; exact balloc _ _
  have b3 : Below w2.heap.size w2 w3 := by rw [h3]; exact balloc _ _
  have b4 : Below w3.heap.size w3 w4 := by rw [h4]; exact balloc _ _
  have k1 : Bk w1 w.heap.size #[.slice (some ⟨g, 0, none⟩) ls.length c] 48 := by rw [h1]; exact Bk.new _ _ _
  have k2 : Bk w2 (w.heap.size + 1) #[.int .i64 (lo : Int)] 3 := by rw [← e1, h2]; exact Bk.new _ _ _
  have k3 : Bk w3 (w.heap.size + 1 + 1) #[.int .i64 (hi : Int)] 3 := by rw [← e2, h3]; exact Bk.new _ _ _
  have k4 : Bk w4 (w.heap.size + 1 + 1 + 1) #[.bool v] 4 := by rw [← e3, h4]; exact Bk.new _ _ _
  have k1' := (k1.past b2 k1.lt); have k1'' := k1'.past b3 k1'.lt; have k1w := k1''.past b4 k1''.lt
  have k2' := (k2.past b3 k2.lt); have k2w := k2'.past b4 k2'.lt
  have k3w := k3.past b4 k3.lt
  have B4 := bnextK (bnextK (bnextK b1 b2) b3) b4
  exact ⟨rfl, ⟨k2w, k3w, ⟨g, c, k1w, s, HG.out.past B4 HG.out.lt⟩, k4, fun h => by have := HL.out _ h; omega, fun h => by have := HL.out _ h; omega, hhi, hlen⟩, B4⟩
section
variable {P : Program} {l n : Nat}
theorem rowsIn_round8 {row : String} {args : Array Value} {w : World} {R : Value → World → Prop} (h : Rows P row args w R) : RowsIn (Fence.wide.inRound l) n P row args w R := by
  intro c cs _
  obtain ⟨v, w', r, s⟩ := h c cs
  exact ⟨v, w', r, stepsIn_wide.2 s⟩
theorem upon_in8 {o : Oper} {a : Act} {next next' : Act → World → Prop} {Q : Exit → Act → World → Prop} {r : Result Next} (hn : ∀ a w, next a w → next' a w) (h : o.upon P a next Q r) : o.uponIn (Fence.wide.inRound l) n P a next' Q r := by
  cases r with
  | ok x w =>
    cases x with
    | value v => exact hn _ _ h
    | skip => exact hn _ _ h
    | defer d => exact hn _ _ h
    | enter f args => exact ⟨(fun h1 => by cases h1), CallsIn.inRound l (callsIn_wide.2 (Calls.mono h (fun e w' h2 => by
        cases e with
        | returned v => exact hn _ _ h2
        | panicked c => exact h2
        | outgrown => exact h2)))⟩
    | row r args => exact ⟨(fun h1 => by cases h1), rowsIn_round8 (Rows.mono h (fun v w' h2 => hn _ _ h2))⟩
    | _ => exact False.elim h
  | halt x w =>
    cases x with
    | panic v => exact h
    | _ => exact False.elim h
/-- No operation of the list is a defer statement. -/
def noDefer8 (l : List Oper) : Bool := l.all fun o => match o.op with | .defer _ => false | _ => true
theorem noDefer_op8 {o : Oper} (h : (match o.op with | .defer _ => false | _ => true) = true) (c : Call) : o.op ≠ .defer c := fun e => by rw [e] at h; cases h
theorem wpListIn_of_plain8 {ops : Array Oper} {Q : Exit → Act → World → Prop} (hQ : ∀ a w, ¬ Q .outgrown a w) : ∀ (L : List Oper) (a : Act) (w : World), noDefer8 L = true → wpList P ops Q L a w → wpListIn (Fence.wide.inRound l) n P ops Q L a w
  | [], a, w, _, h => h
  | o :: rest, a, w, hn, h => by
    have hn2 : (match o.op with | .defer _ => false | _ => true) = true ∧ noDefer8 rest = true := by
      unfold noDefer8 at hn ⊢
      rw [List.all_cons, Bool.and_eq_true] at hn
      exact hn
    unfold wpList at h
    unfold wpListIn
    split at h
    · rename_i hw
      rw [if_pos hw]
      rcases h with h | h
      · refine ⟨fun f _ => trivial, ?_⟩
        rw [Oper.semAt_eq _ _ _ (noDefer_op8 hn2.1)]
        exact upon_in8 (fun a w h => wpListIn_of_plain8 hQ rest a w hn2.2 h) h
      · obtain ⟨_, a, w, h⟩ := h
        exact (hQ a w h).elim
    · rename_i hw
      rw [if_neg hw]
      exact ⟨fun f _ => trivial, wpListIn_of_plain8 hQ rest _ w hn2.2 h⟩
theorem opIn_round8 {o : Oper} (ho : ∀ c, o.op ≠ .defer c) {a : Act} {w : World} {K : Act → World → Prop} {Q : Exit → Act → World → Prop} (h : o.wpIn Fence.wide n P a w K Q) : o.wpIn (Fence.wide.inRound l) n P a w K Q := by
  obtain ⟨h1, h2⟩ := h
  refine ⟨h1, ?_⟩
  have e1 : (o.semAt (Fence.wide.inRound l).round a.eval) = (o.semAt Fence.wide.round a.eval) := by
    rw [show Fence.wide.round = none from rfl, Oper.semAt_none]
    exact Oper.semAt_some l _ o ho
  rw [e1]
  generalize (o.semAt Fence.wide.round a.eval).run P w = r at h2 ⊢
  cases r with
  | ok x w' =>
    cases x with
    | value v => exact h2
    | skip => exact h2
    | defer d => exact h2
    | enter f args => exact ⟨(fun h1 => by cases h1), CallsIn.inRound l h2.2⟩
    | row r args => exact ⟨(fun h1 => by cases h1), fun c cs hr => h2.2 c cs (room_wide _)⟩
    | round l' f tmps assign body => exact ⟨(fun h1 => by cases h1), h2.2.1, fun c cs hr => h2.2.2 c cs (room_wide _)⟩
    | _ => exact False.elim h2
  | halt x w' =>
    cases x with
    | panic v => exact h2
    | _ => exact False.elim h2
theorem wpOpIn_round8 {ops : Array Oper} (hn : ∀ (i : Nat) (o : Oper), ops[i]? = some o → ∀ c, o.op ≠ .defer c) {i : Nat} {a : Act} {w : World} {K K' : Act → World → Prop} {Q : Exit → Act → World → Prop} (hk : ∀ a w, K a w → K' a w) (h : wpOpIn Fence.wide n P ops Q i K a w) : wpOpIn (Fence.wide.inRound l) n P ops Q i K' a w := by
  replace h := wpOpIn_mono hk h
  unfold wpOpIn at *
  cases hi : ops[i]? with
  | none => simpa only [hi] using h
  | some o =>
    simp only [hi] at h ⊢
    split at h
    · rename_i hw; rw [if_pos hw]; exact opIn_round8 (hn i o hi) h
    · rename_i hw; rw [if_neg hw]; exact h
theorem wpAnyIn_round8 {ops : Array Oper} (hn : ∀ (i : Nat) (o : Oper), ops[i]? = some o → ∀ c, o.op ≠ .defer c) {md : Region.Mode} {Q : Exit → Act → World → Prop} : ∀ (fuel : Nat) (listed : Array Bool) (a : Act) (w : World), wpAnyIn Fence.wide n P md ops Q fuel listed a w → wpAnyIn (Fence.wide.inRound l) n P md ops Q fuel listed a w
  | 0, _, _, _, h => h
  | fuel + 1, listed, a, w, h => ⟨h.1, fun i hi => wpOpIn_round8 hn (fun a w => wpAnyIn_round8 hn fuel _ a w) (h.2 i hi)⟩
theorem noDefer_arr {L : List Oper} (h : noDefer8 L = true) : ∀ (i : Nat) (o : Oper), L.toArray[i]? = some o → ∀ c, o.op ≠ .defer c := fun i o ho c e => by
  unfold noDefer8 at h
  rw [List.all_eq_true] at h
  have hm : o ∈ L := by
    rw [List.getElem?_toArray] at ho
    exact List.mem_of_getElem? ho
  have h2 := h o hm
  rw [e] at h2
  cases h2
/-- A region of a round is walked as one that lies in no round. -/
theorem wpIn_region_round8 {id : Nat} {L : List Oper} {a : Act} {w : World} {Q : Exit → Act → World → Prop} (hn : noDefer8 L = true) (hm : P.follows .mixedOrders = true)
    (h : wpAnyIn Fence.wide n P .any L.toArray Q L.toArray.size (Array.replicate L.toArray.size false) a w.drew) : (Code.region id L.toArray true).wpIn (Fence.wide.inRound l) n P Q a w :=
  wpIn_region_any hm (wpAnyIn_round8 (noDefer_arr hn) _ _ _ _ h)
end
end Go.Proofs.YtdgmjedkhjeadaaGreat
