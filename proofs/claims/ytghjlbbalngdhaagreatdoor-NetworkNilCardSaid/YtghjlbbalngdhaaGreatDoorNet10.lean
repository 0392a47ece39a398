/- The contract of extend, the recursive iterator over paths. Conditions: as the statement says. -/
import Derived.Test.YtghjlbbalngdhaaGreatDoorNet7
import Derived.Test.YtghjlbbalngdhaaGreatDoorRangeP
import Derived.Test.YtghjlbbalngdhaaGreatDoorBase
namespace Go.Proofs.YtghjlbbalngdhaaGreatDoor
open Go.RowKit
set_option linter.unusedVariables false
/-- What a round keeps: blocks known whole, and the graph. -/
structure Kx (n₀ G : Nat) (ns : List Nm) (g : PG) (W W' : World) : Prop where
  size : W.heap.size ≤ W'.heap.size
  bk : ∀ h cs t, Bk W h cs t → Bk W' h cs t
  gat : GAt W n₀ G ns g → GAt W' n₀ G ns g
theorem Kx.refl (n₀ G : Nat) (ns : List Nm) (g : PG) (W : World) : Kx n₀ G ns g W W := ⟨Nat.le_refl _, fun _ _ _ h => h, id⟩
theorem Kx.trans {n₀ G : Nat} {ns : List Nm} {g : PG} {A B C : World} (h : Kx n₀ G ns g A B) (k : Kx n₀ G ns g B C) : Kx n₀ G ns g A C :=
  ⟨Nat.le_trans h.size k.size, fun x cs t hx => k.bk x cs t (h.bk x cs t hx), fun hg => k.gat (h.gat hg)⟩
theorem Kx.of_below {n₀ G : Nat} {ns : List Nm} {g : PG} {W W' : World} (hn : n₀ ≤ W.heap.size) (h : Below W.heap.size W W') : Kx n₀ G ns g W W' :=
  ⟨h.size, fun x cs t hx => hx.past h hx.lt, fun hg => hg.below (h.mono hn)⟩
theorem PathV.kx {n₀ G : Nat} {ns : List Nm} {g : PG} {W W' : World} {v : Value} {p : List Nat} (h : PathV W v p) (k : Kx n₀ G ns g W W') : PathV W' v p := by
  obtain ⟨hh, c, cs, h1, h2, h3, h4⟩ := h
  exact ⟨hh, c, cs, h1, h2, k.bk _ _ _ h3, h4⟩
theorem flat_le {F : Nat → List (List Nat)} : ∀ {i n : Nat}, i ≤ n → ∃ r, (List.range n).flatMap F = (List.range i).flatMap F ++ r
  | i, 0, h => ⟨[], by obtain rfl : i = 0 := by omega
                       simp⟩
  | i, n + 1, h => by
    rcases Nat.lt_or_ge n i with h1 | h1
    · obtain rfl : i = n + 1 := by omega
      exact ⟨[], by simp⟩
    · obtain ⟨r, hr⟩ := flat_le (F := F) h1
      exact ⟨r ++ F n, by rw [List.range_succ, List.flatMap_append, hr]; simp⟩
/-- The paths that one step further brings. -/
def stepX (g : PG) (s t : Nat) (d : List Nat) (l : Nat) (p : List Nat) (k : Nat) : List (List Nat) := if !g.open (lastN p) k s t || p.contains k then [] else extG g s t d l (p ++ [k])
theorem flat_succ (F : Nat → List (List Nat)) (i : Nat) : (List.range (i + 1)).flatMap F = (List.range i).flatMap F ++ F i := by rw [List.range_succ, List.flatMap_append]; simp
def ExP (n₀ G : Nat) (ns : List Nm) (g : PG) (J Jx : List (List Nat) → World → Prop) (all pre xs : List (List Nat)) (W : World) (e : Ending) (W' : World) : Prop :=
  (e = .returned (.bool true) ∧ J (pre ++ xs) W' ∧ Kx n₀ G ns g W W') ∨ (e = .returned (.bool false) ∧ ∃ q, q <+: all ∧ Jx q W')
theorem elB_int10 : ElemB Tryz.prog 67 3 1 8 := ElemB.of Tryz.underlying67 info_int7 rfl (by decide)
/-- The rounds' word. -/
def RoundsX (n₀ G : Nat) (ns : List Nm) (g : PG) (l : Nat) (J Jx : List (List Nat) → World → Prop) (all : List (List Nat)) : Prop :=
  ∀ m pre x v W, pre ++ [x] <+: all → PathV W v x → J pre W → YieldAt Fence.wide m Tryz.prog l #[v] W fun e W' =>
    (e = .returned (.bool true) ∧ J (pre ++ [x]) W' ∧ Kx n₀ G ns g W W') ∨ (e = .returned (.bool false) ∧ Jx (pre ++ [x]) W')
set_option maxRecDepth 100000 in
set_option maxHeartbeats 1000000 in
theorem extend_any {n₀ G hd l : Nat} {ns : List Nm} {g : PG} {s t : Nat} {d : List Nat} {J Jx : List (List Nat) → World → Prop} {all : List (List Nat)}
    (hJ : ∀ pre A B, J pre A → Below A.heap.size A B → J pre B) (hY : RoundsX n₀ G ns g l J Jx all) (hdl : d.length = g.n) (ht : t < g.n) (hs : s < g.n) :
    ∀ (k : Nat) (kI : Int) (p : List Nat) (v : Value) (pre : List (List Nat)) (W : World), kI = (k : Int) → 1 ≤ p.length → p.length + k ≤ 1000 → (∀ x ∈ p, x < g.n) → p.getD 0 0 = s → PathV W v p → GAt W n₀ G ns g → n₀ ≤ W.heap.size → NRow W hd d →
      J pre W → pre ++ extG g s t d k p <+: all →
      Calls Tryz.prog 134 #[.pointer (some ⟨G, 0, none⟩), v, .int .i64 (t : Int), .int .i64 kI, .slice (some ⟨hd, 0, none⟩) g.n g.n, .func (.yield l) #[] #[]] W (ExP n₀ G ns g J Jx all pre (extG g s t d k p) W) := by
  intro k
  induction k with
  | zero =>
    intro kI p v pre W hkI hp hpl hpn hp0 hv hg hn hr hj hall
    subst hkI
    obtain ⟨hh, c, cs, rfl, hc, hb, hcs⟩ := hv
    obtain ⟨m, hm⟩ : ∃ m, p.length = m + 1 := ⟨p.length - 1, by omega⟩
    have cm : W.cell? ⟨hh, m, none⟩ = some (.int .i64 (lastN p : Nat)) := by
      rw [hb.cell, hcs m (by omega), lastN, hm]; rfl
    have HPV : Hid (PathV W (.slice (some ⟨hh, 0, none⟩) p.length c) p) := Lib.hid ⟨hh, c, cs, rfl, hc, hb, hcs⟩
    have HG := Lib.hid hg; have HJ := Lib.hid hj; have HA := Lib.hid hall
    rw [hm] at HPV ⊢
    clear hb hcs hg hj hall hr
    by_cases he : lastN p = t
    · have HE : Hid (extG g s t d 0 p = [p]) := Lib.hid (by rw [extG, if_pos he])
      rw [he] at cm
      have e1 : ((t : Int) != (t : Int)) = false := by simp
      have hy := hY 0 pre p _ W (by rw [← HE.out]; exact HA.out) HPV.out HJ.out
      have HY := Lib.hid hy
      clear hy hY
      go_enter Tryz.func134, Tryz.ntmps134
      go_upto_region 3 with fail
      refine (wpIn_wide (n := 1)).1 ?_
      obtain ⟨fn, tmps, assign, body, hy, hR⟩ := HY.out
      clear HY
      have hdd : ∀ k : Nat, (Fence.wide.depth.isSome = true → 1 ≤ k) := fun k h => by cases h
      gi_wp2_with ((try refine ⟨hdd _, ?_⟩); refine hR.mono ?_; clear hR; rintro e W2 (⟨rfl, hJ2, hb2⟩ | ⟨rfl, hx2⟩))
      · go_wp2_with fail
        go_ret
        exact .inl ⟨rfl, by rw [HE.out]; exact hJ2, hb2⟩
      · go_wp2_with fail
        go_ret
        exact .inr ⟨rfl, pre ++ [p], by rw [← HE.out]; exact HA.out, hx2⟩
    · have HE : Hid (extG g s t d 0 p = []) := Lib.hid (by rw [extG, if_neg he])
      generalize lastN p = z at cm he
      have e1 : ((z : Int) != (t : Int)) = true := by simp; omega
      have e2 : ¬ (z : Int) = (t : Int) := by omega
      clear hY
      go_enter Tryz.func134, Tryz.ntmps134
      go_wp2_with fail
      go_ret
      exact .inl ⟨rfl, by rw [HE.out, List.append_nil]; exact HJ.out, Kx.refl _ _ _ _ _⟩
  | succ k ih =>
    intro kI p v pre W hkI hp hpl hpn hp0 hv hg hn hr hj hall
    subst hkI
    obtain ⟨hh, c, cs, rfl, hc, hb, hcs⟩ := hv
    obtain ⟨m, hm⟩ : ∃ m, p.length = m + 1 := ⟨p.length - 1, by omega⟩
    have cm : W.cell? ⟨hh, m, none⟩ = some (.int .i64 (lastN p : Nat)) := by
      rw [hb.cell, hcs m (by omega), lastN, hm]; rfl
    have hpm : ∀ i, i < p.length → p.getD i 0 < g.n := fun i hi => hpn _ (by rw [List.getD_eq_getElem?_getD, List.getElem?_eq_getElem hi]; exact List.getElem_mem _)
    have hz : lastN p < g.n := hpm _ (by omega)
    have cz : W.cell? ⟨hd, lastN p, none⟩ = some (.int .i64 (d.getD (lastN p) 0 : Nat)) := hr.cell (by omega)
    have HPV : Hid (PathV W (.slice (some ⟨hh, 0, none⟩) p.length c) p) := Lib.hid ⟨hh, c, cs, rfl, hc, hb, hcs⟩
    have HB := Lib.hid hb; have HCS := Lib.hid hcs; have HR := Lib.hid hr; have HPN := Lib.hid hpn; have HP0 := Lib.hid hp0
    have HG := Lib.hid hg; have HJ := Lib.hid hj; have HA := Lib.hid hall; have HIH := Lib.hid (@ih)
    obtain ⟨nA, nc, hnm, _⟩ := hg.names
    have hn16 := hg.nn.2.2
    rw [hm] at HPV ⊢
    clear hb hcs hg hj hall hr hpn hp0 ih hpm
    by_cases he : lastN p = t
    · have HE : Hid (extG g s t d (k + 1) p = []) := Lib.hid (by rw [extG, if_pos (.inl he)])
      rw [he] at cm
      have e1 : ((t : Int) == (t : Int)) = true := by simp
      have e3 : ((k : Int) + 1 == 0) = false := by simp; omega
      have e4 : ¬ (k : Int) + 1 = 0 := by omega
      clear hY hnm cz
      go_enter Tryz.func134, Tryz.ntmps134
      go_wp2_with fail
      go_ret
      exact .inl ⟨rfl, by rw [HE.out, List.append_nil]; exact HJ.out, Kx.refl _ _ _ _ _⟩
    · by_cases hlf : k + 1 < d.getD (lastN p) 0
      · have HE : Hid (extG g s t d (k + 1) p = []) := Lib.hid (by rw [extG, if_pos (.inr hlf)])
        generalize lastN p = z at cm he cz hz hlf HE
        have e1 : ((z : Int) == (t : Int)) = false := by simp; omega
        have e2 : ¬ (z : Int) = (t : Int) := by omega
        have e3 : ((k : Int) + 1 == 0) = false := by simp; omega
        have e4 : ¬ (k : Int) + 1 = 0 := by omega
        generalize d.getD z 0 = y at cz hlf
        have e5 : (k : Int) + 1 < (y : Int) := by omega
        have e6 : (z : Int) < (g.n : Int) := by omega
        clear hY hnm
        go_enter Tryz.func134, Tryz.ntmps134
        go_wp2_with fail
        go_ret
        exact .inl ⟨rfl, by rw [HE.out, List.append_nil]; exact HJ.out, Kx.refl _ _ _ _ _⟩
      · have HE : Hid (extG g s t d (k + 1) p = (List.range g.n).flatMap (stepX g s t d k p)) := Lib.hid (by rw [extG, if_neg (by omega)]; rfl)
        have HST : Hid (∀ i, stepX g s t d k p i = if !g.open (lastN p) i s t || p.contains i then [] else extG g s t d k (p ++ [i])) := Lib.hid fun _ => rfl
        generalize hF : stepX g s t d k p = F at HE HST
        generalize lastN p = z at cm he cz hz hlf HST
        have e1 : ((z : Int) == (t : Int)) = false := by simp; omega
        have e2 : ¬ (z : Int) = (t : Int) := by omega
        have e3 : ((k : Int) + 1 == 0) = false := by simp; omega
        have e4 : ¬ (k : Int) + 1 = 0 := by omega
        generalize d.getD z 0 = y at cz hlf
        have e5 : ¬ (k : Int) + 1 < (y : Int) := by omega
        have e6 : (z : Int) < (g.n : Int) := by omega
        clear hY hF
        go_enter Tryz.func134, Tryz.ntmps134
        go_wp2_with fail
        clear cm cz hlf hnm
        go_loopw [48] (fun i wr => ∃ j : Nat, j ≤ g.n ∧ i = .int .i64 j ∧ J (pre ++ (List.range j).flatMap F) wr ∧ Kx n₀ G ns g W wr) (fun i _ => g.n - (intOf i).toNat)
        case atStart => exact ⟨0, Nat.zero_le _, rfl, by simpa using HJ.out, Kx.refl _ _ _ _ _⟩
        case round =>
          obtain ⟨j, hj, rfl, h1, hk1⟩ := hrel
          obtain ⟨wa, rfl⟩ : ∃ z : World, z = wr := ⟨_, rfl⟩
          have HJ1 := Lib.hid h1; have HK1 := Lib.hid hk1
          clear h1 hk1 HJ
          by_cases hlt : j < g.n
          · have hki : (j : Int) < (g.n : Int) := by omega
            have HGA := Lib.hid (HK1.out.gat HG.out)
            have HBA := Lib.hid (HK1.out.bk _ _ _ HB.out)
            have HPA : Hid (PathV wa (.slice (some ⟨hh, 0, none⟩) (m + 1) c) p) := Lib.hid (HPV.out.kx HK1.out)
            have HRA : Hid (NRow wa hd d) := Lib.hid (HK1.out.bk _ _ _ HR.out)
            have c0 : wa.cell? ⟨hh, 0, none⟩ = some (.int .i64 (s : Int)) := by
              rw [HBA.out.cell, HCS.out 0 (by omega), HP0.out]
            have HOP := Lib.hid (open_any HGA.out z j s t hz hlt)
            have HCT : Hid (Calls Tryz.prog 168 #[.slice (some ⟨hh, 0, none⟩) (m + 1) c, .int .i64 (j : Int)] wa fun e w' => e = .returned (.bool (p.contains j)) ∧ wa = w') := Lib.hid (by
              rw [← hm]
              exact contains_path hh c p j wa (by omega) (fun i hi => by rw [HBA.out.cell]; exact HCS.out i hi))
            have HCL := Lib.hid (clone_path HPA.out (by omega))
            have HFS := Lib.hid (flat_succ F j)
            have HFJ := Lib.hid (HST.out j)
            have hwn : n₀ ≤ wa.heap.size := Nat.le_trans hn HK1.out.size
            go_wp2_with fail
            refine HOP.out.mono ?_
            rintro e w' ⟨rfl, rfl⟩
            clear HOP
            cases ho : g.open z j s t
            · have HV : Hid (F j = []) := Lib.hid (by rw [HFJ.out, ho]; rfl)
              clear ho
              go_wp2_with fail
              go_roundw
              case rel => exact ⟨j + 1, by omega, by go_num, by rw [HFS.out, HV.out, List.append_nil]; exact HJ1.out, HK1.out⟩
              case measure => simp [intOf]; omega
            · go_wp2_with fail
              refine HCT.out.mono ?_
              rintro e w' ⟨rfl, rfl⟩
              clear HCT
              cases hct : p.contains j
              · have HV : Hid (F j = extG g s t d k (p ++ [j])) := Lib.hid (by rw [HFJ.out, ho, hct]; rfl)
                clear ho hct
                go_wp2_with fail
                refine HCL.out.mono ?_
                rintro e w1 ⟨⟨v1, rfl, hown1⟩, hb1⟩
                have HO1 := Lib.hid hown1; have HB1 := Lib.hid hb1
                have hsz1 : wa.heap.size ≤ w1.heap.size := hb1.size
                clear hown1 hb1 HCL
                go_wp2_with (at_builtin; refine wpList_pushL elB_int10 (.tmp 66) (.tmp 68) rfl rfl wa.heap.size _ _ rfl HO1.out rfl rfl (one_cell1 rfl) (by omega) (by decide) hsz1 ?_; intro v2 w2 hown2 hb2 _ _; have HO2 := Lib.hid hown2; have HB2 := Lib.hid (HB1.out.trans hb2); clear hown2 hb2)
                have hown := HO2.out
                simp only [natsV_snoc] at hown
                have hp2 := (PathV.own hown (by simp)).1
                have hb2 := HB2.out
                have HIR := Lib.hid (HIH.out (k : Int) (p ++ [j]) v2 (pre ++ (List.range j).flatMap F) w2 rfl (by simp) (by simp; omega)
                  (fun x hx => by rcases List.mem_append.1 hx with hx | hx
                                  · exact HPN.out x hx
                                  · rw [List.mem_singleton] at hx; subst hx; exact hlt)
                  (by rw [getD_app_left _ _ (by omega)]; exact HP0.out) hp2 (HGA.out.below (hb2.mono hwn)) (Nat.le_trans hwn hb2.size) (HRA.out.past hb2 HRA.out.lt) (hJ _ _ _ HJ1.out hb2)
                  (by
                    obtain ⟨r, hr⟩ := flat_le (F := F) hlt
                    have h3 := HA.out
                    rw [HE.out, hr, HFS.out, HV.out] at h3
                    refine List.IsPrefix.trans ?_ h3
                    exact ⟨r, by simp⟩))
                have HK2 := Lib.hid (HK1.out.trans (Kx.of_below (G := G) (ns := ns) (g := g) hwn hb2))
                clear hown hp2 hb2 HIH
                go_wp2_with fail
                refine HIR.out.mono ?_
                clear HIR
                rintro e w3 (⟨rfl, hj3, hk3⟩ | ⟨rfl, q, hq, hx⟩)
                · have HJ3 := Lib.hid hj3; have HK3 := Lib.hid hk3
                  clear hj3 hk3
                  go_wp2_with fail
                  go_roundw
                  case rel => exact ⟨j + 1, by omega, by go_num, by rw [HFS.out, HV.out, ← List.append_assoc]; exact HJ3.out, HK2.out.trans HK3.out⟩
                  case measure => simp [intOf]; omega
                · go_wp2_with fail
                  go_ret
                  exact .inr ⟨rfl, q, hq, hx⟩
              · have HV : Hid (F j = []) := Lib.hid (by rw [HFJ.out, ho, hct]; rfl)
                clear ho hct
                go_wp2_with fail
                go_roundw
                case rel => exact ⟨j + 1, by omega, by go_num, by rw [HFS.out, HV.out, List.append_nil]; exact HJ1.out, HK1.out⟩
                case measure => simp [intOf]; omega
          · have hki : ¬ (j : Int) < (g.n : Int) := by omega
            obtain rfl : j = g.n := by omega
            go_wp2_with fail
            go_ret
            exact .inl ⟨rfl, by rw [HE.out]; exact HJ1.out, HK1.out⟩
end Go.Proofs.YtghjlbbalngdhaaGreatDoor
/- The contract of each and its iterator. Conditions: as each statement says. -/
namespace Go.Proofs.YtghjlbbalngdhaaGreatDoor
open Go.RowKit
set_option linter.unusedVariables false
theorem roundIn_any {m m' l : Nat} {P : Program} {f : FuncId} {tmps : Array Value} {assign body : Code} {w : World} {R : Ending → World → Prop} (h : RoundIn Fence.wide m P l f tmps assign body w R) : RoundIn Fence.wide m' P l f tmps assign body w R := ⟨h.1, fun c cs _ => h.2 c cs (room_wide _)⟩
theorem yieldAt_any {m : Nat} (m' : Nat) {l : Nat} {P : Program} {args : Array Value} {W : World} {R : Ending → World → Prop} (h : YieldAt Fence.wide m P l args W R) : YieldAt Fence.wide m' P l args W R := by
  obtain ⟨fn, tmps, assign, body, hy, hR⟩ := h
  exact ⟨fn, tmps, assign, body, hy, roundIn_any hR⟩
theorem grown_of_below {W W' : World} (h : Below W.heap.size W W') : W.grownBy W' none := ⟨h.os, h.tape, h.output, h.size, fun k hk _ => h.block k hk⟩
theorem Kx.putObj {n₀ G : Nat} {ns : List Nm} {g : PG} (W : World) (l : Nat) (o o' : Obj) (hl : n₀ ≤ l) (ho : W.heap[l]? = some o) (hc : o.isCells = false) : Kx n₀ G ns g W (W.putObj l o') :=
  ⟨by have := (grownBy_putObj' W l o').size; exact this, fun h cs t hb => by
    have hne : h ≠ l := by
      rintro rfl
      unfold Bk at hb
      rw [ho] at hb; cases hb; cases hc
    exact (World.putObj_heap_other hne).trans hb,
   fun hg => hg.keep fun b oo hb => World.cell?_of_block (w' := W.putObj l o') (w := W) (a := ⟨b, oo, none⟩) (World.putObj_heap_other (by show b ≠ l; omega))⟩
abbrev eachLb (bG bA bB : Nat) : Array Value := #[.pointer (some ⟨bG, 0, none⟩), .pointer (some ⟨bA, 0, none⟩), .pointer (some ⟨bB, 0, none⟩)]
/-- What the iterator has captured. -/
structure Caps (w : World) (bG bA bB G s t : Nat) : Prop where
  g : Bk w bG #[.pointer (some ⟨G, 0, none⟩)] 123
  a : Bk w bA #[.int .i64 (s : Int)] 3
  b : Bk w bB #[.int .i64 (t : Int)] 3
theorem Caps.kx {n₀ : Nat} {ns : List Nm} {g : PG} {w w' : World} {bG bA bB G s t : Nat} (h : Caps w bG bA bB G s t) (k : Kx n₀ G ns g w w') : Caps w' bG bA bB G s t := ⟨k.bk _ _ _ h.g, k.bk _ _ _ h.a, k.bk _ _ _ h.b⟩
def E1P (J Jx : List (List Nat) → World → Prop) (xs : List (List Nat)) (e : Ending) (W' : World) : Prop := (∃ v, e = .returned v) ∧ (J xs W' ∨ ∃ pre, pre <+: xs ∧ Jx pre W')
set_option maxRecDepth 100000 in
set_option maxHeartbeats 1000000 in
theorem each1_any {n₀ G bG bA bB : Nat} {ns : List Nm} {g : PG} {s t : Nat} {w : World} (n : Nat) (hcp : Caps w bG bA bB G s t) (hg : GAt w n₀ G ns g) (hn : n₀ ≤ w.heap.size) (hs : s < g.n) (ht : t < g.n) :
    SeqPaths Fence.wide n Tryz.prog 132 (eachLb bG bA bB) (fun (x : List Nat) v W => PathV W v x) (Kx n₀ G ns g) (eachG g s t) w := by
  intro l J Jx W hbw hAJ _ hY hJ0
  have hJ : ∀ pre A B, J pre A → Below A.heap.size A B → J pre B := fun pre A B h hb => hAJ pre A B none h (grown_of_below hb) (fun r e => by cases e)
  have hY2 : RoundsX n₀ G ns g l J Jx (eachG g s t) := fun m pre x v W h1 h2 h3 => yieldAt_any m (hY pre x v W h1 h2 h3)
  have hk0 : Kx n₀ G ns g w W := Kx.of_below hn hbw
  have HC0 := Lib.hid (hcp.kx hk0); have HG0 := Lib.hid (hk0.gat hg); have HJ0 := Lib.hid hJ0; have HJ := Lib.hid hJ; have HY := Lib.hid hY2
  have hn0 : n₀ ≤ W.heap.size := Nat.le_trans hn hk0.size
  clear hY hAJ hbw hk0 hcp hg hJ0 hJ hY2 hn
  refine callsIn_wide.2 ?_
  show Calls Tryz.prog _ _ W (E1P J Jx (eachG g s t))
  have c1 := HC0.out.g.cell 0; have c2 := HC0.out.a.cell 0; have c3 := HC0.out.b.cell 0
  have HD := Lib.hid (distances_any (HG0.out.mono hn0) s t hs ht)
  have hn16 := HG0.out.nn.2.2
  have hdl := distG_len g s t
  have HE : Hid (eachG g s t = (List.range (g.n - 1)).flatMap fun i => extG g s t (distG g s t) (i + 1) [s]) := Lib.hid rfl
  generalize eachG g s t = all at HE HY ⊢
  obtain ⟨F, hF⟩ : ∃ F : Nat → List (List Nat), F = fun i => extG g s t (distG g s t) (i + 1) [s] := ⟨_, rfl⟩
  have HFe : Hid (∀ i, F i = extG g s t (distG g s t) (i + 1) [s]) := Lib.hid fun i => by rw [hF]
  rw [← hF] at HE
  clear hF
  simp only [eachLb, List.append_toArray, List.cons_append, List.nil_append]
  simp only [List.getElem?_toArray, List.getElem?_cons_zero] at c1 c2 c3
  go_enter Tryz.func132, Tryz.ntmps132
  go_wp2_with fail
  refine HD.out.mono ?_
  clear HD
  rintro e W1 ⟨rfl, hr, hb⟩
  have HK1 : Hid (Kx n₀ G ns g W W1) := Lib.hid (Kx.of_below hn0 hb)
  have HR := Lib.hid hr
  have HJ1 := Lib.hid (HJ.out _ _ _ HJ0.out hb)
  generalize hhd : W.heap.size = hd at HR
  clear hr hb HJ0 c1 c2 c3 hhd
  generalize distG g s t = d at HR hdl HFe
  go_wp2_with fail
  go_loopw [6] (fun i wr => ∃ j : Nat, j ≤ g.n - 1 ∧ i = .int .i64 ((j : Int) + 1) ∧ J ((List.range j).flatMap F) wr ∧ Kx n₀ G ns g W1 wr) (fun i _ => g.n - (intOf i).toNat)
  case atStart => exact ⟨0, Nat.zero_le _, rfl, by simpa using HJ1.out, Kx.refl _ _ _ _ _⟩
  case round =>
    obtain ⟨j, hj, rfl, h1, hk1⟩ := hrel
    obtain ⟨wa, rfl⟩ : ∃ z : World, z = wr := ⟨_, rfl⟩
    have HJ2 := Lib.hid h1; have HK2 := Lib.hid (HK1.out.trans hk1); have HKA := Lib.hid hk1
    have HRA : Hid (NRow wa hd d) := Lib.hid (hk1.bk _ _ _ HR.out)
    have HGA := Lib.hid (HK2.out.gat HG0.out)
    have hca := HC0.out.kx HK2.out
    have c1 := hca.g.cell 0; have c2 := hca.a.cell 0; have c3 := hca.b.cell 0
    simp only [List.getElem?_toArray, List.getElem?_cons_zero] at c1 c2 c3
    have HCA := Lib.hid hca
    obtain ⟨nA, nc, hnm, _⟩ := HGA.out.names
    have hna : n₀ ≤ wa.heap.size := Nat.le_trans hn0 HK2.out.size
    clear h1 hk1 HJ1 HR hca
    by_cases hlt : j < g.n - 1
    · have hki : (j : Int) + 1 < (g.n : Int) := by omega
      have HIR := Lib.hid (extend_any HJ.out HY.out hdl ht hs (j + 1) ((j : Int) + 1) [s] (.slice (some ⟨wa.heap.size, 0, none⟩) 1 1) ((List.range j).flatMap F) (wa.alloc (.cells #[.int .i64 (s : Int)] 3)) rfl (by simp) (by simp; omega)
        (fun x hx => by rw [List.mem_singleton] at hx; subst hx; exact hs) rfl
        ⟨wa.heap.size, 1, #[.int .i64 (s : Int)], rfl, Nat.le_refl _, Bk.new _ _ _, fun i hi => by
          have h1 : i < 1 := hi
          have h0 : i = 0 := by omega
          subst h0
          rfl⟩
        (HGA.out.below ((Below.refl _ _).alloc hna _)) (by simp; omega) (HRA.out.past ((Below.refl _ _).alloc (Nat.le_refl _) _) HRA.out.lt) (HJ.out _ _ _ HJ2.out ((Below.refl _ _).alloc (Nat.le_refl _) _))
        (by
          obtain ⟨r, hr⟩ := flat_le (F := F) hlt
          rw [HE.out, hr, flat_succ, ← HFe.out j]
          exact ⟨r, rfl⟩))
      have HFJ := Lib.hid (HFe.out j); have HFS := Lib.hid (flat_succ F j)
      have HK3 : Hid (Kx n₀ G ns g W1 (wa.alloc (.cells #[.int .i64 (s : Int)] 3))) := Lib.hid (HKA.out.trans (Kx.of_below hna ((Below.refl _ _).alloc (Nat.le_refl _) _)))
      have c3a : (wa.alloc (.cells #[.int .i64 (s : Int)] 3)).cell? ⟨bB, 0, none⟩ = some (.int .i64 (t : Int)) := by
        rw [(HCA.out.b.past ((Below.refl _ wa).alloc (Nat.le_refl _) _) HCA.out.b.lt).cell 0]; rfl
      go_wp2_with fail
      refine HIR.out.mono ?_
      clear HIR
      rintro e w3 (⟨rfl, hj3, hk3⟩ | ⟨rfl, q, hq, hx⟩)
      · have HJ3 := Lib.hid hj3; have HK4 := Lib.hid (HK3.out.trans hk3)
        clear hj3 hk3
        go_wp2_with fail
        go_roundw
        case rel => exact ⟨j + 1, by omega, by go_num, by rw [HFS.out, HFJ.out]; exact HJ3.out, HK4.out⟩
        case measure => simp [intOf]; omega
      · go_wp2_with fail
        refine bodyPost_ret (results_none (by rfl) _ _ _) rfl ?_
        exact ⟨⟨_, rfl⟩, .inr ⟨q, hq, hx⟩⟩
    · have hki : ¬ (j : Int) + 1 < (g.n : Int) := by omega
      obtain rfl : j = g.n - 1 := by omega
      go_wp2_with fail
      go_end0
      exact ⟨⟨_, rfl⟩, .inl (by rw [HE.out]; exact HJ2.out)⟩
#print axioms each1_any
end Go.Proofs.YtghjlbbalngdhaaGreatDoor
/- The contracts of each, of slices.Clone at []bool, and of without. Conditions: as each statement says. -/
namespace Go.Proofs.YtghjlbbalngdhaaGreatDoor
open Go.RowKit
set_option linter.unusedVariables false
/-- The world in which an iterator has been made. -/
abbrev eachW (w : World) (G s t : Nat) : World := ((w.alloc (.cells #[.pointer (some ⟨G, 0, none⟩)] 123)).alloc (.cells #[.int .i64 (s : Int)] 3)).alloc (.cells #[.int .i64 (t : Int)] 3)
theorem eachW_caps (w : World) (G s t : Nat) : Caps (eachW w G s t) w.heap.size (w.heap.size + 1) (w.heap.size + 1 + 1) G s t := by
  have h0 := Bk.new w #[.pointer (some ⟨G, 0, none⟩)] 123
  have h1 := Bk.new (w.alloc (.cells #[.pointer (some ⟨G, 0, none⟩)] 123)) #[.int .i64 (s : Int)] 3
  have h2 := Bk.new ((w.alloc (.cells #[.pointer (some ⟨G, 0, none⟩)] 123)).alloc (.cells #[.int .i64 (s : Int)] 3)) #[.int .i64 (t : Int)] 3
  rw [World.size_alloc] at h1
  rw [World.size_alloc, World.size_alloc] at h2
  exact ⟨h0.keepL ((KeepL.alloc [] _ _).trans (KeepL.alloc [] _ _)) (by simp), h1.keepL (KeepL.alloc [] _ _) (by simp), h2⟩
theorem eachW_below (w : World) (G s t : Nat) : Below w.heap.size w (eachW w G s t) := (((Below.refl _ w).alloc (Nat.le_refl _) _).alloc (by simp) _).alloc (by simp; omega) _
theorem each_any (w : World) (G s t : Nat) : Calls Tryz.prog 101 #[.pointer (some ⟨G, 0, none⟩), .int .i64 (s : Int), .int .i64 (t : Int)] w fun e w' =>
    e = .returned (.func (.func 132) #[] (eachLb w.heap.size (w.heap.size + 1) (w.heap.size + 1 + 1))) ∧ w' = eachW w G s t := by
  have hmf : ∀ (fn : Fn) (first cap : Array Value) (w : World), (Instr.makeFunc fn first cap).run Tryz.prog w = .ok (.func fn first cap) w := fun _ _ _ _ => rfl
  go_enter Tryz.func101, Tryz.ntmps101
  go_wp2_with fail
  go_ret
  exact ⟨rfl, rfl⟩
theorem info_bool12 : (Tryz.prog.info? 4).map (fun i => (i.zero, i.size, i.bytes)) = some (some (.bool false), 1, 1) := by kernel_rfl
def boolsV (p : List Bool) : List Value := p.map Value.bool
set_option maxRecDepth 100000 in
theorem clone_bools {w : World} {hh off c n : Nat} {p : List Bool} (hr : Rd w w.heap.size 1 (some ⟨hh, off, none⟩) n (boolsV p)) (hn : n ≤ 1000000) :
    Calls Tryz.prog 135 #[.slice (some ⟨hh, off, none⟩) n c] w fun e w' => (∃ v', e = .returned v' ∧ w'.ownsRow w.heap.size 4 1 v' n (boolsV p)) ∧ Below w.heap.size w w' := by
  have H := Lib.hid hr
  clear hr
  obtain ⟨i0, hi0, hz0, hz1, hz2⟩ := info_parts info_bool12
  have HI0 := Lib.hid hi0; have HZ0 := Lib.hid hz0; have HZ1 := Lib.hid hz1; have HZ2 := Lib.hid hz2
  clear hi0 hz0 hz1 hz2
  have q : ∀ (w : World) (a : Option Addr) (n c n' c' : Nat), (binOp .eql 147 (.slice a n c) (.slice none n' c')).run Tryz.prog w = .ok (.bool a.isNone) w := fun w a n c n' c' => Lib.run_eql_slice_nil w _ _ a n c n' c' Tryz.underlying147
  go_enter Tryz.func135, Tryz.ntmps135
  go_wp2_with (at_builtin; refine wpList_append_rd _ rfl (.tmp 5) (.tmp 6) _ rfl w.heap.size 4 i0 _ 1 1 Tryz.underlying147 HI0.out HZ0.out HZ1.out HZ2.out rfl (by decide) _ 0 [] rfl (World.ownsRow_made w #[] 0 (Nat.le_refl _) (by simp [maxLen]) (by simp)) _ (some ⟨hh, off, none⟩) n c _ rfl (H.out.alloc (Nat.le_refl _) _) (by intro u hu; unfold boolsV at hu; obtain ⟨_, _, rfl⟩ := List.mem_map.1 hu; rfl) (by unfold maxLen; omega) (by omega) (by simp) ?_; intro v1 w1 hown1 hg1)
  rw [Nat.zero_add, List.nil_append] at hown1
  obtain ⟨A', c', rfl, hc'⟩ := own_form hown1
  go_ret
  exact ⟨⟨_, rfl, hown1⟩, (((Below.refl _ _).alloc (Nat.le_refl _) _).grown hg1 (by simp) (fun g hg => by cases hg; exact Nat.le_refl _))⟩
/-- A row of truth values in a block known whole. -/
def BRow (w : World) (h : Nat) (l : List Bool) : Prop := ∃ cs, Bk w h cs 4 ∧ ∀ j, j < l.length → cs[j]? = some (.bool (l.getD j false))
theorem BRow.keepL {L : List Nat} {w w' : World} {h : Nat} {l : List Bool} (k : BRow w h l) (hb : KeepL L w w') (hL : h ∉ L) : BRow w' h l := by
  obtain ⟨cs, h1, h2⟩ := k
  exact ⟨cs, h1.keepL hb hL, h2⟩
theorem BRow.lt {w : World} {h : Nat} {l : List Bool} (k : BRow w h l) : h < w.heap.size := by obtain ⟨cs, h1, h2⟩ := k; exact h1.lt
theorem BRow.cell {w : World} {h : Nat} {l : List Bool} (k : BRow w h l) {j : Nat} (hj : j < l.length) : w.cell? ⟨h, j, none⟩ = some (.bool (l.getD j false)) := by
  obtain ⟨cs, h1, h2⟩ := k
  rw [h1.cell, h2 j hj]
theorem BRow.froz {w : World} {h : Nat} {l : List Bool} (k : BRow w h l) (i : Nat) : w.frozen? ⟨h, i, none⟩ = false := by
  obtain ⟨cs, h1, h2⟩ := k
  exact h1.froz i
theorem BRow.set {w : World} {h : Nat} {l : List Bool} (k : BRow w h l) {i : Nat} (hi : i < l.length) (b : Bool) : BRow (w.setCell ⟨h, i, none⟩ (.bool b)) h (l.set i b) := by
  obtain ⟨cs, h1, h2⟩ := k
  refine ⟨_, h1.set i _, fun j hj => ?_⟩
  rw [List.length_set] at hj
  have h3 := h2 i hi
  rw [Array.getElem?_setIfInBounds]
  rw [List.getD_eq_getElem?_getD, List.getElem?_set]
  by_cases e : i = j
  · subst e
    rw [if_pos rfl, if_pos rfl, if_pos hi]
    rw [if_pos (by have := (Array.getElem?_eq_some_iff.1 h3).1; exact this)]; rfl
  · rw [if_neg e, if_neg e, h2 j hj, List.getD_eq_getElem?_getD]
theorem BRow.own {w : World} {base n : Nat} {v : Value} {l : List Bool} (h : w.ownsRow base 4 1 v n (boolsV l)) (hp : 1 ≤ l.length) : ∃ g c, v = .slice (some ⟨g, 0, none⟩) l.length c ∧ l.length ≤ c ∧ base ≤ g ∧ BRow w g l := by
  have h1 := h.1
  obtain rfl : n = l.length := by simpa [boolsV] using h1.symm
  rcases h.2 with ⟨_, h2⟩ | ⟨g, cap, cur, rfl, hg, hh, hcap, _, _, htk⟩
  · omega
  · refine ⟨g, cap, rfl, hcap, hg, cur, hh, fun i hi => ?_⟩
    have e : (boolsV l)[i]? = some (.bool (l.getD i false)) := by
      unfold boolsV
      rw [List.getElem?_map, List.getD_eq_getElem?_getD, List.getElem?_eq_getElem hi]; rfl
    rw [← htk, List.getElem?_take, if_pos (by omega), Array.getElem?_toList] at e
    exact e
theorem outAll_snoc : ∀ (l : List Nat) (o : List Bool) (x : Nat), outAll o (l ++ [x]) = (outAll o l).set x true
  | [], _, _ => rfl
  | a :: l, o, x => outAll_snoc l (o.set a true) x
theorem outAll_len : ∀ (l : List Nat) (o : List Bool), (outAll o l).length = o.length
  | [], _ => rfl
  | a :: l, o => by rw [outAll, outAll_len l]; simp
theorem slice_mid12 (w' : World) (hh n c hi : Nat) (E : Int) (hE : E = (hi : Int)) (h1 : 1 ≤ hi) (h2 : hi ≤ n) (h3 : n ≤ c) (h4 : 2 ≤ c) :
    (Instr.sliceAt 67 (.slice (some ⟨hh, 0, none⟩) n c) (some (.int .i64 1)) (some (.int .i64 E)) none).run Tryz.prog w' = .ok (.slice (some ⟨hh, 1, none⟩) (hi - 1) (c - 1)) w' := by
  subst hE
  have ht : Tryz.prog.underlying 67 = some (.slice (Tryz.prog.elem 67)) := by kernel_rfl
  have hz : ∀ w, (sizeOf (Tryz.prog.elem 67)).run Tryz.prog w = .ok 1 w := fun w => by kernel_rfl
  rw [run_sliceAt_slice (h := ht), show ((1 : Int)) = ((1 : Nat) : Int) from rfl, run_slice_lh (ht := ht) (h0 := by omega) (h1 := by omega) (h2 := by omega), hz]
  simp [Result.andThen, sliced, addr_add]
  omega
theorem drop_take_succ (p : List Nat) (k : Nat) (hk : 1 + k < p.length) : (p.drop 1).take (k + 1) = (p.drop 1).take k ++ [p.getD (1 + k) 0] := by
  rw [List.take_succ_eq_append_getElem (by rw [List.length_drop]; omega), List.getElem_drop, List.getD_eq_getElem?_getD, List.getElem?_eq_getElem hk]; rfl
/-- The new graph's own blocks. -/
def NewG (G : Nat) (g : PG) (p : List Nat) (w w' : World) : Prop := ∃ v0 v1 g1 c1, w.cell? ⟨G, 0, none⟩ = some v0 ∧ w.cell? ⟨G, 1, none⟩ = some v1 ∧ Bk w' w.heap.size #[v0, v1, .slice (some ⟨g1, 0, none⟩) g.n c1, .bool (g.without p).far] 149 ∧ BRow w' g1 (g.without p).out ∧ g.n ≤ c1
def WoP (G : Nat) (ns : List Nm) (g : PG) (p : List Nat) (w : World) (e : Ending) (w' : World) : Prop := e = .returned (.pointer (some ⟨w.heap.size, 0, none⟩)) ∧ (GAt w' w'.heap.size w.heap.size ns (g.without p) ∧ NewG G g p w w') ∧ Below w.heap.size w w'
set_option maxRecDepth 100000 in
set_option maxHeartbeats 1000000 in
theorem without_any {w : World} {G : Nat} {ns : List Nm} {g : PG} (h : GAt w w.heap.size G ns g) (v : Value) (p : List Nat) (hv : PathV w v p) (hp : 2 ≤ p.length) (hp2 : p.length ≤ 1000000) (hpn : ∀ i, i < p.length → p.getD i 0 < g.n) :
    Calls Tryz.prog 102 #[.pointer (some ⟨G, 0, none⟩), v] w (WoP G ns g p w) := by
  obtain ⟨hh, c, cs, rfl, hc, hb, hcs⟩ := hv
  obtain ⟨nA, nc, hnm, hnr⟩ := h.names
  obtain ⟨ab, ao, ac, ham, hab, har⟩ := h.adj
  obtain ⟨ob, oo, oc, hom, hoc, hob, hor⟩ := h.out
  have hfm := h.far
  have HRO : Hid (Rd w w.heap.size 1 (some ⟨ob, oo, none⟩) g.n (boolsV g.out)) := Lib.hid ⟨by simp [boolsV, h.outl], fun _ => ⟨ob, oo, rfl, hob, fun j u hu => by
    unfold boolsV at hu
    rw [List.getElem?_map, Option.map_eq_some_iff] at hu
    obtain ⟨x, hx, rfl⟩ := hu
    have hj : j < g.out.length := (List.getElem?_eq_some_iff.1 hx).1
    rw [hor j (by rw [← h.outl]; exact hj), List.getD_eq_getElem?_getD, hx]; rfl⟩⟩
  have H := Lib.hid h; have HB := Lib.hid hb; have HCS := Lib.hid hcs; have HNR := Lib.hid hnr; have HAR := Lib.hid har
  have hn16 := h.nn.2.2; have hn1 := h.nn.2.1; have hGl := h.lt
  have hol := h.outl
  clear h hb hcs hnr har hor
  go_enter Tryz.func102, Tryz.ntmps102
  go_wp2_with fail
  have hrd := HRO.out.alloc (Nat.le_refl w.heap.size) (.cells #[.slice nA g.n nc, .slice (some ⟨ab, ao, none⟩) g.n ac, .slice (some ⟨ob, oo, none⟩) g.n oc, .bool g.far] 149)
  have hb0 : Bk (w.alloc (.cells #[.slice nA g.n nc, .slice (some ⟨ab, ao, none⟩) g.n ac, .slice (some ⟨ob, oo, none⟩) g.n oc, .bool g.far] 149)) w.heap.size _ _ := Bk.new _ _ _
  have hbw0 : Below w.heap.size w (w.alloc (.cells #[.slice nA g.n nc, .slice (some ⟨ab, ao, none⟩) g.n ac, .slice (some ⟨ob, oo, none⟩) g.n oc, .bool g.far] 149)) := (Below.refl _ _).alloc (Nat.le_refl _) _
  have hsz0 : (w.alloc (.cells #[.slice nA g.n nc, .slice (some ⟨ab, ao, none⟩) g.n ac, .slice (some ⟨ob, oo, none⟩) g.n oc, .bool g.far] 149)).heap.size = w.heap.size + 1 := World.size_alloc _ _
  have HRD := Lib.hid hrd; have HB0 := Lib.hid hb0; have HBW0 := Lib.hid hbw0
  clear hrd hb0 hbw0
  generalize w.alloc (.cells #[.slice nA g.n nc, .slice (some ⟨ab, ao, none⟩) g.n ac, .slice (some ⟨ob, oo, none⟩) g.n oc, .bool g.far] 149) = W0 at HRD HB0 HBW0 hsz0 ⊢
  refine (clone_bools (c := oc) (HRD.out.mono (by omega)) (by omega)).mono ?_
  rintro e w1 ⟨⟨v1, rfl, hown⟩, hb1⟩
  obtain ⟨g1, c1, rfl, hc1, hg1, hrow⟩ := BRow.own hown (by omega)
  rw [hol] at hc1
  have hb1k := HB0.out.past hb1 HB0.out.lt
  have HB1 := Lib.hid hb1k; have HROW := Lib.hid hrow
  have HBW1 : Hid (Below w.heap.size w w1) := Lib.hid (HBW0.out.trans (hb1.mono (by omega)))
  have f2 := hb1k.froz 2
  have c2 : w1.cell? ⟨w.heap.size, 2, none⟩ = some (.slice (some ⟨ob, oo, none⟩) g.n oc) := by rw [hb1k.cell]; rfl
  have hne : g1 ≠ w.heap.size := by omega
  have hg1l := hrow.lt
  have hgw : w.heap.size ≤ g1 := by omega
  clear hown hb1 hrow hb1k HB0 HBW0 HRD HRO hsz0
  have hsl := fun w' => slice_mid12 w' hh p.length c (p.length - 1) ((p.length : Int) - 1) (by omega) (by omega) (by omega) hc (by omega)
  obtain ⟨m, hm⟩ : ∃ m, m + 2 = p.length := ⟨p.length - 2, by omega⟩
  rw [show p.length - 1 - 1 = m by omega] at hsl
  rw [hol]
  go_wp2_with fail
  have hb2 := HB1.out.set 2 (.slice (some ⟨g1, 0, none⟩) g.n c1)
  have hrow2 := HROW.out.keepL (KeepL.set w1 w.heap.size 2 (.slice (some ⟨g1, 0, none⟩) g.n c1)) (by simpa using hne)
  have hbw2 := HBW1.out.setCell (p := ⟨w.heap.size, 2, none⟩) (Nat.le_refl _) (.slice (some ⟨g1, 0, none⟩) g.n c1)
  have HB2 := Lib.hid hb2; have HROW2 := Lib.hid hrow2; have HBW2 := Lib.hid hbw2
  clear hb2 hrow2 hbw2 HB1 HROW HBW1 f2 c2 hsl hg1l
  generalize w1.setCell ⟨w.heap.size, 2, none⟩ (.slice (some ⟨g1, 0, none⟩) g.n c1) = w2 at HB2 HROW2 HBW2 ⊢
  go_loopw [23] (fun i wr => ∃ k : Nat, k ≤ m ∧ i = .int .i64 k ∧ BRow wr g1 (outAll g.out ((p.drop 1).take k)) ∧ KeepL [g1] w2 wr) (fun i _ => m - (intOf i).toNat)
  case atStart => exact ⟨0, Nat.zero_le _, rfl, HROW2.out, KeepL.refl _ _⟩
  case round =>
    obtain ⟨k, hk, rfl, h1, hk1⟩ := hrel
    obtain ⟨wa, rfl⟩ : ∃ z : World, z = wr := ⟨_, rfl⟩
    have HR1 := Lib.hid h1; have HK1 := Lib.hid hk1
    have hb2 := HB2.out.keepL hk1 (by simpa using hne.symm)
    have HB3 := Lib.hid hb2
    have hbw : Below w.heap.size w wa := HBW2.out.trans (hk1.below HBW2.out.size (by simpa using hgw))
    have HBW3 := Lib.hid hbw
    clear h1 hk1 HROW2
    by_cases hlt : k < m
    · have hki : (k : Int) < (m : Int) := by omega
      have cf : wa.cell? ⟨w.heap.size, 2, none⟩ = some (.slice (some ⟨g1, 0, none⟩) g.n c1) := by rw [hb2.cell]; rfl
      have hp1 : wa.cell? ⟨hh, 1 + k, none⟩ = some (.int .i64 (p.getD (1 + k) 0 : Nat)) := by
        rw [(hbw.cell (p := ⟨hh, 1 + k, none⟩) HB.out.lt), HB.out.cell, HCS.out _ (by omega)]
      have hx := hpn (1 + k) (by omega)
      have HDT := Lib.hid (drop_take_succ p k (by omega))
      generalize p.getD (1 + k) 0 = x at hp1 hx HDT
      have hxi : (x : Int) < (g.n : Int) := by omega
      have hlen : (outAll g.out ((p.drop 1).take k)).length = g.n := by rw [outAll_len, hol]
      have cr := HR1.out.cell (j := x) (by omega)
      have fr := HR1.out.froz x
      have HS := Lib.hid (HR1.out.set (i := x) (by omega) true)
      have HSK := Lib.hid (HK1.out.trans (KeepL.set wa g1 x (.bool true)))
      clear hb2 hbw hlen
      go_wp2_with fail
      go_roundw
      case rel => exact ⟨k + 1, by omega, by go_num, by rw [HDT.out, outAll_snoc]; exact HS.out, HSK.out⟩
      case measure => simp [intOf]; omega
    · have hki : ¬ (k : Int) < (m : Int) := by omega
      obtain rfl : k = m := by omega
      have cfar : wa.cell? ⟨G, 3, none⟩ = some (.bool g.far) := (hbw.cell (p := ⟨G, 3, none⟩) hGl).trans hfm
      have c3 : wa.cell? ⟨w.heap.size, 3, none⟩ = some (.bool g.far) := by rw [hb2.cell]; rfl
      have f3 := hb2.froz 3
      have hfin : ∀ fr : Bool, fr = (g.far || p.length == 2) → (GAt (wa.setCell ⟨w.heap.size, 3, none⟩ (.bool fr)) (wa.setCell ⟨w.heap.size, 3, none⟩ (.bool fr)).heap.size w.heap.size ns (g.without p) ∧ NewG G g p w (wa.setCell ⟨w.heap.size, 3, none⟩ (.bool fr))) ∧ Below w.heap.size w (wa.setCell ⟨w.heap.size, 3, none⟩ (.bool fr)) := by
        intro fr hfr
        have hbs := HBW3.out.setCell (p := ⟨w.heap.size, 3, none⟩) (Nat.le_refl _) (.bool fr)
        have hbk := HB3.out.set 3 (.bool fr)
        have hrw := HR1.out.keepL (KeepL.set wa w.heap.size 3 (.bool fr)) (by simpa using hne)
        generalize wa.setCell ⟨w.heap.size, 3, none⟩ (.bool fr) = w' at hbs hbk hrw ⊢
        have hrl : BRow w' g1 (g.without p).out := by
          show BRow w' g1 (outAll g.out ((p.drop 1).take (p.length - 2)))
          rw [show p.length - 2 = k by omega]; exact hrw
        refine ⟨⟨⟨hbk.lt, H.out.nn, H.out.adjl, by show (outAll _ _).length = _; rw [outAll_len]; exact hol, ⟨nA, nc, by rw [hbk.cell]; rfl, (HNR.out.keep (fun b o hlt => hbs.cell (p := ⟨b, o, none⟩) hlt)).mono hbs.size⟩, ⟨ab, ao, ac, by rw [hbk.cell]; rfl, by have := hbs.size; omega, fun i hi => ?_⟩,
          ⟨g1, 0, c1, by rw [hbk.cell]; rfl, hc1, hrw.lt, fun j hj => ?_⟩, by rw [hbk.cell, hfr]; rfl⟩, ⟨_, _, g1, c1, hnm, ham, by rw [hfr] at hbk; exact hbk, hrl, hc1⟩⟩, hbs⟩
        · obtain ⟨bi, oi, ci, h4, h5, h6⟩ := HAR.out i hi
          exact ⟨bi, oi, ci, (hbs.cell (p := ⟨ab, ao + i, none⟩) hab).trans h4, by have := hbs.size; omega, fun j hj => (hbs.cell (p := ⟨bi, oi + j, none⟩) h5).trans (h6 j hj)⟩
        · rw [Nat.zero_add, hrw.cell (by rw [outAll_len, hol]; exact hj)]
          show _ = some (Value.bool ((outAll g.out ((p.drop 1).take (p.length - 2))).getD j false))
          rw [show p.length - 2 = k by omega]
      have HFIN := Lib.hid hfin
      clear hfin hb2 hbw
      cases hfr : g.far
      · by_cases h2 : p.length = 2
        · rw [hfr] at cfar c3
          have e1 : ((p.length : Int) == 2) = true := by simp; omega
          have e2 : (p.length : Int) = 2 := by omega
          go_wp2_with fail
          go_ret
          exact ⟨rfl, HFIN.out true (by rw [hfr, h2]; rfl)⟩
        · rw [hfr] at cfar c3
          have e1 : ((p.length : Int) == 2) = false := by simp; omega
          have e2 : ¬ (p.length : Int) = 2 := by omega
          go_wp2_with fail
          go_ret
          exact ⟨rfl, HFIN.out false (by rw [hfr]; simp [h2])⟩
      · rw [hfr] at cfar c3
        go_wp2_with fail
        go_ret
        exact ⟨rfl, HFIN.out true (by rw [hfr]; rfl)⟩
#print axioms without_any
end Go.Proofs.YtghjlbbalngdhaaGreatDoor
