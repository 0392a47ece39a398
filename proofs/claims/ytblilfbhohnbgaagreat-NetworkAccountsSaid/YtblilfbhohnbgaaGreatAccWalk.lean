/- NetworkAccounts: the walk. Conditions: as the statement says. -/
import Derived.Test.YtblilfbhohnbgaaGreatNet68
import Derived.Test.YtblilfbhohnbgaaGreatOpenPrs
import Derived.Test.YtblilfbhohnbgaaGreatNet65
import Derived.Test.YtblilfbhohnbgaaGreatNet35
import Derived.Test.YtblilfbhohnbgaaGreatNet55
import Derived.Deep.CutBlock
namespace Go.Proofs.YtblilfbhohnbgaaGreat
open List (setIfInBounds_toArray set_cons_zero set_cons_succ)
open Go.RowKit
set_option linter.unusedVariables false
def TrueA (w : World) (e : Ending) (w' : World) : Prop := e = .returned (.bool true) ∧ Below w.heap.size w w'
def mV (m : List Bool) : Array Value := (m.map Value.bool).toArray
theorem mV_get (m : List Bool) (i : Nat) (h : i < m.length) : (mV m)[i]? = some (.bool (m.getD i false)) := by
  unfold mV
  rw [List.getElem?_toArray, List.getElem?_map, List.getD_eq_getElem?_getD, List.getElem?_eq_getElem h]; rfl
theorem mV_set (m : List Bool) (i : Nat) (v : Bool) : (mV m).setIfInBounds i (.bool v) = mV (m.set i v) := by unfold mV; rw [List.map_set]; simp
theorem mV_one (m : List Bool) : (mV m).all (·.oneCell') = true := by
  unfold mV
  rw [Array.all_eq_true']
  intro x hx
  simp only [List.mem_toArray, List.mem_map] at hx
  obtain ⟨i, _, rfl⟩ := hx
  rfl
/-- The network and its tables. -/
def AccS (w : World) (N bn bl X Y : Nat) (sN : NS) (m : List Bool) (t : List Int) (W : World) : Prop := NetNew w sN N bn bl W ∧ Bk W X (mV m) 31 ∧ Bk W Y (stV t) 33 ∧ AccI sN m t
theorem AccS.far {w : World} {N bn bl X Y : Nat} {sN : NS} {m : List Bool} {t : List Int} {W W' : World} (h : AccS w N bn bl X Y sN m t W) (hb : Below W.heap.size W W') : AccS w N bn bl X Y sN m t W' := ⟨h.1.far hb, h.2.1.past hb h.2.1.lt, h.2.2.1.past hb h.2.2.1.lt, h.2.2.2⟩
theorem NetNew.tableB {w : World} {s : NS} {N bn bl b : Nat} {W W' : World} {cs : Array Value} (h : NetNew w s N bn bl W) (hb : Bk W b cs 31) (hk : KeepL [b] W W') (hle : w.heap.size ≤ b) : NetNew w s N bn bl W' := by
  have hc : CK (fun t => t ≠ 31) W W' := CK.keepL hk (fun k hk' cs' t ht hx => by
    rw [List.mem_singleton] at hk'
    subst hk'
    exact ht (hb.tne hx))
  obtain ⟨⟨h1, h2, h3, h4, h5, h6, h7⟩, h8, h9⟩ := h
  refine ⟨⟨hc _ _ _ (by decide) h1, h2.keep (hk.block _ h2.lt (by simpa using (hb.nmapL h2).symm)), h3.keep (hk.block _ h3.lt (by simpa using (hb.nmapL h3).symm)), h4.ck hc (by decide) (by decide), h5.ck hc (by decide) (by decide) (by decide) (by decide) (by decide), h6, h7⟩, h8.trans (hk.below h8.size (by simpa using hle)), h9⟩
theorem NetNew.tableT {w : World} {s : NS} {N bn bl b : Nat} {W W' : World} {cs : Array Value} (h : NetNew w s N bn bl W) (hb : Bk W b cs 33) (hk : KeepL [b] W W') (hle : w.heap.size ≤ b) : NetNew w s N bn bl W' := by
  have hc : CK (fun t => t ≠ 33) W W' := CK.keepL hk (fun k hk' cs' t ht hx => by
    rw [List.mem_singleton] at hk'
    subst hk'
    exact ht (hb.tne hx))
  obtain ⟨⟨h1, h2, h3, h4, h5, h6, h7⟩, h8, h9⟩ := h
  refine ⟨⟨hc _ _ _ (by decide) h1, h2.keep (hk.block _ h2.lt (by simpa using (hb.nmapL h2).symm)), h3.keep (hk.block _ h3.lt (by simpa using (hb.nmapL h3).symm)), h4.ck hc (by decide) (by decide), h5.ck hc (by decide) (by decide) (by decide) (by decide) (by decide), h6, h7⟩, h8.trans (hk.below h8.size (by simpa using hle)), h9⟩
theorem NetB.tableT {B N b : Nat} {s : NS} {W W' : World} {cs : Array Value} (h : NetB B W N s) (hb : Bk W b cs 33) (hk : KeepL [b] W W') : NetB B W' N s := by
  have hc : CK (fun t => t ≠ 33) W W' := CK.keepL hk (fun k hk' cs' t ht hx => by
    rw [List.mem_singleton] at hk'
    subst hk'
    exact ht (hb.tne hx))
  obtain ⟨bn, bl, vh, vs, ⟨h1, h2, h3, h4, h5, h6, h7⟩, h8⟩ := h
  exact ⟨bn, bl, vh, vs, ⟨hc _ _ _ (by decide) h1, h2.keep (hk.block _ h2.lt (by simpa using (hb.nmapL h2).symm)), h3.keep (hk.block _ h3.lt (by simpa using (hb.nmapL h3).symm)), h4.ck hc (by decide) (by decide), h5.ck hc (by decide) (by decide) (by decide) (by decide) (by decide), h6, h7⟩, h8⟩
theorem Bk.apart {W : World} {a b : Nat} {cs cs' : Array Value} {t t' : TypeId} (h : Bk W a cs t) (h' : Bk W b cs' t') (ht : t' ≠ t) : b ∉ [a] := fun hm => by
  rw [List.mem_singleton] at hm
  subst hm
  exact ht (h.tne h')
/-- The network and its tables while calls come in. -/
def AccB (w : World) (N X Y : Nat) (m : List Bool) (s : NS) (t : List Int) (now : Int) (a b : Nat) (W : World) : Prop := NetB w.heap.size W N s ∧ Bk W X (mV m) 31 ∧ Bk W Y (stV t) 33 ∧ AccT s m t now a b ∧ Below w.heap.size w W
theorem AccB.far {w : World} {N X Y : Nat} {m : List Bool} {s : NS} {t : List Int} {now : Int} {a b : Nat} {W W' : World} (h : AccB w N X Y m s t now a b W) (hb : Below W.heap.size W W') : AccB w N X Y m s t now a b W' := ⟨h.1.far hb, h.2.1.past hb h.2.1.lt, h.2.2.1.past hb h.2.2.1.lt, h.2.2.2.1, bnextK h.2.2.2.2 hb⟩
theorem AccB.to {w : World} {N X Y : Nat} {m : List Bool} {s : NS} {t : List Int} {now now' : Int} {a b a' b' : Nat} {W : World} (h : AccB w N X Y m s t now a b W) (f : AccT s m t now a b → AccT s m t now' a' b') : AccB w N X Y m s t now' a' b' W := ⟨h.1, h.2.1, h.2.2.1, f h.2.2.2.1, h.2.2.2.2⟩
theorem AccB.call {w : World} {N X Y : Nat} {m : List Bool} {s s' : NS} {t : List Int} {now : Int} {W W' : World} (h : AccB w N X Y m s t now 8 0 W) (hs : Step s s') (hn : NextP w.heap.size N W s' W') : AccB w N X Y m s' t s.now 0 0 W' :=
  ⟨hn.1, hn.2.2 _ _ _ (by decide) h.2.1, hn.2.2 _ _ _ (by decide) h.2.2.1, h.2.2.2.1.call hs, h.2.2.2.2.trans hn.2.1⟩
theorem AccB.put {w : World} {N X Y : Nat} {m : List Bool} {s : NS} {t : List Int} {now : Int} {a b : Nat} {W : World} (h : AccB w N X Y m s t now a b W) (hab : a < b) (hb : b < 8) (hY : w.heap.size ≤ Y) {v : Int} (hv : v = totL (s.lk (pr8 a b))) : AccB w N X Y m s (t.set (a * 8 + b) v) now a (b + 1) (W.setCell ⟨Y, a * 8 + b, none⟩ (.int .i64 v)) := by
  have k : KeepL [Y] W (W.setCell ⟨Y, a * 8 + b, none⟩ (.int .i64 v)) := KeepL.set _ _ _ _
  refine ⟨h.1.tableT h.2.2.1 k, h.2.1.keepL k (Bk.apart h.2.2.1 h.2.1 (by decide)), by rw [← stV_set]; exact h.2.2.1.set _ _, by rw [hv]; exact h.2.2.2.1.put hab hb, h.2.2.2.2.trans (k.below h.2.2.2.2.size (by simpa using hY))⟩
theorem stock_net {B N : Nat} {w : World} {s : NS} (h : NetB B w N s) (a b : Nm) (ha : a.length ≤ maxLen) (hb : b.length ≤ maxLen) : Calls Tryz.prog 10 #[.pointer (some ⟨N, 0, none⟩), encS a, encS b] w (StockP s a b w) := by
  obtain ⟨bn, bl, vh, vs, h1, _⟩ := h
  exact Stock_any h1 a b ha hb
theorem held_net {B N : Nat} {w : World} {s : NS} (h : NetB B w N s) (a b : Nm) : Calls Tryz.prog 11 #[.pointer (some ⟨N, 0, none⟩), encS a, encS b] w (HeldP s.holds (pairOf a b) w) := by
  obtain ⟨bn, bl, vh, vs, h1, h2, _⟩ := h
  exact held_any h1 h2 a b
theorem now_net {B N : Nat} {w : World} {s : NS} (h : NetB B w N s) : Calls Tryz.prog 8 #[.pointer (some ⟨N, 0, none⟩)] w fun e w' => e = .returned (.int .i64 s.now) ∧ w = w' := by
  obtain ⟨bn, bl, vh, vs, h1, _⟩ := h
  exact Now_any h1
theorem stock_ok {B N : Nat} {w : World} {s : NS} (h : NetB B w N s) (a b : Nm) (ha : a.length ≤ maxLen) (hb : b.length ≤ maxLen) {f hl sp : Int} (he : stockE s a b = 0) (h1 : f = (s.lk (pairOf a b)).free) (h2 : hl = (s.lk (pairOf a b)).held) (h3 : sp = (s.lk (pairOf a b)).spent) :
    Calls Tryz.prog 10 #[.pointer (some ⟨N, 0, none⟩), encS a, encS b] w fun e w' => e = .returned (.tuple #[.agg #[.int .i64 f, .int .i64 hl, .int .i64 sp], .int .i64 0]) ∧ Below w.heap.size w w' := by
  refine (stock_net h a b ha hb).mono ?_
  rintro e w' ⟨⟨f', h', s', z, rfl, hz, _, hq⟩, hbw⟩
  rw [he] at hz
  subst hz
  obtain ⟨q1, q2, q3⟩ := hq rfl
  rw [h1, h2, h3, q1, q2, q3]
  exact ⟨rfl, hbw⟩
theorem held_ok {B N : Nat} {w : World} {s : NS} (h : NetB B w N s) (a b : Nm) {hl : Int} (he : hl = heldSum s.holds (pairOf a b)) : Calls Tryz.prog 11 #[.pointer (some ⟨N, 0, none⟩), encS a, encS b] w fun e w' => e = .returned (.int .i64 hl) ∧ Below w.heap.size w w' := by
  rw [he]
  exact held_net h a b
theorem keepL_row (w : World) (g : Nat) (cs : Array Value) : KeepL [g] w (w.setRow g cs) := keepL_setRow w g cs
set_option maxRecDepth 100000 in
set_option maxHeartbeats 4000000 in
theorem NetworkAccounts_walk (v0 : Value) (i0 : PrsArg) (a1 : Nat) (v2 : Value) (i2 : ActsArg) (w : World) (hx0 : IsPrs w v0 i0) (h1 : a1 < 256) (hx2 : IsActs w v2 i2) :
    Calls Tryz.prog 3 #[v0, .int .u8 (a1 : Int), v2] w (TrueA w) := by
  obtain ⟨A0, n0, c0, l0⟩ := i0
  obtain ⟨A2, n2, c2, l2⟩ := i2
  obtain ⟨rfl, hnc0, hc0, hln0, hrd0, hlt0⟩ := hx0
  obtain ⟨rfl, hnc2, hc2, hln2, hrd2, hraw2⟩ := hx2
  simp only at hnc0 hc0 hln0 hrd0 hlt0 hnc2 hc2 hln2 hrd2 hraw2 ⊢
  have HRD0 := Lib.hid hrd0; have HLT0 := Lib.hid hlt0
  have HRD2 := Lib.hid hrd2; have HRAW2 := Lib.hid hraw2
  have hl0 : l0.length = n0 := hln0
  have hl2 : l2.length = n2 := hln2
  have hm0 : n0 ≤ 9223372036854775807 := by omega
  have hm2 : n2 ≤ 9223372036854775807 := by omega
  have HW := Lib.hid (fun W => works09_any W)
  have hga : 0 ≤ (a1 : Int) ∧ (a1 : Int) ≤ 255 := by omega
  have HGA := Lib.hid hga
  clear hrd0 hlt0 hnc0 hc0 hln0 hrd2 hraw2 hnc2 hc2 hln2 h1 hga
  go_enter Tryz.func3, Tryz.ntmps3
  go_wp2_with fail
  refine (newNet_any _).mono ?_
  rintro e w2 ⟨rfl, rfl⟩
  have HI : Hid (NetNew w ns0 (w.heap.size + 1 + 1) w.heap.size (w.heap.size + 1) (newW w)) := Lib.hid
    ⟨new_at w, newW_below w, Nat.le_refl _, by omega, by omega⟩
  obtain ⟨w2, hw2⟩ : ∃ z, z = newW w := ⟨_, rfl⟩
  rw [← hw2] at HI ⊢
  clear hw2
  generalize hN : w.heap.size + 1 + 1 = N at HI ⊢
  generalize hbl : w.heap.size + 1 = bl at HI
  generalize hbn : w.heap.size = bn at HI
  clear hN hbl hbn
  go_wp2_with fail
  go_loopw [8] (fun i wr => ∃ k : Nat, k ≤ 8 ∧ i = .int .i64 k ∧ NetNew w (smN k) N bn bl wr) (fun i _ => 8 - (intOf i).toNat)
  case atStart => exact ⟨0, by omega, rfl, HI.out⟩
  case round =>
    obtain ⟨k, hk, rfl, hn1⟩ := hrel
    obtain ⟨wa, rfl⟩ : ∃ z : World, z = wr := ⟨_, rfl⟩
    have HN := Lib.hid hn1
    clear hn1 HI
    by_cases hlt : k < 8
    · have hki : (k : Int) < 8 := by omega
      have hc := n8_cell wa k hlt
      have HBA := Lib.hid (below_alloc wa (.cells n8V 9))
      obtain ⟨w3, hw3⟩ : ∃ z, z = wa.alloc (.cells n8V 9) := ⟨_, rfl⟩
      rw [← hw3] at hc HBA
      have HW3 := Lib.hid hw3
      clear hw3
      have HN3 := Lib.hid (HN.out.far HBA.out)
      have HP := Lib.hid (Node_any HN3.out.1 (nm k) (by have := (named_len (nm_named k hlt)).2; unfold maxLen; omega))
      have HST := Lib.hid (smN_step k hlt)
      have HSS : Hid (nodeS (smN k) (nm k) = smN (k + 1)) := Lib.hid (by unfold nodeS; rw [if_pos (smN_step k hlt)]; rfl)
      generalize nm k = y at *
      go_wp2_with fail
      refine (names_any _).mono ?_
      rintro e w4 ⟨rfl, rfl⟩
      rw [← HW3.out]
      clear HW3
      go_wp2_with fail
      refine HP.out.mono ?_
      clear HP
      rintro e w4 hp
      have HQ := Lib.hid (HN3.out.node hp)
      rw [HSS.out] at HQ
      obtain ⟨z, hz, rfl⟩ := hp.1
      rw [HST.out] at hz
      subst hz
      clear hp
      go_wp2_with fail
      go_roundw
      case rel => exact ⟨k + 1, by omega, by go_num, HQ.out.1⟩
      case measure => simp [intOf]; omega
    · have hki : ¬ (k : Int) < 8 := by omega
      obtain rfl : k = 8 := by omega
      have HIB : Hid ((Tryz.prog.info? 31).map (·.size) = some (mV (List.replicate 64 false)).size) := Lib.hid (by rw [show (mV (List.replicate 64 false)).size = 64 by unfold mV; simp]; kernel_rfl)
      have HIT : Hid ((Tryz.prog.info? 33).map (·.size) = some (stV (List.replicate 64 0)).size) := Lib.hid (by rw [show (stV (List.replicate 64 0)).size = 64 by unfold stV; simp]; kernel_rfl)
      have HAB : Hid ((mV (List.replicate 64 false)).all (·.oneCell') = true) := Lib.hid (mV_one _)
      have HAT : Hid ((stV (List.replicate 64 0)).all (·.oneCell') = true) := Lib.hid (stV_one _)
      go_upto_region 7 with fail
      go_upto_region 8 with (refine wpList_plain rfl fun _ hK => wp_store_row 31 _ _ rfl wa.heap.size (mV (List.replicate 64 false)) rfl rfl _ _ (heap_alloc_new wa _) HIB.out rfl HAB.out (hK _ _ ?_); rw [World.setRow_alloc_new])
      obtain ⟨w3, hw3⟩ : ∃ z, z = wa.alloc (.cells (mV (List.replicate 64 false)) 31) := ⟨_, rfl⟩
      have HB3 : Hid (Bk w3 wa.heap.size (mV (List.replicate 64 false)) 31 ∧ Below wa.heap.size wa w3) := Lib.hid (by rw [hw3]; exact ⟨Bk.new _ _ _, below_alloc _ _⟩)
      rw [← hw3]
      clear hw3
      obtain ⟨Z0, hZ0⟩ : ∃ Z, Z = List.replicate 64 (0 : Int) := ⟨_, rfl⟩
      have HZ0 := Lib.hid hZ0
      rw [← hZ0] at HIT HAT
      clear hZ0
      go_upto_region 9 with (refine wpList_plain rfl fun _ hK => wp_store_row 33 _ _ rfl w3.heap.size (stV Z0) rfl (by rw [HZ0.out]; rfl) _ _ (heap_alloc_new w3 _) HIT.out (by rw [HZ0.out]; rfl) HAT.out (hK _ _ ?_); rw [World.setRow_alloc_new])
      obtain ⟨w4, hw4⟩ : ∃ z, z = w3.alloc (.cells (stV Z0) 33) := ⟨_, rfl⟩
      have HS0 : Hid (AccS w N bn bl wa.heap.size w3.heap.size (smN 8) (List.replicate 64 false) Z0 w4 ∧ w.heap.size ≤ wa.heap.size ∧ w.heap.size ≤ w3.heap.size) := Lib.hid (by
        have h1 : Below w3.heap.size w3 w4 := by rw [hw4]; exact below_alloc _ _
        have h2 := HN.out.far HB3.out.2
        exact ⟨⟨h2.far h1, HB3.out.1.past h1 HB3.out.1.lt, by rw [hw4]; exact Bk.new _ _ _, by rw [HZ0.out]; exact AccI.start⟩, HN.out.2.1.size, h2.2.1.size⟩)
      rw [← hw4]
      clear hw4 HN HB3 HIB HIT HAB HAT
      obtain ⟨hX, hY⟩ := HS0.out.2
      have HX := Lib.hid hX; have HY := Lib.hid hY
      replace HS0 := Lib.hid HS0.out.1
      clear hX hY
      generalize wa.heap.size = X at HS0 HX ⊢
      generalize w3.heap.size = Y at HS0 HY ⊢
      clear hki
      try simp only [Act.put, setIfInBounds_toArray, set_cons_zero, set_cons_succ]
      go_cut [11] from 11 to 233 (fun v11 wc => v11 = .int .i64 0 ∧ w4 = wc)
      case first =>
        go_wp2_with fail
        go_meet
        exact ⟨rfl, rfl⟩
      case rest => as_aux_lemma =>
        obtain ⟨rfl, rfl⟩ := hcut
        go_upto_block 2 with fail
        go_cut [11, 12, 13] from 11 to 233 (fun _ _ _ wc => ∃ sN m t, AccS w N bn bl X Y sN m t wc)
        case first => as_aux_lemma =>
          go_wp2_with fail
          go_loopw [11, 12, 13] (fun i _ _ wr => ∃ (k : Nat) (sN : NS) (m : List Bool) (t : List Int), k ≤ n0 ∧ k ≤ 30 ∧ i = .int .i64 k ∧ AccS w N bn bl X Y sN m t wr) (fun i _ _ _ => 30 - (intOf i).toNat)
          case atStart => exact ⟨0, _, _, _, Nat.zero_le _, by omega, rfl, HS0.out⟩
          case round =>
            obtain ⟨k, sN, m, t, hk, hk30, rfl, hs⟩ := hrel
            obtain ⟨wi, rfl⟩ : ∃ z : World, z = wr := ⟨_, rfl⟩
            have HS := Lib.hid hs
            clear hs HS0
            by_cases hkn : k < n0
            · have hki : (k : Int) < (n0 : Int) := by omega
              by_cases hk4 : k < 30
              · have hki4 : (k : Int) < 30 := by omega
                have hkl : k < l0.length := by omega
                obtain ⟨b0, off, rfl, hb0, hcell⟩ := HRD0.out.2 (by omega)
                have hlow := HS.out.1.2.1
                obtain ⟨q0, q1, q2⟩ := prCells_get l0 k hkl
                have c0 := (hlow.cell (p := ⟨b0, off + k * 3, none⟩) hb0).trans (hcell _ _ q0)
                have c1 := (hlow.cell (p := ⟨b0, off + k * 3 + 1, none⟩) hb0).trans (hcell (k * 3 + 1) _ q1)
                have C2 : Hid (∀ W, Below w.heap.size w W → W.cell? ⟨b0, off + k * 3 + 2, none⟩ = some (.int .u8 (l0[k].bits : Int))) := Lib.hid fun W hW => (hW.cell (p := ⟨b0, off + k * 3 + 2, none⟩) hb0).trans (hcell (k * 3 + 2) _ q2)
                obtain ⟨l1, l2', l3⟩ := HLT0.out l0[k] (List.getElem_mem hkl)
                generalize l0[k] = p at c0 c1 C2 l1 l2' l3
                obtain ⟨pa, pb, pv⟩ := p
                simp only at c0 c1 l1 l2' l3
                clear hcell hlow q0 q1 q2
                have ra : Int.tmod (pa : Int) 8 = ((pa % 8 : Nat) : Int) := by rw [Int.tmod_eq_emod_of_nonneg (by omega)]; omega
                have rb : Int.tmod (pb : Int) 8 = ((pb % 8 : Nat) : Int) := by rw [Int.tmod_eq_emod_of_nonneg (by omega)]; omega
                have ha8 : pa % 8 < 8 := Nat.mod_lt _ (by omega)
                have hb8 : pb % 8 < 8 := Nat.mod_lt _ (by omega)
                generalize pa % 8 = a at ra ha8
                generalize pb % 8 = b at rb hb8
                have hai : (a : Int) < 8 := by omega
                have hbi : (b : Int) < 8 := by omega
                have ct : wi.cell? ⟨X, a * 8 + b, none⟩ = some (.bool (mG m a b)) := by rw [HS.out.2.1.cell, mV_get _ _ (by rw [HS.out.2.2.2.ml]; omega)]; rfl
                have HSK : Hid (∀ W, Below wi.heap.size wi W → AccS w N bn bl X Y sN m t W) := Lib.hid fun W hW => HS.out.far hW
                by_cases hge : b ≤ a
                · have hgei : (b : Int) ≤ (a : Int) := by omega
                  clear ct
                  go_wp2_with fail
                  go_quiet (fail)
                  go_wp2_with fail
                  go_roundw
                  case rel => exact ⟨k + 1, _, _, _, by omega, by omega, by go_num, HSK.out _ (Qw.below ⟨_, rfl⟩ _)⟩
                  case measure => simp [intOf]; omega
                · have hgei : ¬ (b : Int) ≤ (a : Int) := by omega
                  obtain ⟨mg, hmg⟩ : ∃ q, q = mG m a b := ⟨_, rfl⟩
                  have HMG := Lib.hid hmg
                  rw [← hmg] at ct
                  clear hmg
                  cases mg with
                  | true =>
                    go_wp2_with fail
                    go_quiet (fail)
                    go_wp2_with fail
                    go_roundw
                    case rel => exact ⟨k + 1, _, _, _, by omega, by omega, by go_num, HSK.out _ (Qw.below ⟨_, rfl⟩ _)⟩
                    case measure => simp [intOf]; omega
                  | false =>
 have HAB : Hid (a < b ∧ b < 8) := Lib.hid ⟨by omega, hb8⟩
 have HLA : Hid ((nm a).length ≤ maxLen) := Lib.hid (by have := (named_len (nm_named a ha8)).2; unfold maxLen; omega)
 have HLB : Hid ((nm b).length ≤ maxLen) := Lib.hid (by have := (named_len (nm_named b hb8)).2; unfold maxLen; omega)
 have HA8 := Lib.hid ha8; have HB8 := Lib.hid hb8
 obtain ⟨r7, hr7⟩ : ∃ r7 : Int, Int.tmod (pv : Int) 7 = r7 := ⟨_, rfl⟩
 have hr70 : 0 ≤ r7 ∧ r7 ≤ 6 := by rw [← hr7, Int.tmod_eq_emod_of_nonneg (by omega)]; omega
 obtain ⟨ev, hev⟩ : ∃ ev : Int, 1 + r7 = ev := ⟨_, rfl⟩
 have hwv : IntKind.i64.wrap (pv : Int) = pv := by simp [IntKind.wrap, IntKind.bits, IntKind.signed]; omega
 have hwg : IntKind.i64.wrap (a1 : Int) = a1 := by have := HGA.out; simp [IntKind.wrap, IntKind.bits, IntKind.signed]; omega
 have hwr : IntKind.i64.wrap r7 = r7 := by simp [IntKind.wrap, IntKind.bits, IntKind.signed]; omega
 have hwe : IntKind.i64.wrap ev = ev := by simp [IntKind.wrap, IntKind.bits, IntKind.signed]; omega
 have HEV : Hid (1 ≤ ev ∧ ev ≤ 7) := Lib.hid ⟨by omega, by omega⟩
 have HPV : Hid (0 ≤ (pv : Int) ∧ (pv : Int) ≤ 255) := Lib.hid ⟨by omega, by omega⟩
 have HLE := Lib.hid (HS.out.2.2.2.linkE HAB.out.1 HAB.out.2 HMG.out.symm HPV.out HGA.out HEV.out).1
 have HAI := Lib.hid (HS.out.2.2.2.step HAB.out.1 HAB.out.2 HMG.out.symm HPV.out HGA.out HEV.out)
 have HLS : Hid (linkS sN (nm a) (nm b) pv 300 a1 ev = accL sN a b pv a1 ev) := Lib.hid (by unfold linkS; rw [if_pos HLE.out]; rfl)
 clear hr70
 go_upto_region 14 with fail
 go_quiet (fail)
 go_upto_region 14 with fail
 have HD := Lib.hid (HS.out.far (Qw.below (⟨nq, rfl⟩ : Qw wi (wi.drewN nq)) _))
 clear ct c0 c1
 generalize wi.drewN nq = w5 at HD ⊢
 have cx : w5.cell? ⟨X, a * 8 + b, none⟩ = some (.bool (mG m a b)) := by rw [HD.out.2.1.cell, mV_get _ _ (by rw [HD.out.2.2.2.ml]; omega)]; rfl
 have fx := HD.out.2.1.froz (a * 8 + b)
 go_upto_region 15 with fail
 clear cx fx
 obtain ⟨w6, hw6⟩ : ∃ z, z = w5.setCell ⟨X, a * 8 + b, none⟩ (.bool true) := ⟨_, rfl⟩
 have HK6 : Hid (KeepL [X] w5 w6) := Lib.hid (by rw [hw6]; exact KeepL.set _ _ _ _)
 have HN6 := Lib.hid (HD.out.1.tableB HD.out.2.1 HK6.out HX.out)
 have HX6 : Hid (Bk w6 X (mV (m.set (a * 8 + b) true)) 31) := Lib.hid (by rw [hw6, ← mV_set]; exact HD.out.2.1.set _ _)
 have HY6 := Lib.hid (HD.out.2.2.1.keepL HK6.out (Bk.apart HD.out.2.1 HD.out.2.2.1 (by decide)))
 rw [← hw6]
 have HTLEN := Lib.hid HD.out.2.2.2.tl
 clear hw6 HK6 HD HS HSK
 have LOW := Lib.hid (bnextK HN6.out.2.1 (Qw.below (⟨1, rfl⟩ : Qw w6 w6.drew) _))
 have cy : w6.cell? ⟨Y, a * 8 + b, none⟩ = some (.int .i64 (stG t a b)) := by rw [HY6.out.cell, stV_get _ _ (by rw [HTLEN.out]; omega)]; rfl
 have fy := HY6.out.froz (a * 8 + b)
 refine wp_region_held_drew (S := (fun W => W.cell? ⟨b0, off + k * 3 + 2, none⟩ = some (.int .u8 (pv : Int)))) (by kernel_rfl) ?_ (fun hHeld => ?_)
 · (try dsimp only); exact C2.out _ LOW.out
 refine wpAnyH_take (i := 0) (oi := ⟨some 73, _, _, _, _, _⟩) (v := ?_) rfl (by kernel_rfl) (by kernel_rfl) (by kernel_rfl) (fun _ _ _ h => h) (Or.inl ⟨by rfl, ?_⟩) (by assumption) ?_; rotate_left
 · intro w hSw; (try dsimp only at hSw); go_simp; try with_reducible rfl
 try simp only [Act.put, setIfInBounds_toArray, set_cons_zero, set_cons_succ]
 refine wpAnyH_take (i := 1) (oi := ⟨some 74, _, _, _, _, _⟩) (v := ?_) rfl (by kernel_rfl) (by kernel_rfl) (by kernel_rfl) (fun _ _ _ h => h) (Or.inl ⟨by rfl, ?_⟩) (by assumption) ?_; rotate_left
 · intro w hSw; (try dsimp only at hSw); go_simp; try with_reducible rfl
 try simp only [Act.put, setIfInBounds_toArray, set_cons_zero, set_cons_succ]
 refine wpAnyH_take (i := 2) (oi := ⟨some 75, _, _, _, _, _⟩) (v := ?_) rfl (by kernel_rfl) (by kernel_rfl) (by kernel_rfl) (fun _ _ _ h => h) (Or.inl ⟨by rfl, ?_⟩) (by assumption) ?_; rotate_left
 · intro w hSw; (try dsimp only at hSw); go_simp; try with_reducible rfl
 try simp only [Act.put, setIfInBounds_toArray, set_cons_zero, set_cons_succ]
 refine wpAnyH_take (i := 3) (oi := ⟨some 76, _, _, _, _, _⟩) (v := ?_) rfl (by kernel_rfl) (by kernel_rfl) (by kernel_rfl) (fun _ _ _ h => h) (Or.inl ⟨by rfl, ?_⟩) (by assumption) ?_; rotate_left
 · intro w hSw; (try dsimp only at hSw); go_simp; try with_reducible rfl
 try simp only [Act.put, setIfInBounds_toArray, set_cons_zero, set_cons_succ]
 refine wpAnyH_take (i := 4) (oi := ⟨some 77, _, _, _, _, _⟩) (v := ?_) rfl (by kernel_rfl) (by kernel_rfl) (by kernel_rfl) (fun _ _ _ h => h) (Or.inl ⟨by rfl, ?_⟩) (by assumption) ?_; rotate_left
 · intro w hSw; (try dsimp only at hSw); go_simp; try with_reducible rfl
 try simp only [Act.put, setIfInBounds_toArray, set_cons_zero, set_cons_succ]
 refine wpAnyH_take (i := 5) (oi := ⟨some 78, _, _, _, _, _⟩) (v := ?_) rfl (by kernel_rfl) (by kernel_rfl) (by kernel_rfl) (fun _ _ _ h => h) (Or.inl ⟨by rfl, ?_⟩) (by assumption) ?_; rotate_left
 · intro w hSw; (try dsimp only at hSw); go_simp; try with_reducible rfl
 try simp only [Act.put, setIfInBounds_toArray, set_cons_zero, set_cons_succ]
 refine wpAnyH_take (i := 6) (oi := ⟨some 79, _, _, _, _, _⟩) (v := ?_) rfl (by kernel_rfl) (by kernel_rfl) (by kernel_rfl) (fun _ _ _ h => h) (Or.inl ⟨by rfl, ?_⟩) (by assumption) ?_; rotate_left
 · intro w hSw; (try dsimp only at hSw); go_simp; try with_reducible rfl
 try simp only [Act.put, setIfInBounds_toArray, set_cons_zero, set_cons_succ]
 refine wpAnyH_take (i := 7) (oi := ⟨some 80, _, _, _, _, _⟩) (v := ?_) rfl (by kernel_rfl) (by kernel_rfl) (by kernel_rfl) (fun _ _ _ h => h) (Or.inl ⟨by rfl, ?_⟩) (by assumption) ?_; rotate_left
 · intro w hSw; (try dsimp only at hSw); go_simp; try with_reducible rfl
 try simp only [Act.put, setIfInBounds_toArray, set_cons_zero, set_cons_succ]
 refine wpAnyH_take (i := 8) (oi := ⟨some 81, _, _, _, _, _⟩) (v := ?_) rfl (by kernel_rfl) (by kernel_rfl) (by kernel_rfl) (fun _ _ _ h => h) (Or.inl ⟨by rfl, ?_⟩) (by assumption) ?_; rotate_left
 · intro w hSw; (try dsimp only at hSw); go_simp; try with_reducible rfl
 try simp only [Act.put, setIfInBounds_toArray, set_cons_zero, set_cons_succ]
 refine wpAnyH_take (i := 9) (oi := ⟨some 82, _, _, _, _, _⟩) (v := ?_) rfl (by kernel_rfl) (by kernel_rfl) (by kernel_rfl) (fun _ _ _ h => h) (Or.inl ⟨by rfl, ?_⟩) (by assumption) ?_; rotate_left
 · intro w hSw; (try dsimp only at hSw); go_simp; try with_reducible rfl
 try simp only [Act.put, setIfInBounds_toArray, set_cons_zero, set_cons_succ]
 refine wpAnyH_ready (rs := [10]) (by kernel_rfl) (by simp) ?_
 refine AllReadyH.cons (o := ⟨none, _, _, _, _, _⟩) rfl (fun K hK => ?_) AllReadyH.nil
 go_simp
 obtain ⟨w7, hw7⟩ : ∃ z, z = (w6.setCell ⟨Y, a * 8 + b, none⟩ (.int .i64 (pv : Int))).drew := ⟨_, rfl⟩
 have HK7 : Hid (KeepL [Y] w6 w7) := Lib.hid (by rw [hw7]; exact (KeepL.set _ _ _ _).trans (KeepL.q ⟨1, rfl⟩))
 have HN7 := Lib.hid (HN6.out.tableT HY6.out HK7.out HY.out)
 have HX7 := Lib.hid (HX6.out.keepL HK7.out (Bk.apart HY6.out HX6.out (by decide)))
 have HY7 : Hid (Bk w7 Y (stV (t.set (a * 8 + b) pv)) 33) := Lib.hid (by rw [hw7, ← stV_set]; exact HY6.out.set _ _)
 rw [← hw7]
 clear hw7
 have LOW := Lib.hid HN7.out.2.1
 refine hK.out _ _ ?_ (fun hHeld => ?_)
 · (try dsimp only); exact C2.out _ LOW.out
 clear hK K
 try simp only [Act.put]
 refine wpAnyH_done (by kernel_rfl) ?_ _
 go_wp2_with fail
 have NOW0 : Hid (Below w7.heap.size w7 w7.drew) := Lib.hid (Qw.below ⟨1, rfl⟩ _)
 have LOW := Lib.hid (HN7.out.far NOW0.out).2.1
 refine wp_region_held_drew (S := (fun W => W.cell? ⟨b0, off + k * 3 + 2, none⟩ = some (.int .u8 (pv : Int)))) (by kernel_rfl) ?_ (fun hHeld => ?_)
 · (try dsimp only); exact C2.out _ LOW.out
 refine wpAnyH_take (i := 0) (oi := ⟨some 83, _, _, _, _, _⟩) (v := ?_) rfl (by kernel_rfl) (by kernel_rfl) (by kernel_rfl) (fun _ _ _ h => h) (Or.inl ⟨by rfl, ?_⟩) (by assumption) ?_; rotate_left
 · intro w hSw; (try dsimp only at hSw); go_simp; try with_reducible rfl
 try simp only [Act.put, setIfInBounds_toArray, set_cons_zero, set_cons_succ]
 refine wpAnyH_take (i := 2) (oi := ⟨some 85, _, _, _, _, _⟩) (v := ?_) rfl (by kernel_rfl) (by kernel_rfl) (by kernel_rfl) (fun _ _ _ h => h) (Or.inl ⟨by rfl, ?_⟩) (by assumption) ?_; rotate_left
 · intro w hSw; (try dsimp only at hSw); go_simp; try with_reducible rfl
 try simp only [Act.put, setIfInBounds_toArray, set_cons_zero, set_cons_succ]
 refine wpAnyH_take (i := 6) (oi := ⟨some 89, _, _, _, _, _⟩) (v := ?_) rfl (by kernel_rfl) (by kernel_rfl) (by kernel_rfl) (fun _ _ _ h => h) (Or.inl ⟨by rfl, ?_⟩) (by assumption) ?_; rotate_left
 · intro w hSw; (try dsimp only at hSw); go_simp; try with_reducible rfl
 try simp only [Act.put, setIfInBounds_toArray, set_cons_zero, set_cons_succ]
 refine wpAnyH_take (i := 9) (oi := ⟨some 92, _, _, _, _, _⟩) (v := ?_) rfl (by kernel_rfl) (by kernel_rfl) (by kernel_rfl) (fun _ _ _ h => h) (Or.inl ⟨by rfl, ?_⟩) (by assumption) ?_; rotate_left
 · intro w hSw; (try dsimp only at hSw); go_simp; try with_reducible rfl
 try simp only [Act.put, setIfInBounds_toArray, set_cons_zero, set_cons_succ]
 refine wpAnyH_take (i := 10) (oi := ⟨some 93, _, _, _, _, _⟩) (v := ?_) rfl (by kernel_rfl) (by kernel_rfl) (by kernel_rfl) (fun _ _ _ h => h) (Or.inl ⟨by rfl, ?_⟩) (by assumption) ?_; rotate_left
 · intro w hSw; (try dsimp only at hSw); go_simp; try with_reducible rfl
 try simp only [Act.put, setIfInBounds_toArray, set_cons_zero, set_cons_succ]
 refine wpAnyH_take (i := 11) (oi := ⟨some 94, _, _, _, _, _⟩) (v := ?_) rfl (by kernel_rfl) (by kernel_rfl) (by kernel_rfl) (fun _ _ _ h => h) (Or.inl ⟨by rfl, ?_⟩) (by assumption) ?_; rotate_left
 · intro w hSw; (try dsimp only at hSw); go_simp; try with_reducible rfl
 try simp only [Act.put, setIfInBounds_toArray, set_cons_zero, set_cons_succ]
 refine wpAnyH_take (i := 12) (oi := ⟨some 95, _, _, _, _, _⟩) (v := ?_) rfl (by kernel_rfl) (by kernel_rfl) (by kernel_rfl) (fun _ _ _ h => h) (Or.inl ⟨by rfl, ?_⟩) (by assumption) ?_; rotate_left
 · intro w hSw; (try dsimp only at hSw); go_simp; try with_reducible rfl
 try simp only [Act.put, setIfInBounds_toArray, set_cons_zero, set_cons_succ]
 refine wpAnyH_take (i := 13) (oi := ⟨some 96, _, _, _, _, _⟩) (v := ?_) rfl (by kernel_rfl) (by kernel_rfl) (by kernel_rfl) (fun _ _ _ h => h) (Or.inl ⟨by rfl, ?_⟩) (by assumption) ?_; rotate_left
 · intro w hSw; (try dsimp only at hSw); go_simp; try with_reducible rfl
 try simp only [Act.put, setIfInBounds_toArray, set_cons_zero, set_cons_succ]
 refine wpAnyH_take (i := 14) (oi := ⟨some 97, _, _, _, _, _⟩) (v := ?_) rfl (by kernel_rfl) (by kernel_rfl) (by kernel_rfl) (fun _ _ _ h => h) (Or.inl ⟨by rfl, ?_⟩) (by assumption) ?_; rotate_left
 · intro w hSw; (try dsimp only at hSw); go_simp; try with_reducible rfl
 try simp only [Act.put, setIfInBounds_toArray, set_cons_zero, set_cons_succ]
 refine wpAnyH_take (i := 15) (oi := ⟨some 98, _, _, _, _, _⟩) (v := ?_) rfl (by kernel_rfl) (by kernel_rfl) (by kernel_rfl) (fun _ _ _ h => h) (Or.inl ⟨by rfl, ?_⟩) (by assumption) ?_; rotate_left
 · intro w hSw; (try dsimp only at hSw); go_simp; try with_reducible rfl
 try simp only [Act.put, setIfInBounds_toArray, set_cons_zero, set_cons_succ]
 refine wpAnyH_take (i := 16) (oi := ⟨some 99, _, _, _, _, _⟩) (v := ?_) rfl (by kernel_rfl) (by kernel_rfl) (by kernel_rfl) (fun _ _ _ h => h) (Or.inl ⟨by rfl, ?_⟩) (by assumption) ?_; rotate_left
 · intro w hSw; (try dsimp only at hSw); go_simp; try with_reducible rfl
 try simp only [Act.put, setIfInBounds_toArray, set_cons_zero, set_cons_succ]
 refine wpAnyH_take (i := 17) (oi := ⟨some 100, _, _, _, _, _⟩) (v := ?_) rfl (by kernel_rfl) (by kernel_rfl) (by kernel_rfl) (fun _ _ _ h => h) (Or.inl ⟨by rfl, ?_⟩) (by assumption) ?_; rotate_left
 · intro w hSw; (try dsimp only at hSw); go_simp; try with_reducible rfl
 try simp only [Act.put, setIfInBounds_toArray, set_cons_zero, set_cons_succ]
 refine wpAnyH_take (i := 18) (oi := ⟨some 101, _, _, _, _, _⟩) (v := ?_) rfl (by kernel_rfl) (by kernel_rfl) (by kernel_rfl) (fun _ _ _ h => h) (Or.inl ⟨by rfl, ?_⟩) (by assumption) ?_; rotate_left
 · intro w hSw; (try dsimp only at hSw); go_simp; try with_reducible rfl
 try simp only [Act.put, setIfInBounds_toArray, set_cons_zero, set_cons_succ]
 refine wpAnyH_take (i := 19) (oi := ⟨some 102, _, _, _, _, _⟩) (v := ?_) rfl (by kernel_rfl) (by kernel_rfl) (by kernel_rfl) (fun _ _ _ h => h) (Or.inl ⟨by rfl, ?_⟩) (by assumption) ?_; rotate_left
 · intro w hSw; (try dsimp only at hSw); go_simp; try with_reducible rfl
 try simp only [Act.put, setIfInBounds_toArray, set_cons_zero, set_cons_succ]
 refine wpAnyH_take (i := 20) (oi := ⟨some 103, _, _, _, _, _⟩) (v := ?_) rfl (by kernel_rfl) (by kernel_rfl) (by kernel_rfl) (fun _ _ _ h => h) (Or.inl ⟨by rfl, ?_⟩) (by assumption) ?_; rotate_left
 · intro w hSw; (try dsimp only at hSw); go_simp; try with_reducible rfl
 try simp only [Act.put, setIfInBounds_toArray, set_cons_zero, set_cons_succ]
 refine wpAnyH_take (i := 21) (oi := ⟨some 104, _, _, _, _, _⟩) (v := ?_) rfl (by kernel_rfl) (by kernel_rfl) (by kernel_rfl) (fun _ _ _ h => h) (Or.inl ⟨by rfl, ?_⟩) (by assumption) ?_; rotate_left
 · intro w hSw; (try dsimp only at hSw); go_simp; try with_reducible rfl
 try simp only [Act.put, setIfInBounds_toArray, set_cons_zero, set_cons_succ]
 refine wpAnyH_take (i := 22) (oi := ⟨some 105, _, _, _, _, _⟩) (v := ?_) rfl (by kernel_rfl) (by kernel_rfl) (by kernel_rfl) (fun _ _ _ h => h) (Or.inl ⟨by rfl, ?_⟩) (by assumption) ?_; rotate_left
 · intro w hSw; (try dsimp only at hSw); go_simp; try with_reducible rfl
 try simp only [Act.put, setIfInBounds_toArray, set_cons_zero, set_cons_succ]
 refine wpAnyH_take (i := 23) (oi := ⟨some 106, _, _, _, _, _⟩) (v := ?_) rfl (by kernel_rfl) (by kernel_rfl) (by kernel_rfl) (fun _ _ _ h => h) (Or.inl ⟨by rfl, ?_⟩) (by assumption) ?_; rotate_left
 · intro w hSw; (try dsimp only at hSw); go_simp; try with_reducible rfl
 try simp only [Act.put, setIfInBounds_toArray, set_cons_zero, set_cons_succ]
 refine wpAnyH_take (i := 24) (oi := ⟨some 107, _, _, _, _, _⟩) (v := ?_) rfl (by kernel_rfl) (by kernel_rfl) (by kernel_rfl) (fun _ _ _ h => h) (Or.inl ⟨by rfl, ?_⟩) (by assumption) ?_; rotate_left
 · intro w hSw; (try dsimp only at hSw); go_simp; try with_reducible rfl
 try simp only [Act.put, setIfInBounds_toArray, set_cons_zero, set_cons_succ]
 refine wpAnyH_take (i := 25) (oi := ⟨some 108, _, _, _, _, _⟩) (v := ?_) rfl (by kernel_rfl) (by kernel_rfl) (by kernel_rfl) (fun _ _ _ h => h) (Or.inl ⟨by rfl, ?_⟩) (by assumption) ?_; rotate_left
 · intro w hSw; (try dsimp only at hSw); go_simp; try with_reducible rfl
 try simp only [Act.put, setIfInBounds_toArray, set_cons_zero, set_cons_succ]
 refine wpAnyH_ready (rs := [1]) (by kernel_rfl) (by simp) ?_
 refine AllReadyH.cons (o := ⟨some 84, _, _, _, _, _⟩) rfl (fun K hK => ?_) AllReadyH.nil
 go_simp
 refine (names_any _).mono ?_
 rintro e w8 ⟨rfl, hw8⟩
 obtain ⟨f8, b8⟩ := names_fact hw8
 have x8 : w8.cell? ⟨w7.heap.size, a, none⟩ = some (encS (nm a)) := f8 a HA8.out
 have NOW := Lib.hid (bnextK NOW0.out b8)
 have LOW := Lib.hid (HN7.out.far NOW.out).2.1
 clear hw8 f8 b8
 go_wp2_with fail
 refine hK.out _ _ ?_ (fun hHeld => ?_)
 · (try dsimp only); exact C2.out _ LOW.out
 clear hK K
 try simp only [Act.put, setIfInBounds_toArray, set_cons_zero, set_cons_succ]
 refine wpAnyH_take (i := 3) (oi := ⟨some 86, _, _, _, _, _⟩) (v := ?_) rfl (by kernel_rfl) (by kernel_rfl) (by kernel_rfl) (fun _ _ _ h => h) (Or.inl ⟨by rfl, ?_⟩) (by assumption) ?_; rotate_left
 · intro w hSw; (try dsimp only at hSw); go_simp; try with_reducible rfl
 try simp only [Act.put, setIfInBounds_toArray, set_cons_zero, set_cons_succ]
 refine wpAnyH_ready (rs := [4, 5]) (by kernel_rfl) (by simp) ?_
 refine AllReadyH.cons (o := ⟨some 87, _, _, _, _, _⟩) rfl (fun K hK => ?_) ?_
 · skip
   go_simp
   refine hK.out _ _ ?_ (fun hHeld => ?_)
   · (try dsimp only); exact C2.out _ LOW.out
   clear hK K
   try simp only [Act.put, setIfInBounds_toArray, set_cons_zero, set_cons_succ]
   refine wpAnyH_ready (rs := [5]) (by kernel_rfl) (by simp) ?_
   refine AllReadyH.cons (o := ⟨some 88, _, _, _, _, _⟩) rfl (fun K hK => ?_) AllReadyH.nil
   go_simp
   refine (names_any _).mono ?_
   rintro e w9 ⟨rfl, hw9⟩
   obtain ⟨f9, b9⟩ := names_fact hw9
   have y9 := f9 b HB8.out
   have x8 : w9.cell? ⟨w7.heap.size, a, none⟩ = some (encS (nm a)) := (b9.cell (p := ⟨w7.heap.size, a, none⟩) (cell_ltO x8)).trans x8
   have NOW := Lib.hid (bnextK NOW.out b9)
   have LOW := Lib.hid (HN7.out.far NOW.out).2.1
   clear hw9 f9 b9
   go_wp2_with fail
   refine hK.out _ _ ?_ (fun hHeld => ?_)
   · (try dsimp only); exact C2.out _ LOW.out
   clear hK K
   try simp only [Act.put, setIfInBounds_toArray, set_cons_zero, set_cons_succ]
   refine wpAnyH_take (i := 7) (oi := ⟨some 90, _, _, _, _, _⟩) (v := ?_) rfl (by kernel_rfl) (by kernel_rfl) (by kernel_rfl) (fun _ _ _ h => h) (Or.inl ⟨by rfl, ?_⟩) (by assumption) ?_; rotate_left
   · intro w hSw; (try dsimp only at hSw); go_simp; try with_reducible rfl
   try simp only [Act.put, setIfInBounds_toArray, set_cons_zero, set_cons_succ]
   refine wpAnyH_ready (rs := [8]) (by kernel_rfl) (by simp) ?_
   refine AllReadyH.cons (o := ⟨some 91, _, _, _, _, _⟩) rfl (fun K hK => ?_) AllReadyH.nil
   go_simp
   refine hK.out _ _ ?_ (fun hHeld => ?_)
   · (try dsimp only); exact C2.out _ LOW.out
   clear hK K
   try simp only [Act.put, setIfInBounds_toArray, set_cons_zero, set_cons_succ]
   refine wpAnyH_ready (rs := [26]) (by kernel_rfl) (by simp) ?_
   refine AllReadyH.cons (o := ⟨some 109, _, _, _, _, _⟩) rfl (fun K hK => ?_) AllReadyH.nil
   go_simp
   refine (Link_any (HN7.out.far NOW.out).1 (nm a) (nm b) pv 300 a1 ev HLA.out HLB.out).mono ?_
   rintro e w10 hp
   have HNA := Lib.hid ((HN7.out.far NOW.out).link hp)
   have HXA := Lib.hid ((HN7.out.far NOW.out).blk HNA.out.2 (.inr rfl) (HX7.out.past NOW.out HX7.out.lt))
   have HYA := Lib.hid ((HN7.out.far NOW.out).blk HNA.out.2 (.inr rfl) (HY7.out.past NOW.out HY7.out.lt))
   rw [HLS.out] at HNA
   obtain ⟨z, hz, rfl⟩ := hp.1
   rw [HLE.out] at hz
   subst hz
   have LOW := Lib.hid HNA.out.1.2.1
   clear hp
   go_wp2_with fail
   refine hK.out _ _ ?_ (fun hHeld => ?_)
   · (try dsimp only); exact C2.out _ LOW.out
   clear hK K
   try simp only [Act.put, setIfInBounds_toArray, set_cons_zero, set_cons_succ]
   refine wpAnyH_take (i := 27) (oi := ⟨some 110, _, _, _, _, _⟩) (v := ?_) rfl (by kernel_rfl) (by kernel_rfl) (by kernel_rfl) (fun _ _ _ h => h) (Or.inl ⟨by rfl, ?_⟩) (by assumption) ?_; rotate_left
   · intro w hSw; (try dsimp only at hSw); go_simp; try with_reducible rfl
   try simp only [Act.put, setIfInBounds_toArray, set_cons_zero, set_cons_succ]
   refine wpAnyH_done (by kernel_rfl) ?_ _
   go_wp2_with fail
   go_roundw
   case rel => exact ⟨k + 1, _, _, _, by omega, by omega, by go_num, HNA.out.1, HXA.out, HYA.out, HAI.out⟩
   case measure => simp [intOf]; omega
 refine AllReadyH.cons (o := ⟨some 88, _, _, _, _, _⟩) rfl (fun K hK => ?_) AllReadyH.nil
 go_simp
 refine (names_any _).mono ?_
 rintro e w9 ⟨rfl, hw9⟩
 obtain ⟨f9, b9⟩ := names_fact hw9
 have y9 := f9 b HB8.out
 have x8 : w9.cell? ⟨w7.heap.size, a, none⟩ = some (encS (nm a)) := (b9.cell (p := ⟨w7.heap.size, a, none⟩) (cell_ltO x8)).trans x8
 have NOW := Lib.hid (bnextK NOW.out b9)
 have LOW := Lib.hid (HN7.out.far NOW.out).2.1
 clear hw9 f9 b9
 go_wp2_with fail
 refine hK.out _ _ ?_ (fun hHeld => ?_)
 · (try dsimp only); exact C2.out _ LOW.out
 clear hK K
 try simp only [Act.put, setIfInBounds_toArray, set_cons_zero, set_cons_succ]
 refine wpAnyH_take (i := 7) (oi := ⟨some 90, _, _, _, _, _⟩) (v := ?_) rfl (by kernel_rfl) (by kernel_rfl) (by kernel_rfl) (fun _ _ _ h => h) (Or.inl ⟨by rfl, ?_⟩) (by assumption) ?_; rotate_left
 · intro w hSw; (try dsimp only at hSw); go_simp; try with_reducible rfl
 try simp only [Act.put, setIfInBounds_toArray, set_cons_zero, set_cons_succ]
 refine wpAnyH_ready (rs := [4, 8]) (by kernel_rfl) (by simp) ?_
 refine AllReadyH.cons (o := ⟨some 87, _, _, _, _, _⟩) rfl (fun K hK => ?_) ?_
 · skip
   go_simp
   refine hK.out _ _ ?_ (fun hHeld => ?_)
   · (try dsimp only); exact C2.out _ LOW.out
   clear hK K
   try simp only [Act.put, setIfInBounds_toArray, set_cons_zero, set_cons_succ]
   refine wpAnyH_ready (rs := [8]) (by kernel_rfl) (by simp) ?_
   refine AllReadyH.cons (o := ⟨some 91, _, _, _, _, _⟩) rfl (fun K hK => ?_) AllReadyH.nil
   go_simp
   refine hK.out _ _ ?_ (fun hHeld => ?_)
   · (try dsimp only); exact C2.out _ LOW.out
   clear hK K
   try simp only [Act.put, setIfInBounds_toArray, set_cons_zero, set_cons_succ]
   refine wpAnyH_ready (rs := [26]) (by kernel_rfl) (by simp) ?_
   refine AllReadyH.cons (o := ⟨some 109, _, _, _, _, _⟩) rfl (fun K hK => ?_) AllReadyH.nil
   go_simp
   refine (Link_any (HN7.out.far NOW.out).1 (nm a) (nm b) pv 300 a1 ev HLA.out HLB.out).mono ?_
   rintro e w10 hp
   have HNA := Lib.hid ((HN7.out.far NOW.out).link hp)
   have HXA := Lib.hid ((HN7.out.far NOW.out).blk HNA.out.2 (.inr rfl) (HX7.out.past NOW.out HX7.out.lt))
   have HYA := Lib.hid ((HN7.out.far NOW.out).blk HNA.out.2 (.inr rfl) (HY7.out.past NOW.out HY7.out.lt))
   rw [HLS.out] at HNA
   obtain ⟨z, hz, rfl⟩ := hp.1
   rw [HLE.out] at hz
   subst hz
   have LOW := Lib.hid HNA.out.1.2.1
   clear hp
   go_wp2_with fail
   refine hK.out _ _ ?_ (fun hHeld => ?_)
   · (try dsimp only); exact C2.out _ LOW.out
   clear hK K
   try simp only [Act.put, setIfInBounds_toArray, set_cons_zero, set_cons_succ]
   refine wpAnyH_take (i := 27) (oi := ⟨some 110, _, _, _, _, _⟩) (v := ?_) rfl (by kernel_rfl) (by kernel_rfl) (by kernel_rfl) (fun _ _ _ h => h) (Or.inl ⟨by rfl, ?_⟩) (by assumption) ?_; rotate_left
   · intro w hSw; (try dsimp only at hSw); go_simp; try with_reducible rfl
   try simp only [Act.put, setIfInBounds_toArray, set_cons_zero, set_cons_succ]
   refine wpAnyH_done (by kernel_rfl) ?_ _
   go_wp2_with fail
   go_roundw
   case rel => exact ⟨k + 1, _, _, _, by omega, by omega, by go_num, HNA.out.1, HXA.out, HYA.out, HAI.out⟩
   case measure => simp [intOf]; omega
 refine AllReadyH.cons (o := ⟨some 91, _, _, _, _, _⟩) rfl (fun K hK => ?_) AllReadyH.nil
 go_simp
 refine hK.out _ _ ?_ (fun hHeld => ?_)
 · (try dsimp only); exact C2.out _ LOW.out
 clear hK K
 try simp only [Act.put, setIfInBounds_toArray, set_cons_zero, set_cons_succ]
 refine wpAnyH_ready (rs := [4]) (by kernel_rfl) (by simp) ?_
 refine AllReadyH.cons (o := ⟨some 87, _, _, _, _, _⟩) rfl (fun K hK => ?_) AllReadyH.nil
 go_simp
 refine hK.out _ _ ?_ (fun hHeld => ?_)
 · (try dsimp only); exact C2.out _ LOW.out
 clear hK K
 try simp only [Act.put, setIfInBounds_toArray, set_cons_zero, set_cons_succ]
 refine wpAnyH_ready (rs := [26]) (by kernel_rfl) (by simp) ?_
 refine AllReadyH.cons (o := ⟨some 109, _, _, _, _, _⟩) rfl (fun K hK => ?_) AllReadyH.nil
 go_simp
 refine (Link_any (HN7.out.far NOW.out).1 (nm a) (nm b) pv 300 a1 ev HLA.out HLB.out).mono ?_
 rintro e w10 hp
 have HNA := Lib.hid ((HN7.out.far NOW.out).link hp)
 have HXA := Lib.hid ((HN7.out.far NOW.out).blk HNA.out.2 (.inr rfl) (HX7.out.past NOW.out HX7.out.lt))
 have HYA := Lib.hid ((HN7.out.far NOW.out).blk HNA.out.2 (.inr rfl) (HY7.out.past NOW.out HY7.out.lt))
 rw [HLS.out] at HNA
 obtain ⟨z, hz, rfl⟩ := hp.1
 rw [HLE.out] at hz
 subst hz
 have LOW := Lib.hid HNA.out.1.2.1
 clear hp
 go_wp2_with fail
 refine hK.out _ _ ?_ (fun hHeld => ?_)
 · (try dsimp only); exact C2.out _ LOW.out
 clear hK K
 try simp only [Act.put, setIfInBounds_toArray, set_cons_zero, set_cons_succ]
 refine wpAnyH_take (i := 27) (oi := ⟨some 110, _, _, _, _, _⟩) (v := ?_) rfl (by kernel_rfl) (by kernel_rfl) (by kernel_rfl) (fun _ _ _ h => h) (Or.inl ⟨by rfl, ?_⟩) (by assumption) ?_; rotate_left
 · intro w hSw; (try dsimp only at hSw); go_simp; try with_reducible rfl
 try simp only [Act.put, setIfInBounds_toArray, set_cons_zero, set_cons_succ]
 refine wpAnyH_done (by kernel_rfl) ?_ _
 go_wp2_with fail
 go_roundw
 case rel => exact ⟨k + 1, _, _, _, by omega, by omega, by go_num, HNA.out.1, HXA.out, HYA.out, HAI.out⟩
 case measure => simp [intOf]; omega
              · have hki4 : ¬ (k : Int) < 30 := by omega
                go_wp2_with fail
                go_meet
                exact ⟨_, _, _, HS.out⟩
            · have hki : ¬ (k : Int) < (n0 : Int) := by omega
              go_wp2_with fail
              go_meet
              exact ⟨_, _, _, HS.out⟩
        case rest => as_aux_lemma =>
          obtain ⟨w5, rfl⟩ : ∃ z : World, z = wc := ⟨_, rfl⟩
          obtain ⟨sN, m, t, hs⟩ := hcut
          have HB0 : Hid (AccB w N X Y m sN t sN.now 8 0 w5) := Lib.hid ⟨hs.1.netB hs.2.2.2.ni, hs.2.1, hs.2.2.1, hs.2.2.2.tab, hs.1.2.1⟩
          clear hs HS0
          go_wp2_with fail
          go_loopw [14, 15, 16, 17, 18, 19, 20] (fun i _ _ _ _ _ _ wr => ∃ (k : Nat) (s : NS) (t : List Int) (now : Int), k ≤ n2 ∧ k ≤ 60 ∧ i = .int .i64 k ∧ AccB w N X Y m s t now 8 0 wr) (fun i _ _ _ _ _ _ _ => 60 - (intOf i).toNat)
          case atStart => exact ⟨0, _, _, _, Nat.zero_le _, by omega, rfl, HB0.out⟩
          case round =>
            obtain ⟨k, s, t, now, hk, hk60, rfl, hb⟩ := hrel
            obtain ⟨wi, rfl⟩ : ∃ z : World, z = wr := ⟨_, rfl⟩
            have HB := Lib.hid hb
            clear hb HB0
            by_cases hkn : k < n2
            · have hki : (k : Int) < (n2 : Int) := by omega
              by_cases hk4 : k < 60
              · have hki4 : (k : Int) < 60 := by omega
                obtain ⟨x, hx⟩ : ∃ x, l2[k]? = some x := ⟨_, List.getElem?_eq_getElem (by omega)⟩
                obtain ⟨b9, off9, rfl, c0, c1, c2, c3, c4, c5, c6, c7, c8, c9, c10, c11, c12⟩ := acts_at ((HRD2.out.below HB.out.2.2.2.2)) hx hkn
                have HCA : Hid (Calls Tryz.prog 9 #[.pointer (some ⟨N, 0, none⟩), .agg #[.int .u8 (x.d : Int), encS x.a, encS x.b, x.l1, x.l2, x.l3, x.l4, .int .i64 x.n, .int .i64 x.k, .int .i64 x.need, .int .i64 x.til, .slice x.s.A x.s.n x.s.c, .slice x.c.A x.c.n x.c.c]] wi (CallP w.heap.size N s wi)) := Lib.hid (call_any HB.out.1 x ((HRAW2.out x (List.mem_of_getElem? hx)).far HB.out.2.2.2.2))
                have HNW := Lib.hid (now_net HB.out.1)
                clear hx
                go_wp2_with fail
                refine HNW.out.mono ?_
                clear HNW
                rintro e w9 ⟨rfl, rfl⟩
                go_wp2_with fail
                refine HCA.out.mono ?_
                clear HCA c0 c1 c2 c3 c4 c5 c6 c7 c8 c9 c10 c11 c12
                rintro e w3 ⟨rfl, s', hst', hnx⟩
                have HB3 := Lib.hid (HB.out.call hst' hnx)
                clear hst' hnx HB
                obtain ⟨now0, hnow⟩ : ∃ z, z = s.now := ⟨_, rfl⟩
                rw [← hnow] at HB3 ⊢
                clear hnow
                go_wp2_with fail
                go_loopw [16, 17, 18, 19, 20] (fun i _ _ _ _ wr => ∃ (a : Nat) (t : List Int), a ≤ 8 ∧ i = .int .i64 a ∧ AccB w N X Y m s' t now0 a 0 wr) (fun i _ _ _ _ _ => 8 - (intOf i).toNat)
                case atStart => exact ⟨0, _, by omega, rfl, HB3.out⟩
                case round =>
                  obtain ⟨a, t, ha, rfl, hba⟩ := hrel
                  obtain ⟨wa, rfl⟩ : ∃ z : World, z = wr := ⟨_, rfl⟩
                  have HBA := Lib.hid hba
                  clear hba HB3
                  by_cases ha8 : a < 8
                  · have hai : (a : Int) < 8 := by omega
                    have HA8 := Lib.hid ha8
                    go_wp2_with fail
                    go_loopw [17, 18, 19, 20] (fun i _ _ _ wr => ∃ (b : Nat) (t : List Int), a < b ∧ b ≤ 8 ∧ i = .int .i64 b ∧ AccB w N X Y m s' t now0 a b wr) (fun i _ _ _ _ => 8 - (intOf i).toNat)
                    case atStart => exact ⟨a + 1, _, by omega, by omega, by go_num, HBA.out.to AccT.inn⟩
                    case round =>
                      obtain ⟨b, t, hab, hb, rfl, hbb⟩ := hrel
                      obtain ⟨wb, rfl⟩ : ∃ z : World, z = wr := ⟨_, rfl⟩
                      have HBB := Lib.hid hbb
                      clear hbb HBA
                      by_cases hb8 : b < 8
                      · have hbi : (b : Int) < 8 := by omega
                        have HB8 := Lib.hid hb8
                        have cm : wb.cell? ⟨X, a * 8 + b, none⟩ = some (.bool (mG m a b)) := by rw [HBB.out.2.1.cell, mV_get _ _ (by rw [HBB.out.2.2.2.1.ml]; omega)]; rfl
                        obtain ⟨mg, hmg⟩ : ∃ q, q = mG m a b := ⟨_, rfl⟩
                        have HMG := Lib.hid hmg
                        rw [← hmg] at cm
                        clear hmg
                        cases mg with
                        | false =>
                          go_wp2_with fail
                          go_roundw
                          case rel => exact ⟨b + 1, _, by omega, by omega, by go_num, HBB.out.to fun h => h.skip HMG.out.symm⟩
                          case measure => simp [intOf]; omega
                        | true =>
 obtain ⟨hse, x, hx, hf, hh, hsp, hcap, hhe, hsm, htt, hle, heq⟩ := HBB.out.2.2.2.1.ask HBB.out.1.ok HBB.out.1.ni hab hb8 HMG.out.symm
 obtain ⟨f, hl, sp, e1, e2, e3⟩ : ∃ f hl sp : Int, f = x.free ∧ hl = x.held ∧ sp = x.spent := ⟨_, _, _, rfl, rfl, rfl⟩
 rw [← e1] at hf; rw [← e2] at hh; rw [← e3] at hsp; rw [← e1, ← e2] at hcap; rw [← e2] at hhe; rw [← e1, ← e2, ← e3] at hsm htt hle heq
 rw [hx] at e1 e2 e3
 obtain ⟨fh, hfh⟩ : ∃ z, f + hl = z := ⟨_, rfl⟩
 rw [hfh] at hcap hsm htt hle heq
 obtain ⟨sm, hsmm⟩ : ∃ z, fh + sp = z := ⟨_, rfl⟩
 rw [hsmm] at hsm htt hle heq
 have HTOT := Lib.hid htt
 have HEQ := Lib.hid heq
 have HLE := Lib.hid hle
 have hf0 : ¬ f < 0 := by omega
 have hh0 : ¬ hl < 0 := by omega
 have hs0 : ¬ sp < 0 := by omega
 have hc0 : ¬ 300 < fh := by omega
 have hb63 : (-9223372036854775808 ≤ fh ∧ fh < 9223372036854775808) ∧ (-9223372036854775808 ≤ sm ∧ sm < 9223372036854775808) := by omega
 have HW1 : Hid (IntKind.i64.wrap fh = fh) := Lib.hid (by have := hb63.1; simp [IntKind.wrap, IntKind.bits, IntKind.signed]; omega)
 have HW2 : Hid (IntKind.i64.wrap sm = sm) := Lib.hid (by have := hb63.2; simp [IntKind.wrap, IntKind.bits, IntKind.signed]; omega)
 have HLA : Hid ((nm a).length ≤ maxLen) := Lib.hid (by have := (named_len (nm_named a HA8.out)).2; unfold maxLen; omega)
 have HLB : Hid ((nm b).length ≤ maxLen) := Lib.hid (by have := (named_len (nm_named b HB8.out)).2; unfold maxLen; omega)
 have HSTK : Hid (∀ W, Below wb.heap.size wb W → Calls Tryz.prog 10 #[.pointer (some ⟨N, 0, none⟩), encS (nm a), encS (nm b)] W fun e w' => e = .returned (.tuple #[.agg #[.int .i64 f, .int .i64 hl, .int .i64 sp], .int .i64 0]) ∧ Below W.heap.size W w') := Lib.hid fun W hW => stock_ok (HBB.out.1.far hW) _ _ HLA.out HLB.out hse e1 e2 e3
 have HHD : Hid (∀ W, Below wb.heap.size wb W → Calls Tryz.prog 11 #[.pointer (some ⟨N, 0, none⟩), encS (nm a), encS (nm b)] W fun e w' => e = .returned (.int .i64 hl) ∧ Below W.heap.size W w') := Lib.hid fun W hW => held_ok (HBB.out.1.far hW) _ _ hhe
 have HFH := Lib.hid hfh; have HSM := Lib.hid hsmm
 clear hse hx hf hh hsp hcap hhe hsm htt hle heq e1 e2 e3 hb63 hfh hsmm
 have HIS : Hid ((Tryz.prog.info? 45).map (·.size) = some (#[.int .i64 f, .int .i64 hl, .int .i64 sp] : Array Value).size) := Lib.hid (by kernel_rfl)
 have HIO : Hid ((#[.int .i64 f, .int .i64 hl, .int .i64 sp] : Array Value).all (·.oneCell') = true) := Lib.hid (by first | kernel_rfl | simp [Value.oneCell'])
 go_upto_region 30 with fail
 clear cm
 have NOW : Hid (Below wb.heap.size wb wb.drew) := Lib.hid (Qw.below ⟨1, rfl⟩ _)
 go_cut [18, 19] from 135 to 232 (fun v18 v19 wc => v19 = .int .i64 0 ∧ ∃ Z, v18 = .pointer (some ⟨Z, 0, none⟩) ∧ Bk wc Z #[.int .i64 f, .int .i64 hl, .int .i64 sp] 45 ∧ Below wb.heap.size wb wc)
 case first => as_aux_lemma =>
  refine wp_region_held_drew (S := (fun _ => True)) (by kernel_rfl) ?_ (fun hHeld => ?_)
  · (try dsimp only); all_goals trivial
  generalize wb.drew = w0 at NOW ⊢
  refine wpAnyH_take (i := 0) (oi := ⟨some 146, _, _, _, _, _⟩) (v := ?_) rfl (by kernel_rfl) (by kernel_rfl) (by kernel_rfl) (fun _ _ _ h => h) (Or.inl ⟨by rfl, ?_⟩) (by assumption) ?_; rotate_left
  · intro w hSw; (try dsimp only at hSw); go_simp; try with_reducible rfl
  try simp only [Act.put, setIfInBounds_toArray, set_cons_zero, set_cons_succ]
  refine wpAnyH_take (i := 2) (oi := ⟨some 148, _, _, _, _, _⟩) (v := ?_) rfl (by kernel_rfl) (by kernel_rfl) (by kernel_rfl) (fun _ _ _ h => h) (Or.inl ⟨by rfl, ?_⟩) (by assumption) ?_; rotate_left
  · intro w hSw; (try dsimp only at hSw); go_simp; try with_reducible rfl
  try simp only [Act.put, setIfInBounds_toArray, set_cons_zero, set_cons_succ]
  refine wpAnyH_take (i := 6) (oi := ⟨some 152, _, _, _, _, _⟩) (v := ?_) rfl (by kernel_rfl) (by kernel_rfl) (by kernel_rfl) (fun _ _ _ h => h) (Or.inl ⟨by rfl, ?_⟩) (by assumption) ?_; rotate_left
  · intro w hSw; (try dsimp only at hSw); go_simp; try with_reducible rfl
  try simp only [Act.put, setIfInBounds_toArray, set_cons_zero, set_cons_succ]
  refine wpAnyH_ready (rs := [1, 13]) (by kernel_rfl) (by simp) ?_
  refine AllReadyH.cons (o := ⟨some 147, _, _, _, _, _⟩) rfl (fun K hK => ?_) ?_
  · skip
    go_simp
    refine (names_any _).mono ?_
    rintro e w3 ⟨rfl, hw3⟩
    obtain ⟨f3, b3⟩ := names_fact hw3
    have x3 : w3.cell? ⟨w0.heap.size, a, none⟩ = some (encS (nm a)) := f3 a HA8.out
    have NOW := Lib.hid (bnextK NOW.out b3)
    clear hw3 f3 b3
    go_wp2_with fail
    refine hK.out _ _ ?_ (fun hHeld => ?_)
    · (try dsimp only); all_goals trivial
    clear hK K
    try simp only [Act.put, setIfInBounds_toArray, set_cons_zero, set_cons_succ]
    refine wpAnyH_take (i := 3) (oi := ⟨some 149, _, _, _, _, _⟩) (v := ?_) rfl (by kernel_rfl) (by kernel_rfl) (by kernel_rfl) (fun _ _ _ h => h) (Or.inl ⟨by rfl, ?_⟩) (by assumption) ?_; rotate_left
    · intro w hSw; (try dsimp only at hSw); go_simp; try with_reducible rfl
    try simp only [Act.put, setIfInBounds_toArray, set_cons_zero, set_cons_succ]
    refine wpAnyH_ready (rs := [4, 5, 13]) (by kernel_rfl) (by simp) ?_
    refine AllReadyH.cons (o := ⟨some 150, _, _, _, _, _⟩) rfl (fun K hK => ?_) ?_
    · skip
      go_simp
      refine hK.out _ _ ?_ (fun hHeld => ?_)
      · (try dsimp only); all_goals trivial
      clear hK K
      try simp only [Act.put, setIfInBounds_toArray, set_cons_zero, set_cons_succ]
      refine wpAnyH_ready (rs := [5, 13]) (by kernel_rfl) (by simp) ?_
      refine AllReadyH.cons (o := ⟨some 151, _, _, _, _, _⟩) rfl (fun K hK => ?_) ?_
      · skip
        go_simp
        refine (names_any _).mono ?_
        rintro e wq ⟨rfl, hw4⟩
        obtain ⟨f4, b3⟩ := names_fact hw4
        have y4 : wq.cell? ⟨w3.heap.size, b, none⟩ = some (encS (nm b)) := f4 b HB8.out
        have x3 : wq.cell? ⟨w0.heap.size, a, none⟩ = some (encS (nm a)) := (b3.cell (p := ⟨w0.heap.size, a, none⟩) (cell_ltO x3)).trans x3
        have NOW := Lib.hid (bnextK NOW.out b3)
        clear hw4 f4 b3
        go_wp2_with fail
        refine hK.out _ _ ?_ (fun hHeld => ?_)
        · (try dsimp only); all_goals trivial
        clear hK K
        try simp only [Act.put, setIfInBounds_toArray, set_cons_zero, set_cons_succ]
        refine wpAnyH_take (i := 7) (oi := ⟨some 153, _, _, _, _, _⟩) (v := ?_) rfl (by kernel_rfl) (by kernel_rfl) (by kernel_rfl) (fun _ _ _ h => h) (Or.inl ⟨by rfl, ?_⟩) (by assumption) ?_; rotate_left
        · intro w hSw; (try dsimp only at hSw); go_simp; try with_reducible rfl
        try simp only [Act.put, setIfInBounds_toArray, set_cons_zero, set_cons_succ]
        refine wpAnyH_ready (rs := [8, 13]) (by kernel_rfl) (by simp) ?_
        refine AllReadyH.cons (o := ⟨some 154, _, _, _, _, _⟩) rfl (fun K hK => ?_) ?_
        · skip
          go_simp
          refine hK.out _ _ ?_ (fun hHeld => ?_)
          · (try dsimp only); all_goals trivial
          clear hK K
          try simp only [Act.put, setIfInBounds_toArray, set_cons_zero, set_cons_succ]
          refine wpAnyH_ready (rs := [9, 13]) (by kernel_rfl) (by simp) ?_
          refine AllReadyH.cons (o := ⟨some 155, _, _, _, _, _⟩) rfl (fun K hK => ?_) ?_
          · skip
            go_simp
            refine (HSTK.out _ NOW.out).mono ?_
            rintro e w5 ⟨rfl, b3⟩
            have NOW := Lib.hid (bnextK NOW.out b3)
            clear b3
            go_wp2_with fail
            refine hK.out _ _ ?_ (fun hHeld => ?_)
            · (try dsimp only); all_goals trivial
            clear hK K
            try simp only [Act.put, setIfInBounds_toArray, set_cons_zero, set_cons_succ]
            refine wpAnyH_take (i := 10) (oi := ⟨some 145, _, _, _, _, _⟩) (v := ?_) rfl (by kernel_rfl) (by kernel_rfl) (by kernel_rfl) (fun _ _ _ h => h) (Or.inl ⟨by rfl, ?_⟩) (by assumption) ?_; rotate_left
            · intro w hSw; (try dsimp only at hSw); go_simp; try with_reducible rfl
            try simp only [Act.put, setIfInBounds_toArray, set_cons_zero, set_cons_succ]
            refine wpAnyH_take (i := 11) (oi := ⟨some 156, _, _, _, _, _⟩) (v := ?_) rfl (by kernel_rfl) (by kernel_rfl) (by kernel_rfl) (fun _ _ _ h => h) (Or.inl ⟨by rfl, ?_⟩) (by assumption) ?_; rotate_left
            · intro w hSw; (try dsimp only at hSw); go_simp; try with_reducible rfl
            try simp only [Act.put, setIfInBounds_toArray, set_cons_zero, set_cons_succ]
            refine wpAnyH_take (i := 12) (oi := ⟨some 157, _, _, _, _, _⟩) (v := ?_) rfl (by kernel_rfl) (by kernel_rfl) (by kernel_rfl) (fun _ _ _ h => h) (Or.inl ⟨by rfl, ?_⟩) (by assumption) ?_; rotate_left
            · intro w hSw; (try dsimp only at hSw); go_simp; try with_reducible rfl
            try simp only [Act.put, setIfInBounds_toArray, set_cons_zero, set_cons_succ]
            refine wpAnyH_ready (rs := [13]) (by kernel_rfl) (by simp) ?_
            refine AllReadyH.cons (o := ⟨some 18, _, _, _, _, _⟩) rfl (fun K hK => ?_) AllReadyH.nil
            go_simp
            obtain ⟨wz, hwz⟩ : ∃ z, z = w5.alloc (.cells #[.int .i64 0, .int .i64 0, .int .i64 0] 45) := ⟨_, rfl⟩
            have bz : Below w5.heap.size w5 wz := by rw [hwz]; exact below_alloc _ _
            have BI : Hid (Bk wz w5.heap.size #[.int .i64 0, .int .i64 0, .int .i64 0] 45) := Lib.hid (by rw [hwz]; exact Bk.new _ _ _)
            have HCA := Lib.hid NOW.out.size
            have NOW := Lib.hid (bnextK NOW.out bz)
            rw [← hwz]
            clear hwz bz
            refine hK.out _ _ ?_ (fun hHeld => ?_)
            · (try dsimp only); all_goals trivial
            clear hK K
            try simp only [Act.put, setIfInBounds_toArray, set_cons_zero, set_cons_succ]
            refine wpAnyH_ready (rs := [14]) (by kernel_rfl) (by simp) ?_
            refine AllReadyH.cons (o := ⟨none, _, _, _, _, _⟩) rfl (fun K hK => ?_) AllReadyH.nil
            refine step_store_row 45 _ _ rfl rfl w5.heap.size #[.int .i64 f, .int .i64 hl, .int .i64 sp] rfl rfl _ _ BI.out HIS.out rfl HIO.out ?_
            have BF := Lib.hid (Bk.setRow BI.out #[.int .i64 f, .int .i64 hl, .int .i64 sp])
            have NOWF := Lib.hid (NOW.out.trans ((keepL_row _ w5.heap.size #[.int .i64 f, .int .i64 hl, .int .i64 sp]).below NOW.out.size (by simpa using HCA.out)))
            refine hK.out _ _ ?_ (fun hHeld => ?_)
            · (try dsimp only); all_goals trivial
            clear hK K
            try simp only [Act.put]
            refine wpAnyH_take (i := 15) (oi := ⟨some 19, _, _, _, _, _⟩) (v := ?_) rfl (by kernel_rfl) (by kernel_rfl) (by kernel_rfl) (fun _ _ _ h => h) (Or.inl ⟨by rfl, ?_⟩) (by assumption) ?_; rotate_left
            · intro w hSw; (try dsimp only at hSw); go_simp; try with_reducible rfl
            try simp only [Act.put, setIfInBounds_toArray, set_cons_zero, set_cons_succ]
            refine wpAnyH_done (by kernel_rfl) ?_ _
            go_wp2_with fail
            go_meet
            exact ⟨rfl, _, rfl, BF.out, NOWF.out⟩
          refine AllReadyH.cons (o := ⟨some 18, _, _, _, _, _⟩) rfl (fun K hK => ?_) AllReadyH.nil
          go_simp
          obtain ⟨wz, hwz⟩ : ∃ z, z = wq.alloc (.cells #[.int .i64 0, .int .i64 0, .int .i64 0] 45) := ⟨_, rfl⟩
          have bz : Below wq.heap.size wq wz := by rw [hwz]; exact below_alloc _ _
          have BI : Hid (Bk wz wq.heap.size #[.int .i64 0, .int .i64 0, .int .i64 0] 45) := Lib.hid (by rw [hwz]; exact Bk.new _ _ _)
          have HCA := Lib.hid NOW.out.size
          have NOW := Lib.hid (bnextK NOW.out bz)
          have x3 : wz.cell? ⟨w0.heap.size, a, none⟩ = some (encS (nm a)) := (bz.cell (p := ⟨w0.heap.size, a, none⟩) (cell_ltO x3)).trans x3
          have y4 : wz.cell? ⟨w3.heap.size, b, none⟩ = some (encS (nm b)) := (bz.cell (p := ⟨w3.heap.size, b, none⟩) (cell_ltO y4)).trans y4
          rw [← hwz]
          clear hwz bz
          refine hK.out _ _ ?_ (fun hHeld => ?_)
          · (try dsimp only); all_goals trivial
          clear hK K
          try simp only [Act.put, setIfInBounds_toArray, set_cons_zero, set_cons_succ]
          refine wpAnyH_ready (rs := [9]) (by kernel_rfl) (by simp) ?_
          refine AllReadyH.cons (o := ⟨some 155, _, _, _, _, _⟩) rfl (fun K hK => ?_) AllReadyH.nil
          go_simp
          refine (HSTK.out _ NOW.out).mono ?_
          rintro e w5 ⟨rfl, b3⟩
          have NOW := Lib.hid (bnextK NOW.out b3)
          have BI := Lib.hid (BI.out.past b3 BI.out.lt)
          clear b3
          go_wp2_with fail
          refine hK.out _ _ ?_ (fun hHeld => ?_)
          · (try dsimp only); all_goals trivial
          clear hK K
          try simp only [Act.put, setIfInBounds_toArray, set_cons_zero, set_cons_succ]
          refine wpAnyH_take (i := 10) (oi := ⟨some 145, _, _, _, _, _⟩) (v := ?_) rfl (by kernel_rfl) (by kernel_rfl) (by kernel_rfl) (fun _ _ _ h => h) (Or.inl ⟨by rfl, ?_⟩) (by assumption) ?_; rotate_left
          · intro w hSw; (try dsimp only at hSw); go_simp; try with_reducible rfl
          try simp only [Act.put, setIfInBounds_toArray, set_cons_zero, set_cons_succ]
          refine wpAnyH_take (i := 11) (oi := ⟨some 156, _, _, _, _, _⟩) (v := ?_) rfl (by kernel_rfl) (by kernel_rfl) (by kernel_rfl) (fun _ _ _ h => h) (Or.inl ⟨by rfl, ?_⟩) (by assumption) ?_; rotate_left
          · intro w hSw; (try dsimp only at hSw); go_simp; try with_reducible rfl
          try simp only [Act.put, setIfInBounds_toArray, set_cons_zero, set_cons_succ]
          refine wpAnyH_take (i := 12) (oi := ⟨some 157, _, _, _, _, _⟩) (v := ?_) rfl (by kernel_rfl) (by kernel_rfl) (by kernel_rfl) (fun _ _ _ h => h) (Or.inl ⟨by rfl, ?_⟩) (by assumption) ?_; rotate_left
          · intro w hSw; (try dsimp only at hSw); go_simp; try with_reducible rfl
          try simp only [Act.put, setIfInBounds_toArray, set_cons_zero, set_cons_succ]
          refine wpAnyH_ready (rs := [14]) (by kernel_rfl) (by simp) ?_
          refine AllReadyH.cons (o := ⟨none, _, _, _, _, _⟩) rfl (fun K hK => ?_) AllReadyH.nil
          refine step_store_row 45 _ _ rfl rfl wq.heap.size #[.int .i64 f, .int .i64 hl, .int .i64 sp] rfl rfl _ _ BI.out HIS.out rfl HIO.out ?_
          have BF := Lib.hid (Bk.setRow BI.out #[.int .i64 f, .int .i64 hl, .int .i64 sp])
          have NOWF := Lib.hid (NOW.out.trans ((keepL_row _ wq.heap.size #[.int .i64 f, .int .i64 hl, .int .i64 sp]).below NOW.out.size (by simpa using HCA.out)))
          refine hK.out _ _ ?_ (fun hHeld => ?_)
          · (try dsimp only); all_goals trivial
          clear hK K
          try simp only [Act.put]
          refine wpAnyH_take (i := 15) (oi := ⟨some 19, _, _, _, _, _⟩) (v := ?_) rfl (by kernel_rfl) (by kernel_rfl) (by kernel_rfl) (fun _ _ _ h => h) (Or.inl ⟨by rfl, ?_⟩) (by assumption) ?_; rotate_left
          · intro w hSw; (try dsimp only at hSw); go_simp; try with_reducible rfl
          try simp only [Act.put, setIfInBounds_toArray, set_cons_zero, set_cons_succ]
          refine wpAnyH_done (by kernel_rfl) ?_ _
          go_wp2_with fail
          go_meet
          exact ⟨rfl, _, rfl, BF.out, NOWF.out⟩
        refine AllReadyH.cons (o := ⟨some 18, _, _, _, _, _⟩) rfl (fun K hK => ?_) AllReadyH.nil
        go_simp
        obtain ⟨wz, hwz⟩ : ∃ z, z = wq.alloc (.cells #[.int .i64 0, .int .i64 0, .int .i64 0] 45) := ⟨_, rfl⟩
        have bz : Below wq.heap.size wq wz := by rw [hwz]; exact below_alloc _ _
        have BI : Hid (Bk wz wq.heap.size #[.int .i64 0, .int .i64 0, .int .i64 0] 45) := Lib.hid (by rw [hwz]; exact Bk.new _ _ _)
        have HCA := Lib.hid NOW.out.size
        have NOW := Lib.hid (bnextK NOW.out bz)
        have x3 : wz.cell? ⟨w0.heap.size, a, none⟩ = some (encS (nm a)) := (bz.cell (p := ⟨w0.heap.size, a, none⟩) (cell_ltO x3)).trans x3
        have y4 : wz.cell? ⟨w3.heap.size, b, none⟩ = some (encS (nm b)) := (bz.cell (p := ⟨w3.heap.size, b, none⟩) (cell_ltO y4)).trans y4
        rw [← hwz]
        clear hwz bz
        refine hK.out _ _ ?_ (fun hHeld => ?_)
        · (try dsimp only); all_goals trivial
        clear hK K
        try simp only [Act.put, setIfInBounds_toArray, set_cons_zero, set_cons_succ]
        refine wpAnyH_ready (rs := [8]) (by kernel_rfl) (by simp) ?_
        refine AllReadyH.cons (o := ⟨some 154, _, _, _, _, _⟩) rfl (fun K hK => ?_) AllReadyH.nil
        go_simp
        refine hK.out _ _ ?_ (fun hHeld => ?_)
        · (try dsimp only); all_goals trivial
        clear hK K
        try simp only [Act.put, setIfInBounds_toArray, set_cons_zero, set_cons_succ]
        refine wpAnyH_ready (rs := [9]) (by kernel_rfl) (by simp) ?_
        refine AllReadyH.cons (o := ⟨some 155, _, _, _, _, _⟩) rfl (fun K hK => ?_) AllReadyH.nil
        go_simp
        refine (HSTK.out _ NOW.out).mono ?_
        rintro e w5 ⟨rfl, b3⟩
        have NOW := Lib.hid (bnextK NOW.out b3)
        have BI := Lib.hid (BI.out.past b3 BI.out.lt)
        clear b3
        go_wp2_with fail
        refine hK.out _ _ ?_ (fun hHeld => ?_)
        · (try dsimp only); all_goals trivial
        clear hK K
        try simp only [Act.put, setIfInBounds_toArray, set_cons_zero, set_cons_succ]
        refine wpAnyH_take (i := 10) (oi := ⟨some 145, _, _, _, _, _⟩) (v := ?_) rfl (by kernel_rfl) (by kernel_rfl) (by kernel_rfl) (fun _ _ _ h => h) (Or.inl ⟨by rfl, ?_⟩) (by assumption) ?_; rotate_left
        · intro w hSw; (try dsimp only at hSw); go_simp; try with_reducible rfl
        try simp only [Act.put, setIfInBounds_toArray, set_cons_zero, set_cons_succ]
        refine wpAnyH_take (i := 11) (oi := ⟨some 156, _, _, _, _, _⟩) (v := ?_) rfl (by kernel_rfl) (by kernel_rfl) (by kernel_rfl) (fun _ _ _ h => h) (Or.inl ⟨by rfl, ?_⟩) (by assumption) ?_; rotate_left
        · intro w hSw; (try dsimp only at hSw); go_simp; try with_reducible rfl
        try simp only [Act.put, setIfInBounds_toArray, set_cons_zero, set_cons_succ]
        refine wpAnyH_take (i := 12) (oi := ⟨some 157, _, _, _, _, _⟩) (v := ?_) rfl (by kernel_rfl) (by kernel_rfl) (by kernel_rfl) (fun _ _ _ h => h) (Or.inl ⟨by rfl, ?_⟩) (by assumption) ?_; rotate_left
        · intro w hSw; (try dsimp only at hSw); go_simp; try with_reducible rfl
        try simp only [Act.put, setIfInBounds_toArray, set_cons_zero, set_cons_succ]
        refine wpAnyH_ready (rs := [14]) (by kernel_rfl) (by simp) ?_
        refine AllReadyH.cons (o := ⟨none, _, _, _, _, _⟩) rfl (fun K hK => ?_) AllReadyH.nil
        refine step_store_row 45 _ _ rfl rfl wq.heap.size #[.int .i64 f, .int .i64 hl, .int .i64 sp] rfl rfl _ _ BI.out HIS.out rfl HIO.out ?_
        have BF := Lib.hid (Bk.setRow BI.out #[.int .i64 f, .int .i64 hl, .int .i64 sp])
        have NOWF := Lib.hid (NOW.out.trans ((keepL_row _ wq.heap.size #[.int .i64 f, .int .i64 hl, .int .i64 sp]).below NOW.out.size (by simpa using HCA.out)))
        refine hK.out _ _ ?_ (fun hHeld => ?_)
        · (try dsimp only); all_goals trivial
        clear hK K
        try simp only [Act.put]
        refine wpAnyH_take (i := 15) (oi := ⟨some 19, _, _, _, _, _⟩) (v := ?_) rfl (by kernel_rfl) (by kernel_rfl) (by kernel_rfl) (fun _ _ _ h => h) (Or.inl ⟨by rfl, ?_⟩) (by assumption) ?_; rotate_left
        · intro w hSw; (try dsimp only at hSw); go_simp; try with_reducible rfl
        try simp only [Act.put, setIfInBounds_toArray, set_cons_zero, set_cons_succ]
        refine wpAnyH_done (by kernel_rfl) ?_ _
        go_wp2_with fail
        go_meet
        exact ⟨rfl, _, rfl, BF.out, NOWF.out⟩
      refine AllReadyH.cons (o := ⟨some 18, _, _, _, _, _⟩) rfl (fun K hK => ?_) AllReadyH.nil
      go_simp
      obtain ⟨wz, hwz⟩ : ∃ z, z = w3.alloc (.cells #[.int .i64 0, .int .i64 0, .int .i64 0] 45) := ⟨_, rfl⟩
      have bz : Below w3.heap.size w3 wz := by rw [hwz]; exact below_alloc _ _
      have BI : Hid (Bk wz w3.heap.size #[.int .i64 0, .int .i64 0, .int .i64 0] 45) := Lib.hid (by rw [hwz]; exact Bk.new _ _ _)
      have HCA := Lib.hid NOW.out.size
      have NOW := Lib.hid (bnextK NOW.out bz)
      have x3 : wz.cell? ⟨w0.heap.size, a, none⟩ = some (encS (nm a)) := (bz.cell (p := ⟨w0.heap.size, a, none⟩) (cell_ltO x3)).trans x3
      rw [← hwz]
      clear hwz bz
      refine hK.out _ _ ?_ (fun hHeld => ?_)
      · (try dsimp only); all_goals trivial
      clear hK K
      try simp only [Act.put, setIfInBounds_toArray, set_cons_zero, set_cons_succ]
      refine wpAnyH_ready (rs := [5]) (by kernel_rfl) (by simp) ?_
      refine AllReadyH.cons (o := ⟨some 151, _, _, _, _, _⟩) rfl (fun K hK => ?_) AllReadyH.nil
      go_simp
      refine (names_any _).mono ?_
      rintro e wq ⟨rfl, hw4⟩
      obtain ⟨f4, b3⟩ := names_fact hw4
      have y4 : wq.cell? ⟨wz.heap.size, b, none⟩ = some (encS (nm b)) := f4 b HB8.out
      have x3 : wq.cell? ⟨w0.heap.size, a, none⟩ = some (encS (nm a)) := (b3.cell (p := ⟨w0.heap.size, a, none⟩) (cell_ltO x3)).trans x3
      have NOW := Lib.hid (bnextK NOW.out b3)
      have BI := Lib.hid (BI.out.past b3 BI.out.lt)
      clear hw4 f4 b3
      go_wp2_with fail
      refine hK.out _ _ ?_ (fun hHeld => ?_)
      · (try dsimp only); all_goals trivial
      clear hK K
      try simp only [Act.put, setIfInBounds_toArray, set_cons_zero, set_cons_succ]
      refine wpAnyH_take (i := 7) (oi := ⟨some 153, _, _, _, _, _⟩) (v := ?_) rfl (by kernel_rfl) (by kernel_rfl) (by kernel_rfl) (fun _ _ _ h => h) (Or.inl ⟨by rfl, ?_⟩) (by assumption) ?_; rotate_left
      · intro w hSw; (try dsimp only at hSw); go_simp; try with_reducible rfl
      try simp only [Act.put, setIfInBounds_toArray, set_cons_zero, set_cons_succ]
      refine wpAnyH_ready (rs := [8]) (by kernel_rfl) (by simp) ?_
      refine AllReadyH.cons (o := ⟨some 154, _, _, _, _, _⟩) rfl (fun K hK => ?_) AllReadyH.nil
      go_simp
      refine hK.out _ _ ?_ (fun hHeld => ?_)
      · (try dsimp only); all_goals trivial
      clear hK K
      try simp only [Act.put, setIfInBounds_toArray, set_cons_zero, set_cons_succ]
      refine wpAnyH_ready (rs := [9]) (by kernel_rfl) (by simp) ?_
      refine AllReadyH.cons (o := ⟨some 155, _, _, _, _, _⟩) rfl (fun K hK => ?_) AllReadyH.nil
      go_simp
      refine (HSTK.out _ NOW.out).mono ?_
      rintro e w5 ⟨rfl, b3⟩
      have NOW := Lib.hid (bnextK NOW.out b3)
      have BI := Lib.hid (BI.out.past b3 BI.out.lt)
      clear b3
      go_wp2_with fail
      refine hK.out _ _ ?_ (fun hHeld => ?_)
      · (try dsimp only); all_goals trivial
      clear hK K
      try simp only [Act.put, setIfInBounds_toArray, set_cons_zero, set_cons_succ]
      refine wpAnyH_take (i := 10) (oi := ⟨some 145, _, _, _, _, _⟩) (v := ?_) rfl (by kernel_rfl) (by kernel_rfl) (by kernel_rfl) (fun _ _ _ h => h) (Or.inl ⟨by rfl, ?_⟩) (by assumption) ?_; rotate_left
      · intro w hSw; (try dsimp only at hSw); go_simp; try with_reducible rfl
      try simp only [Act.put, setIfInBounds_toArray, set_cons_zero, set_cons_succ]
      refine wpAnyH_take (i := 11) (oi := ⟨some 156, _, _, _, _, _⟩) (v := ?_) rfl (by kernel_rfl) (by kernel_rfl) (by kernel_rfl) (fun _ _ _ h => h) (Or.inl ⟨by rfl, ?_⟩) (by assumption) ?_; rotate_left
      · intro w hSw; (try dsimp only at hSw); go_simp; try with_reducible rfl
      try simp only [Act.put, setIfInBounds_toArray, set_cons_zero, set_cons_succ]
      refine wpAnyH_take (i := 12) (oi := ⟨some 157, _, _, _, _, _⟩) (v := ?_) rfl (by kernel_rfl) (by kernel_rfl) (by kernel_rfl) (fun _ _ _ h => h) (Or.inl ⟨by rfl, ?_⟩) (by assumption) ?_; rotate_left
      · intro w hSw; (try dsimp only at hSw); go_simp; try with_reducible rfl
      try simp only [Act.put, setIfInBounds_toArray, set_cons_zero, set_cons_succ]
      refine wpAnyH_ready (rs := [14]) (by kernel_rfl) (by simp) ?_
      refine AllReadyH.cons (o := ⟨none, _, _, _, _, _⟩) rfl (fun K hK => ?_) AllReadyH.nil
      refine step_store_row 45 _ _ rfl rfl w3.heap.size #[.int .i64 f, .int .i64 hl, .int .i64 sp] rfl rfl _ _ BI.out HIS.out rfl HIO.out ?_
      have BF := Lib.hid (Bk.setRow BI.out #[.int .i64 f, .int .i64 hl, .int .i64 sp])
      have NOWF := Lib.hid (NOW.out.trans ((keepL_row _ w3.heap.size #[.int .i64 f, .int .i64 hl, .int .i64 sp]).below NOW.out.size (by simpa using HCA.out)))
      refine hK.out _ _ ?_ (fun hHeld => ?_)
      · (try dsimp only); all_goals trivial
      clear hK K
      try simp only [Act.put]
      refine wpAnyH_take (i := 15) (oi := ⟨some 19, _, _, _, _, _⟩) (v := ?_) rfl (by kernel_rfl) (by kernel_rfl) (by kernel_rfl) (fun _ _ _ h => h) (Or.inl ⟨by rfl, ?_⟩) (by assumption) ?_; rotate_left
      · intro w hSw; (try dsimp only at hSw); go_simp; try with_reducible rfl
      try simp only [Act.put, setIfInBounds_toArray, set_cons_zero, set_cons_succ]
      refine wpAnyH_done (by kernel_rfl) ?_ _
      go_wp2_with fail
      go_meet
      exact ⟨rfl, _, rfl, BF.out, NOWF.out⟩
    refine AllReadyH.cons (o := ⟨some 151, _, _, _, _, _⟩) rfl (fun K hK => ?_) ?_
    · skip
      go_simp
      refine (names_any _).mono ?_
      rintro e wq ⟨rfl, hw4⟩
      obtain ⟨f4, b3⟩ := names_fact hw4
      have y4 : wq.cell? ⟨w3.heap.size, b, none⟩ = some (encS (nm b)) := f4 b HB8.out
      have x3 : wq.cell? ⟨w0.heap.size, a, none⟩ = some (encS (nm a)) := (b3.cell (p := ⟨w0.heap.size, a, none⟩) (cell_ltO x3)).trans x3
      have NOW := Lib.hid (bnextK NOW.out b3)
      clear hw4 f4 b3
      go_wp2_with fail
      refine hK.out _ _ ?_ (fun hHeld => ?_)
      · (try dsimp only); all_goals trivial
      clear hK K
      try simp only [Act.put, setIfInBounds_toArray, set_cons_zero, set_cons_succ]
      refine wpAnyH_take (i := 7) (oi := ⟨some 153, _, _, _, _, _⟩) (v := ?_) rfl (by kernel_rfl) (by kernel_rfl) (by kernel_rfl) (fun _ _ _ h => h) (Or.inl ⟨by rfl, ?_⟩) (by assumption) ?_; rotate_left
      · intro w hSw; (try dsimp only at hSw); go_simp; try with_reducible rfl
      try simp only [Act.put, setIfInBounds_toArray, set_cons_zero, set_cons_succ]
      refine wpAnyH_ready (rs := [4, 8, 13]) (by kernel_rfl) (by simp) ?_
      refine AllReadyH.cons (o := ⟨some 150, _, _, _, _, _⟩) rfl (fun K hK => ?_) ?_
      · skip
        go_simp
        refine hK.out _ _ ?_ (fun hHeld => ?_)
        · (try dsimp only); all_goals trivial
        clear hK K
        try simp only [Act.put, setIfInBounds_toArray, set_cons_zero, set_cons_succ]
        refine wpAnyH_ready (rs := [8, 13]) (by kernel_rfl) (by simp) ?_
        refine AllReadyH.cons (o := ⟨some 154, _, _, _, _, _⟩) rfl (fun K hK => ?_) ?_
        · skip
          go_simp
          refine hK.out _ _ ?_ (fun hHeld => ?_)
          · (try dsimp only); all_goals trivial
          clear hK K
          try simp only [Act.put, setIfInBounds_toArray, set_cons_zero, set_cons_succ]
          refine wpAnyH_ready (rs := [9, 13]) (by kernel_rfl) (by simp) ?_
          refine AllReadyH.cons (o := ⟨some 155, _, _, _, _, _⟩) rfl (fun K hK => ?_) ?_
          · skip
            go_simp
            refine (HSTK.out _ NOW.out).mono ?_
            rintro e w5 ⟨rfl, b3⟩
            have NOW := Lib.hid (bnextK NOW.out b3)
            clear b3
            go_wp2_with fail
            refine hK.out _ _ ?_ (fun hHeld => ?_)
            · (try dsimp only); all_goals trivial
            clear hK K
            try simp only [Act.put, setIfInBounds_toArray, set_cons_zero, set_cons_succ]
            refine wpAnyH_take (i := 10) (oi := ⟨some 145, _, _, _, _, _⟩) (v := ?_) rfl (by kernel_rfl) (by kernel_rfl) (by kernel_rfl) (fun _ _ _ h => h) (Or.inl ⟨by rfl, ?_⟩) (by assumption) ?_; rotate_left
            · intro w hSw; (try dsimp only at hSw); go_simp; try with_reducible rfl
            try simp only [Act.put, setIfInBounds_toArray, set_cons_zero, set_cons_succ]
            refine wpAnyH_take (i := 11) (oi := ⟨some 156, _, _, _, _, _⟩) (v := ?_) rfl (by kernel_rfl) (by kernel_rfl) (by kernel_rfl) (fun _ _ _ h => h) (Or.inl ⟨by rfl, ?_⟩) (by assumption) ?_; rotate_left
            · intro w hSw; (try dsimp only at hSw); go_simp; try with_reducible rfl
            try simp only [Act.put, setIfInBounds_toArray, set_cons_zero, set_cons_succ]
            refine wpAnyH_take (i := 12) (oi := ⟨some 157, _, _, _, _, _⟩) (v := ?_) rfl (by kernel_rfl) (by kernel_rfl) (by kernel_rfl) (fun _ _ _ h => h) (Or.inl ⟨by rfl, ?_⟩) (by assumption) ?_; rotate_left
            · intro w hSw; (try dsimp only at hSw); go_simp; try with_reducible rfl
            try simp only [Act.put, setIfInBounds_toArray, set_cons_zero, set_cons_succ]
            refine wpAnyH_ready (rs := [13]) (by kernel_rfl) (by simp) ?_
            refine AllReadyH.cons (o := ⟨some 18, _, _, _, _, _⟩) rfl (fun K hK => ?_) AllReadyH.nil
            go_simp
            obtain ⟨wz, hwz⟩ : ∃ z, z = w5.alloc (.cells #[.int .i64 0, .int .i64 0, .int .i64 0] 45) := ⟨_, rfl⟩
            have bz : Below w5.heap.size w5 wz := by rw [hwz]; exact below_alloc _ _
            have BI : Hid (Bk wz w5.heap.size #[.int .i64 0, .int .i64 0, .int .i64 0] 45) := Lib.hid (by rw [hwz]; exact Bk.new _ _ _)
            have HCA := Lib.hid NOW.out.size
            have NOW := Lib.hid (bnextK NOW.out bz)
            rw [← hwz]
            clear hwz bz
            refine hK.out _ _ ?_ (fun hHeld => ?_)
            · (try dsimp only); all_goals trivial
            clear hK K
            try simp only [Act.put, setIfInBounds_toArray, set_cons_zero, set_cons_succ]
            refine wpAnyH_ready (rs := [14]) (by kernel_rfl) (by simp) ?_
            refine AllReadyH.cons (o := ⟨none, _, _, _, _, _⟩) rfl (fun K hK => ?_) AllReadyH.nil
            refine step_store_row 45 _ _ rfl rfl w5.heap.size #[.int .i64 f, .int .i64 hl, .int .i64 sp] rfl rfl _ _ BI.out HIS.out rfl HIO.out ?_
            have BF := Lib.hid (Bk.setRow BI.out #[.int .i64 f, .int .i64 hl, .int .i64 sp])
            have NOWF := Lib.hid (NOW.out.trans ((keepL_row _ w5.heap.size #[.int .i64 f, .int .i64 hl, .int .i64 sp]).below NOW.out.size (by simpa using HCA.out)))
            refine hK.out _ _ ?_ (fun hHeld => ?_)
            · (try dsimp only); all_goals trivial
            clear hK K
            try simp only [Act.put]
            refine wpAnyH_take (i := 15) (oi := ⟨some 19, _, _, _, _, _⟩) (v := ?_) rfl (by kernel_rfl) (by kernel_rfl) (by kernel_rfl) (fun _ _ _ h => h) (Or.inl ⟨by rfl, ?_⟩) (by assumption) ?_; rotate_left
            · intro w hSw; (try dsimp only at hSw); go_simp; try with_reducible rfl
            try simp only [Act.put, setIfInBounds_toArray, set_cons_zero, set_cons_succ]
            refine wpAnyH_done (by kernel_rfl) ?_ _
            go_wp2_with fail
            go_meet
            exact ⟨rfl, _, rfl, BF.out, NOWF.out⟩
          refine AllReadyH.cons (o := ⟨some 18, _, _, _, _, _⟩) rfl (fun K hK => ?_) AllReadyH.nil
          go_simp
          obtain ⟨wz, hwz⟩ : ∃ z, z = wq.alloc (.cells #[.int .i64 0, .int .i64 0, .int .i64 0] 45) := ⟨_, rfl⟩
          have bz : Below wq.heap.size wq wz := by rw [hwz]; exact below_alloc _ _
          have BI : Hid (Bk wz wq.heap.size #[.int .i64 0, .int .i64 0, .int .i64 0] 45) := Lib.hid (by rw [hwz]; exact Bk.new _ _ _)
          have HCA := Lib.hid NOW.out.size
          have NOW := Lib.hid (bnextK NOW.out bz)
          have x3 : wz.cell? ⟨w0.heap.size, a, none⟩ = some (encS (nm a)) := (bz.cell (p := ⟨w0.heap.size, a, none⟩) (cell_ltO x3)).trans x3
          have y4 : wz.cell? ⟨w3.heap.size, b, none⟩ = some (encS (nm b)) := (bz.cell (p := ⟨w3.heap.size, b, none⟩) (cell_ltO y4)).trans y4
          rw [← hwz]
          clear hwz bz
          refine hK.out _ _ ?_ (fun hHeld => ?_)
          · (try dsimp only); all_goals trivial
          clear hK K
          try simp only [Act.put, setIfInBounds_toArray, set_cons_zero, set_cons_succ]
          refine wpAnyH_ready (rs := [9]) (by kernel_rfl) (by simp) ?_
          refine AllReadyH.cons (o := ⟨some 155, _, _, _, _, _⟩) rfl (fun K hK => ?_) AllReadyH.nil
          go_simp
          refine (HSTK.out _ NOW.out).mono ?_
          rintro e w5 ⟨rfl, b3⟩
          have NOW := Lib.hid (bnextK NOW.out b3)
          have BI := Lib.hid (BI.out.past b3 BI.out.lt)
          clear b3
          go_wp2_with fail
          refine hK.out _ _ ?_ (fun hHeld => ?_)
          · (try dsimp only); all_goals trivial
          clear hK K
          try simp only [Act.put, setIfInBounds_toArray, set_cons_zero, set_cons_succ]
          refine wpAnyH_take (i := 10) (oi := ⟨some 145, _, _, _, _, _⟩) (v := ?_) rfl (by kernel_rfl) (by kernel_rfl) (by kernel_rfl) (fun _ _ _ h => h) (Or.inl ⟨by rfl, ?_⟩) (by assumption) ?_; rotate_left
          · intro w hSw; (try dsimp only at hSw); go_simp; try with_reducible rfl
          try simp only [Act.put, setIfInBounds_toArray, set_cons_zero, set_cons_succ]
          refine wpAnyH_take (i := 11) (oi := ⟨some 156, _, _, _, _, _⟩) (v := ?_) rfl (by kernel_rfl) (by kernel_rfl) (by kernel_rfl) (fun _ _ _ h => h) (Or.inl ⟨by rfl, ?_⟩) (by assumption) ?_; rotate_left
          · intro w hSw; (try dsimp only at hSw); go_simp; try with_reducible rfl
          try simp only [Act.put, setIfInBounds_toArray, set_cons_zero, set_cons_succ]
          refine wpAnyH_take (i := 12) (oi := ⟨some 157, _, _, _, _, _⟩) (v := ?_) rfl (by kernel_rfl) (by kernel_rfl) (by kernel_rfl) (fun _ _ _ h => h) (Or.inl ⟨by rfl, ?_⟩) (by assumption) ?_; rotate_left
          · intro w hSw; (try dsimp only at hSw); go_simp; try with_reducible rfl
          try simp only [Act.put, setIfInBounds_toArray, set_cons_zero, set_cons_succ]
          refine wpAnyH_ready (rs := [14]) (by kernel_rfl) (by simp) ?_
          refine AllReadyH.cons (o := ⟨none, _, _, _, _, _⟩) rfl (fun K hK => ?_) AllReadyH.nil
          refine step_store_row 45 _ _ rfl rfl wq.heap.size #[.int .i64 f, .int .i64 hl, .int .i64 sp] rfl rfl _ _ BI.out HIS.out rfl HIO.out ?_
          have BF := Lib.hid (Bk.setRow BI.out #[.int .i64 f, .int .i64 hl, .int .i64 sp])
          have NOWF := Lib.hid (NOW.out.trans ((keepL_row _ wq.heap.size #[.int .i64 f, .int .i64 hl, .int .i64 sp]).below NOW.out.size (by simpa using HCA.out)))
          refine hK.out _ _ ?_ (fun hHeld => ?_)
          · (try dsimp only); all_goals trivial
          clear hK K
          try simp only [Act.put]
          refine wpAnyH_take (i := 15) (oi := ⟨some 19, _, _, _, _, _⟩) (v := ?_) rfl (by kernel_rfl) (by kernel_rfl) (by kernel_rfl) (fun _ _ _ h => h) (Or.inl ⟨by rfl, ?_⟩) (by assumption) ?_; rotate_left
          · intro w hSw; (try dsimp only at hSw); go_simp; try with_reducible rfl
          try simp only [Act.put, setIfInBounds_toArray, set_cons_zero, set_cons_succ]
          refine wpAnyH_done (by kernel_rfl) ?_ _
          go_wp2_with fail
          go_meet
          exact ⟨rfl, _, rfl, BF.out, NOWF.out⟩
        refine AllReadyH.cons (o := ⟨some 18, _, _, _, _, _⟩) rfl (fun K hK => ?_) AllReadyH.nil
        go_simp
        obtain ⟨wz, hwz⟩ : ∃ z, z = wq.alloc (.cells #[.int .i64 0, .int .i64 0, .int .i64 0] 45) := ⟨_, rfl⟩
        have bz : Below wq.heap.size wq wz := by rw [hwz]; exact below_alloc _ _
        have BI : Hid (Bk wz wq.heap.size #[.int .i64 0, .int .i64 0, .int .i64 0] 45) := Lib.hid (by rw [hwz]; exact Bk.new _ _ _)
        have HCA := Lib.hid NOW.out.size
        have NOW := Lib.hid (bnextK NOW.out bz)
        have x3 : wz.cell? ⟨w0.heap.size, a, none⟩ = some (encS (nm a)) := (bz.cell (p := ⟨w0.heap.size, a, none⟩) (cell_ltO x3)).trans x3
        have y4 : wz.cell? ⟨w3.heap.size, b, none⟩ = some (encS (nm b)) := (bz.cell (p := ⟨w3.heap.size, b, none⟩) (cell_ltO y4)).trans y4
        rw [← hwz]
        clear hwz bz
        refine hK.out _ _ ?_ (fun hHeld => ?_)
        · (try dsimp only); all_goals trivial
        clear hK K
        try simp only [Act.put, setIfInBounds_toArray, set_cons_zero, set_cons_succ]
        refine wpAnyH_ready (rs := [8]) (by kernel_rfl) (by simp) ?_
        refine AllReadyH.cons (o := ⟨some 154, _, _, _, _, _⟩) rfl (fun K hK => ?_) AllReadyH.nil
        go_simp
        refine hK.out _ _ ?_ (fun hHeld => ?_)
        · (try dsimp only); all_goals trivial
        clear hK K
        try simp only [Act.put, setIfInBounds_toArray, set_cons_zero, set_cons_succ]
        refine wpAnyH_ready (rs := [9]) (by kernel_rfl) (by simp) ?_
        refine AllReadyH.cons (o := ⟨some 155, _, _, _, _, _⟩) rfl (fun K hK => ?_) AllReadyH.nil
        go_simp
        refine (HSTK.out _ NOW.out).mono ?_
        rintro e w5 ⟨rfl, b3⟩
        have NOW := Lib.hid (bnextK NOW.out b3)
        have BI := Lib.hid (BI.out.past b3 BI.out.lt)
        clear b3
        go_wp2_with fail
        refine hK.out _ _ ?_ (fun hHeld => ?_)
        · (try dsimp only); all_goals trivial
        clear hK K
        try simp only [Act.put, setIfInBounds_toArray, set_cons_zero, set_cons_succ]
        refine wpAnyH_take (i := 10) (oi := ⟨some 145, _, _, _, _, _⟩) (v := ?_) rfl (by kernel_rfl) (by kernel_rfl) (by kernel_rfl) (fun _ _ _ h => h) (Or.inl ⟨by rfl, ?_⟩) (by assumption) ?_; rotate_left
        · intro w hSw; (try dsimp only at hSw); go_simp; try with_reducible rfl
        try simp only [Act.put, setIfInBounds_toArray, set_cons_zero, set_cons_succ]
        refine wpAnyH_take (i := 11) (oi := ⟨some 156, _, _, _, _, _⟩) (v := ?_) rfl (by kernel_rfl) (by kernel_rfl) (by kernel_rfl) (fun _ _ _ h => h) (Or.inl ⟨by rfl, ?_⟩) (by assumption) ?_; rotate_left
        · intro w hSw; (try dsimp only at hSw); go_simp; try with_reducible rfl
        try simp only [Act.put, setIfInBounds_toArray, set_cons_zero, set_cons_succ]
        refine wpAnyH_take (i := 12) (oi := ⟨some 157, _, _, _, _, _⟩) (v := ?_) rfl (by kernel_rfl) (by kernel_rfl) (by kernel_rfl) (fun _ _ _ h => h) (Or.inl ⟨by rfl, ?_⟩) (by assumption) ?_; rotate_left
        · intro w hSw; (try dsimp only at hSw); go_simp; try with_reducible rfl
        try simp only [Act.put, setIfInBounds_toArray, set_cons_zero, set_cons_succ]
        refine wpAnyH_ready (rs := [14]) (by kernel_rfl) (by simp) ?_
        refine AllReadyH.cons (o := ⟨none, _, _, _, _, _⟩) rfl (fun K hK => ?_) AllReadyH.nil
        refine step_store_row 45 _ _ rfl rfl wq.heap.size #[.int .i64 f, .int .i64 hl, .int .i64 sp] rfl rfl _ _ BI.out HIS.out rfl HIO.out ?_
        have BF := Lib.hid (Bk.setRow BI.out #[.int .i64 f, .int .i64 hl, .int .i64 sp])
        have NOWF := Lib.hid (NOW.out.trans ((keepL_row _ wq.heap.size #[.int .i64 f, .int .i64 hl, .int .i64 sp]).below NOW.out.size (by simpa using HCA.out)))
        refine hK.out _ _ ?_ (fun hHeld => ?_)
        · (try dsimp only); all_goals trivial
        clear hK K
        try simp only [Act.put]
        refine wpAnyH_take (i := 15) (oi := ⟨some 19, _, _, _, _, _⟩) (v := ?_) rfl (by kernel_rfl) (by kernel_rfl) (by kernel_rfl) (fun _ _ _ h => h) (Or.inl ⟨by rfl, ?_⟩) (by assumption) ?_; rotate_left
        · intro w hSw; (try dsimp only at hSw); go_simp; try with_reducible rfl
        try simp only [Act.put, setIfInBounds_toArray, set_cons_zero, set_cons_succ]
        refine wpAnyH_done (by kernel_rfl) ?_ _
        go_wp2_with fail
        go_meet
        exact ⟨rfl, _, rfl, BF.out, NOWF.out⟩
      refine AllReadyH.cons (o := ⟨some 154, _, _, _, _, _⟩) rfl (fun K hK => ?_) ?_
      · skip
        go_simp
        refine hK.out _ _ ?_ (fun hHeld => ?_)
        · (try dsimp only); all_goals trivial
        clear hK K
        try simp only [Act.put, setIfInBounds_toArray, set_cons_zero, set_cons_succ]
        refine wpAnyH_ready (rs := [4, 13]) (by kernel_rfl) (by simp) ?_
        refine AllReadyH.cons (o := ⟨some 150, _, _, _, _, _⟩) rfl (fun K hK => ?_) ?_
        · skip
          go_simp
          refine hK.out _ _ ?_ (fun hHeld => ?_)
          · (try dsimp only); all_goals trivial
          clear hK K
          try simp only [Act.put, setIfInBounds_toArray, set_cons_zero, set_cons_succ]
          refine wpAnyH_ready (rs := [9, 13]) (by kernel_rfl) (by simp) ?_
          refine AllReadyH.cons (o := ⟨some 155, _, _, _, _, _⟩) rfl (fun K hK => ?_) ?_
          · skip
            go_simp
            refine (HSTK.out _ NOW.out).mono ?_
            rintro e w5 ⟨rfl, b3⟩
            have NOW := Lib.hid (bnextK NOW.out b3)
            clear b3
            go_wp2_with fail
            refine hK.out _ _ ?_ (fun hHeld => ?_)
            · (try dsimp only); all_goals trivial
            clear hK K
            try simp only [Act.put, setIfInBounds_toArray, set_cons_zero, set_cons_succ]
            refine wpAnyH_take (i := 10) (oi := ⟨some 145, _, _, _, _, _⟩) (v := ?_) rfl (by kernel_rfl) (by kernel_rfl) (by kernel_rfl) (fun _ _ _ h => h) (Or.inl ⟨by rfl, ?_⟩) (by assumption) ?_; rotate_left
            · intro w hSw; (try dsimp only at hSw); go_simp; try with_reducible rfl
            try simp only [Act.put, setIfInBounds_toArray, set_cons_zero, set_cons_succ]
            refine wpAnyH_take (i := 11) (oi := ⟨some 156, _, _, _, _, _⟩) (v := ?_) rfl (by kernel_rfl) (by kernel_rfl) (by kernel_rfl) (fun _ _ _ h => h) (Or.inl ⟨by rfl, ?_⟩) (by assumption) ?_; rotate_left
            · intro w hSw; (try dsimp only at hSw); go_simp; try with_reducible rfl
            try simp only [Act.put, setIfInBounds_toArray, set_cons_zero, set_cons_succ]
            refine wpAnyH_take (i := 12) (oi := ⟨some 157, _, _, _, _, _⟩) (v := ?_) rfl (by kernel_rfl) (by kernel_rfl) (by kernel_rfl) (fun _ _ _ h => h) (Or.inl ⟨by rfl, ?_⟩) (by assumption) ?_; rotate_left
            · intro w hSw; (try dsimp only at hSw); go_simp; try with_reducible rfl
            try simp only [Act.put, setIfInBounds_toArray, set_cons_zero, set_cons_succ]
            refine wpAnyH_ready (rs := [13]) (by kernel_rfl) (by simp) ?_
            refine AllReadyH.cons (o := ⟨some 18, _, _, _, _, _⟩) rfl (fun K hK => ?_) AllReadyH.nil
            go_simp
            obtain ⟨wz, hwz⟩ : ∃ z, z = w5.alloc (.cells #[.int .i64 0, .int .i64 0, .int .i64 0] 45) := ⟨_, rfl⟩
            have bz : Below w5.heap.size w5 wz := by rw [hwz]; exact below_alloc _ _
            have BI : Hid (Bk wz w5.heap.size #[.int .i64 0, .int .i64 0, .int .i64 0] 45) := Lib.hid (by rw [hwz]; exact Bk.new _ _ _)
            have HCA := Lib.hid NOW.out.size
            have NOW := Lib.hid (bnextK NOW.out bz)
            rw [← hwz]
            clear hwz bz
            refine hK.out _ _ ?_ (fun hHeld => ?_)
            · (try dsimp only); all_goals trivial
            clear hK K
            try simp only [Act.put, setIfInBounds_toArray, set_cons_zero, set_cons_succ]
            refine wpAnyH_ready (rs := [14]) (by kernel_rfl) (by simp) ?_
            refine AllReadyH.cons (o := ⟨none, _, _, _, _, _⟩) rfl (fun K hK => ?_) AllReadyH.nil
            refine step_store_row 45 _ _ rfl rfl w5.heap.size #[.int .i64 f, .int .i64 hl, .int .i64 sp] rfl rfl _ _ BI.out HIS.out rfl HIO.out ?_
            have BF := Lib.hid (Bk.setRow BI.out #[.int .i64 f, .int .i64 hl, .int .i64 sp])
            have NOWF := Lib.hid (NOW.out.trans ((keepL_row _ w5.heap.size #[.int .i64 f, .int .i64 hl, .int .i64 sp]).below NOW.out.size (by simpa using HCA.out)))
            refine hK.out _ _ ?_ (fun hHeld => ?_)
            · (try dsimp only); all_goals trivial
            clear hK K
            try simp only [Act.put]
            refine wpAnyH_take (i := 15) (oi := ⟨some 19, _, _, _, _, _⟩) (v := ?_) rfl (by kernel_rfl) (by kernel_rfl) (by kernel_rfl) (fun _ _ _ h => h) (Or.inl ⟨by rfl, ?_⟩) (by assumption) ?_; rotate_left
            · intro w hSw; (try dsimp only at hSw); go_simp; try with_reducible rfl
            try simp only [Act.put, setIfInBounds_toArray, set_cons_zero, set_cons_succ]
            refine wpAnyH_done (by kernel_rfl) ?_ _
            go_wp2_with fail
            go_meet
            exact ⟨rfl, _, rfl, BF.out, NOWF.out⟩
          refine AllReadyH.cons (o := ⟨some 18, _, _, _, _, _⟩) rfl (fun K hK => ?_) AllReadyH.nil
          go_simp
          obtain ⟨wz, hwz⟩ : ∃ z, z = wq.alloc (.cells #[.int .i64 0, .int .i64 0, .int .i64 0] 45) := ⟨_, rfl⟩
          have bz : Below wq.heap.size wq wz := by rw [hwz]; exact below_alloc _ _
          have BI : Hid (Bk wz wq.heap.size #[.int .i64 0, .int .i64 0, .int .i64 0] 45) := Lib.hid (by rw [hwz]; exact Bk.new _ _ _)
          have HCA := Lib.hid NOW.out.size
          have NOW := Lib.hid (bnextK NOW.out bz)
          have x3 : wz.cell? ⟨w0.heap.size, a, none⟩ = some (encS (nm a)) := (bz.cell (p := ⟨w0.heap.size, a, none⟩) (cell_ltO x3)).trans x3
          have y4 : wz.cell? ⟨w3.heap.size, b, none⟩ = some (encS (nm b)) := (bz.cell (p := ⟨w3.heap.size, b, none⟩) (cell_ltO y4)).trans y4
          rw [← hwz]
          clear hwz bz
          refine hK.out _ _ ?_ (fun hHeld => ?_)
          · (try dsimp only); all_goals trivial
          clear hK K
          try simp only [Act.put, setIfInBounds_toArray, set_cons_zero, set_cons_succ]
          refine wpAnyH_ready (rs := [9]) (by kernel_rfl) (by simp) ?_
          refine AllReadyH.cons (o := ⟨some 155, _, _, _, _, _⟩) rfl (fun K hK => ?_) AllReadyH.nil
          go_simp
          refine (HSTK.out _ NOW.out).mono ?_
          rintro e w5 ⟨rfl, b3⟩
          have NOW := Lib.hid (bnextK NOW.out b3)
          have BI := Lib.hid (BI.out.past b3 BI.out.lt)
          clear b3
          go_wp2_with fail
          refine hK.out _ _ ?_ (fun hHeld => ?_)
          · (try dsimp only); all_goals trivial
          clear hK K
          try simp only [Act.put, setIfInBounds_toArray, set_cons_zero, set_cons_succ]
          refine wpAnyH_take (i := 10) (oi := ⟨some 145, _, _, _, _, _⟩) (v := ?_) rfl (by kernel_rfl) (by kernel_rfl) (by kernel_rfl) (fun _ _ _ h => h) (Or.inl ⟨by rfl, ?_⟩) (by assumption) ?_; rotate_left
          · intro w hSw; (try dsimp only at hSw); go_simp; try with_reducible rfl
          try simp only [Act.put, setIfInBounds_toArray, set_cons_zero, set_cons_succ]
          refine wpAnyH_take (i := 11) (oi := ⟨some 156, _, _, _, _, _⟩) (v := ?_) rfl (by kernel_rfl) (by kernel_rfl) (by kernel_rfl) (fun _ _ _ h => h) (Or.inl ⟨by rfl, ?_⟩) (by assumption) ?_; rotate_left
          · intro w hSw; (try dsimp only at hSw); go_simp; try with_reducible rfl
          try simp only [Act.put, setIfInBounds_toArray, set_cons_zero, set_cons_succ]
          refine wpAnyH_take (i := 12) (oi := ⟨some 157, _, _, _, _, _⟩) (v := ?_) rfl (by kernel_rfl) (by kernel_rfl) (by kernel_rfl) (fun _ _ _ h => h) (Or.inl ⟨by rfl, ?_⟩) (by assumption) ?_; rotate_left
          · intro w hSw; (try dsimp only at hSw); go_simp; try with_reducible rfl
          try simp only [Act.put, setIfInBounds_toArray, set_cons_zero, set_cons_succ]
          refine wpAnyH_ready (rs := [14]) (by kernel_rfl) (by simp) ?_
          refine AllReadyH.cons (o := ⟨none, _, _, _, _, _⟩) rfl (fun K hK => ?_) AllReadyH.nil
          refine step_store_row 45 _ _ rfl rfl wq.heap.size #[.int .i64 f, .int .i64 hl, .int .i64 sp] rfl rfl _ _ BI.out HIS.out rfl HIO.out ?_
          have BF := Lib.hid (Bk.setRow BI.out #[.int .i64 f, .int .i64 hl, .int .i64 sp])
          have NOWF := Lib.hid (NOW.out.trans ((keepL_row _ wq.heap.size #[.int .i64 f, .int .i64 hl, .int .i64 sp]).below NOW.out.size (by simpa using HCA.out)))
          refine hK.out _ _ ?_ (fun hHeld => ?_)
          · (try dsimp only); all_goals trivial
          clear hK K
          try simp only [Act.put]
          refine wpAnyH_take (i := 15) (oi := ⟨some 19, _, _, _, _, _⟩) (v := ?_) rfl (by kernel_rfl) (by kernel_rfl) (by kernel_rfl) (fun _ _ _ h => h) (Or.inl ⟨by rfl, ?_⟩) (by assumption) ?_; rotate_left
          · intro w hSw; (try dsimp only at hSw); go_simp; try with_reducible rfl
          try simp only [Act.put, setIfInBounds_toArray, set_cons_zero, set_cons_succ]
          refine wpAnyH_done (by kernel_rfl) ?_ _
          go_wp2_with fail
          go_meet
          exact ⟨rfl, _, rfl, BF.out, NOWF.out⟩
        refine AllReadyH.cons (o := ⟨some 18, _, _, _, _, _⟩) rfl (fun K hK => ?_) AllReadyH.nil
        go_simp
        obtain ⟨wz, hwz⟩ : ∃ z, z = wq.alloc (.cells #[.int .i64 0, .int .i64 0, .int .i64 0] 45) := ⟨_, rfl⟩
        have bz : Below wq.heap.size wq wz := by rw [hwz]; exact below_alloc _ _
        have BI : Hid (Bk wz wq.heap.size #[.int .i64 0, .int .i64 0, .int .i64 0] 45) := Lib.hid (by rw [hwz]; exact Bk.new _ _ _)
        have HCA := Lib.hid NOW.out.size
        have NOW := Lib.hid (bnextK NOW.out bz)
        have x3 : wz.cell? ⟨w0.heap.size, a, none⟩ = some (encS (nm a)) := (bz.cell (p := ⟨w0.heap.size, a, none⟩) (cell_ltO x3)).trans x3
        have y4 : wz.cell? ⟨w3.heap.size, b, none⟩ = some (encS (nm b)) := (bz.cell (p := ⟨w3.heap.size, b, none⟩) (cell_ltO y4)).trans y4
        rw [← hwz]
        clear hwz bz
        refine hK.out _ _ ?_ (fun hHeld => ?_)
        · (try dsimp only); all_goals trivial
        clear hK K
        try simp only [Act.put, setIfInBounds_toArray, set_cons_zero, set_cons_succ]
        refine wpAnyH_ready (rs := [4]) (by kernel_rfl) (by simp) ?_
        refine AllReadyH.cons (o := ⟨some 150, _, _, _, _, _⟩) rfl (fun K hK => ?_) AllReadyH.nil
        go_simp
        refine hK.out _ _ ?_ (fun hHeld => ?_)
        · (try dsimp only); all_goals trivial
        clear hK K
        try simp only [Act.put, setIfInBounds_toArray, set_cons_zero, set_cons_succ]
        refine wpAnyH_ready (rs := [9]) (by kernel_rfl) (by simp) ?_
        refine AllReadyH.cons (o := ⟨some 155, _, _, _, _, _⟩) rfl (fun K hK => ?_) AllReadyH.nil
        go_simp
        refine (HSTK.out _ NOW.out).mono ?_
        rintro e w5 ⟨rfl, b3⟩
        have NOW := Lib.hid (bnextK NOW.out b3)
        have BI := Lib.hid (BI.out.past b3 BI.out.lt)
        clear b3
        go_wp2_with fail
        refine hK.out _ _ ?_ (fun hHeld => ?_)
        · (try dsimp only); all_goals trivial
        clear hK K
        try simp only [Act.put, setIfInBounds_toArray, set_cons_zero, set_cons_succ]
        refine wpAnyH_take (i := 10) (oi := ⟨some 145, _, _, _, _, _⟩) (v := ?_) rfl (by kernel_rfl) (by kernel_rfl) (by kernel_rfl) (fun _ _ _ h => h) (Or.inl ⟨by rfl, ?_⟩) (by assumption) ?_; rotate_left
        · intro w hSw; (try dsimp only at hSw); go_simp; try with_reducible rfl
        try simp only [Act.put, setIfInBounds_toArray, set_cons_zero, set_cons_succ]
        refine wpAnyH_take (i := 11) (oi := ⟨some 156, _, _, _, _, _⟩) (v := ?_) rfl (by kernel_rfl) (by kernel_rfl) (by kernel_rfl) (fun _ _ _ h => h) (Or.inl ⟨by rfl, ?_⟩) (by assumption) ?_; rotate_left
        · intro w hSw; (try dsimp only at hSw); go_simp; try with_reducible rfl
        try simp only [Act.put, setIfInBounds_toArray, set_cons_zero, set_cons_succ]
        refine wpAnyH_take (i := 12) (oi := ⟨some 157, _, _, _, _, _⟩) (v := ?_) rfl (by kernel_rfl) (by kernel_rfl) (by kernel_rfl) (fun _ _ _ h => h) (Or.inl ⟨by rfl, ?_⟩) (by assumption) ?_; rotate_left
        · intro w hSw; (try dsimp only at hSw); go_simp; try with_reducible rfl
        try simp only [Act.put, setIfInBounds_toArray, set_cons_zero, set_cons_succ]
        refine wpAnyH_ready (rs := [14]) (by kernel_rfl) (by simp) ?_
        refine AllReadyH.cons (o := ⟨none, _, _, _, _, _⟩) rfl (fun K hK => ?_) AllReadyH.nil
        refine step_store_row 45 _ _ rfl rfl wq.heap.size #[.int .i64 f, .int .i64 hl, .int .i64 sp] rfl rfl _ _ BI.out HIS.out rfl HIO.out ?_
        have BF := Lib.hid (Bk.setRow BI.out #[.int .i64 f, .int .i64 hl, .int .i64 sp])
        have NOWF := Lib.hid (NOW.out.trans ((keepL_row _ wq.heap.size #[.int .i64 f, .int .i64 hl, .int .i64 sp]).below NOW.out.size (by simpa using HCA.out)))
        refine hK.out _ _ ?_ (fun hHeld => ?_)
        · (try dsimp only); all_goals trivial
        clear hK K
        try simp only [Act.put]
        refine wpAnyH_take (i := 15) (oi := ⟨some 19, _, _, _, _, _⟩) (v := ?_) rfl (by kernel_rfl) (by kernel_rfl) (by kernel_rfl) (fun _ _ _ h => h) (Or.inl ⟨by rfl, ?_⟩) (by assumption) ?_; rotate_left
        · intro w hSw; (try dsimp only at hSw); go_simp; try with_reducible rfl
        try simp only [Act.put, setIfInBounds_toArray, set_cons_zero, set_cons_succ]
        refine wpAnyH_done (by kernel_rfl) ?_ _
        go_wp2_with fail
        go_meet
        exact ⟨rfl, _, rfl, BF.out, NOWF.out⟩
      refine AllReadyH.cons (o := ⟨some 18, _, _, _, _, _⟩) rfl (fun K hK => ?_) AllReadyH.nil
      go_simp
      obtain ⟨wz, hwz⟩ : ∃ z, z = wq.alloc (.cells #[.int .i64 0, .int .i64 0, .int .i64 0] 45) := ⟨_, rfl⟩
      have bz : Below wq.heap.size wq wz := by rw [hwz]; exact below_alloc _ _
      have BI : Hid (Bk wz wq.heap.size #[.int .i64 0, .int .i64 0, .int .i64 0] 45) := Lib.hid (by rw [hwz]; exact Bk.new _ _ _)
      have HCA := Lib.hid NOW.out.size
      have NOW := Lib.hid (bnextK NOW.out bz)
      have x3 : wz.cell? ⟨w0.heap.size, a, none⟩ = some (encS (nm a)) := (bz.cell (p := ⟨w0.heap.size, a, none⟩) (cell_ltO x3)).trans x3
      have y4 : wz.cell? ⟨w3.heap.size, b, none⟩ = some (encS (nm b)) := (bz.cell (p := ⟨w3.heap.size, b, none⟩) (cell_ltO y4)).trans y4
      rw [← hwz]
      clear hwz bz
      refine hK.out _ _ ?_ (fun hHeld => ?_)
      · (try dsimp only); all_goals trivial
      clear hK K
      try simp only [Act.put, setIfInBounds_toArray, set_cons_zero, set_cons_succ]
      refine wpAnyH_ready (rs := [4, 8]) (by kernel_rfl) (by simp) ?_
      refine AllReadyH.cons (o := ⟨some 150, _, _, _, _, _⟩) rfl (fun K hK => ?_) ?_
      · skip
        go_simp
        refine hK.out _ _ ?_ (fun hHeld => ?_)
        · (try dsimp only); all_goals trivial
        clear hK K
        try simp only [Act.put, setIfInBounds_toArray, set_cons_zero, set_cons_succ]
        refine wpAnyH_ready (rs := [8]) (by kernel_rfl) (by simp) ?_
        refine AllReadyH.cons (o := ⟨some 154, _, _, _, _, _⟩) rfl (fun K hK => ?_) AllReadyH.nil
        go_simp
        refine hK.out _ _ ?_ (fun hHeld => ?_)
        · (try dsimp only); all_goals trivial
        clear hK K
        try simp only [Act.put, setIfInBounds_toArray, set_cons_zero, set_cons_succ]
        refine wpAnyH_ready (rs := [9]) (by kernel_rfl) (by simp) ?_
        refine AllReadyH.cons (o := ⟨some 155, _, _, _, _, _⟩) rfl (fun K hK => ?_) AllReadyH.nil
        go_simp
        refine (HSTK.out _ NOW.out).mono ?_
        rintro e w5 ⟨rfl, b3⟩
        have NOW := Lib.hid (bnextK NOW.out b3)
        have BI := Lib.hid (BI.out.past b3 BI.out.lt)
        clear b3
        go_wp2_with fail
        refine hK.out _ _ ?_ (fun hHeld => ?_)
        · (try dsimp only); all_goals trivial
        clear hK K
        try simp only [Act.put, setIfInBounds_toArray, set_cons_zero, set_cons_succ]
        refine wpAnyH_take (i := 10) (oi := ⟨some 145, _, _, _, _, _⟩) (v := ?_) rfl (by kernel_rfl) (by kernel_rfl) (by kernel_rfl) (fun _ _ _ h => h) (Or.inl ⟨by rfl, ?_⟩) (by assumption) ?_; rotate_left
        · intro w hSw; (try dsimp only at hSw); go_simp; try with_reducible rfl
        try simp only [Act.put, setIfInBounds_toArray, set_cons_zero, set_cons_succ]
        refine wpAnyH_take (i := 11) (oi := ⟨some 156, _, _, _, _, _⟩) (v := ?_) rfl (by kernel_rfl) (by kernel_rfl) (by kernel_rfl) (fun _ _ _ h => h) (Or.inl ⟨by rfl, ?_⟩) (by assumption) ?_; rotate_left
        · intro w hSw; (try dsimp only at hSw); go_simp; try with_reducible rfl
        try simp only [Act.put, setIfInBounds_toArray, set_cons_zero, set_cons_succ]
        refine wpAnyH_take (i := 12) (oi := ⟨some 157, _, _, _, _, _⟩) (v := ?_) rfl (by kernel_rfl) (by kernel_rfl) (by kernel_rfl) (fun _ _ _ h => h) (Or.inl ⟨by rfl, ?_⟩) (by assumption) ?_; rotate_left
        · intro w hSw; (try dsimp only at hSw); go_simp; try with_reducible rfl
        try simp only [Act.put, setIfInBounds_toArray, set_cons_zero, set_cons_succ]
        refine wpAnyH_ready (rs := [14]) (by kernel_rfl) (by simp) ?_
        refine AllReadyH.cons (o := ⟨none, _, _, _, _, _⟩) rfl (fun K hK => ?_) AllReadyH.nil
        refine step_store_row 45 _ _ rfl rfl wq.heap.size #[.int .i64 f, .int .i64 hl, .int .i64 sp] rfl rfl _ _ BI.out HIS.out rfl HIO.out ?_
        have BF := Lib.hid (Bk.setRow BI.out #[.int .i64 f, .int .i64 hl, .int .i64 sp])
        have NOWF := Lib.hid (NOW.out.trans ((keepL_row _ wq.heap.size #[.int .i64 f, .int .i64 hl, .int .i64 sp]).below NOW.out.size (by simpa using HCA.out)))
        refine hK.out _ _ ?_ (fun hHeld => ?_)
        · (try dsimp only); all_goals trivial
        clear hK K
        try simp only [Act.put]
        refine wpAnyH_take (i := 15) (oi := ⟨some 19, _, _, _, _, _⟩) (v := ?_) rfl (by kernel_rfl) (by kernel_rfl) (by kernel_rfl) (fun _ _ _ h => h) (Or.inl ⟨by rfl, ?_⟩) (by assumption) ?_; rotate_left
        · intro w hSw; (try dsimp only at hSw); go_simp; try with_reducible rfl
        try simp only [Act.put, setIfInBounds_toArray, set_cons_zero, set_cons_succ]
        refine wpAnyH_done (by kernel_rfl) ?_ _
        go_wp2_with fail
        go_meet
        exact ⟨rfl, _, rfl, BF.out, NOWF.out⟩
      refine AllReadyH.cons (o := ⟨some 154, _, _, _, _, _⟩) rfl (fun K hK => ?_) AllReadyH.nil
      go_simp
      refine hK.out _ _ ?_ (fun hHeld => ?_)
      · (try dsimp only); all_goals trivial
      clear hK K
      try simp only [Act.put, setIfInBounds_toArray, set_cons_zero, set_cons_succ]
      refine wpAnyH_ready (rs := [4]) (by kernel_rfl) (by simp) ?_
      refine AllReadyH.cons (o := ⟨some 150, _, _, _, _, _⟩) rfl (fun K hK => ?_) AllReadyH.nil
      go_simp
      refine hK.out _ _ ?_ (fun hHeld => ?_)
      · (try dsimp only); all_goals trivial
      clear hK K
      try simp only [Act.put, setIfInBounds_toArray, set_cons_zero, set_cons_succ]
      refine wpAnyH_ready (rs := [9]) (by kernel_rfl) (by simp) ?_
      refine AllReadyH.cons (o := ⟨some 155, _, _, _, _, _⟩) rfl (fun K hK => ?_) AllReadyH.nil
      go_simp
      refine (HSTK.out _ NOW.out).mono ?_
      rintro e w5 ⟨rfl, b3⟩
      have NOW := Lib.hid (bnextK NOW.out b3)
      have BI := Lib.hid (BI.out.past b3 BI.out.lt)
      clear b3
      go_wp2_with fail
      refine hK.out _ _ ?_ (fun hHeld => ?_)
      · (try dsimp only); all_goals trivial
      clear hK K
      try simp only [Act.put, setIfInBounds_toArray, set_cons_zero, set_cons_succ]
      refine wpAnyH_take (i := 10) (oi := ⟨some 145, _, _, _, _, _⟩) (v := ?_) rfl (by kernel_rfl) (by kernel_rfl) (by kernel_rfl) (fun _ _ _ h => h) (Or.inl ⟨by rfl, ?_⟩) (by assumption) ?_; rotate_left
      · intro w hSw; (try dsimp only at hSw); go_simp; try with_reducible rfl
      try simp only [Act.put, setIfInBounds_toArray, set_cons_zero, set_cons_succ]
      refine wpAnyH_take (i := 11) (oi := ⟨some 156, _, _, _, _, _⟩) (v := ?_) rfl (by kernel_rfl) (by kernel_rfl) (by kernel_rfl) (fun _ _ _ h => h) (Or.inl ⟨by rfl, ?_⟩) (by assumption) ?_; rotate_left
      · intro w hSw; (try dsimp only at hSw); go_simp; try with_reducible rfl
      try simp only [Act.put, setIfInBounds_toArray, set_cons_zero, set_cons_succ]
      refine wpAnyH_take (i := 12) (oi := ⟨some 157, _, _, _, _, _⟩) (v := ?_) rfl (by kernel_rfl) (by kernel_rfl) (by kernel_rfl) (fun _ _ _ h => h) (Or.inl ⟨by rfl, ?_⟩) (by assumption) ?_; rotate_left
      · intro w hSw; (try dsimp only at hSw); go_simp; try with_reducible rfl
      try simp only [Act.put, setIfInBounds_toArray, set_cons_zero, set_cons_succ]
      refine wpAnyH_ready (rs := [14]) (by kernel_rfl) (by simp) ?_
      refine AllReadyH.cons (o := ⟨none, _, _, _, _, _⟩) rfl (fun K hK => ?_) AllReadyH.nil
      refine step_store_row 45 _ _ rfl rfl wq.heap.size #[.int .i64 f, .int .i64 hl, .int .i64 sp] rfl rfl _ _ BI.out HIS.out rfl HIO.out ?_
      have BF := Lib.hid (Bk.setRow BI.out #[.int .i64 f, .int .i64 hl, .int .i64 sp])
      have NOWF := Lib.hid (NOW.out.trans ((keepL_row _ wq.heap.size #[.int .i64 f, .int .i64 hl, .int .i64 sp]).below NOW.out.size (by simpa using HCA.out)))
      refine hK.out _ _ ?_ (fun hHeld => ?_)
      · (try dsimp only); all_goals trivial
      clear hK K
      try simp only [Act.put]
      refine wpAnyH_take (i := 15) (oi := ⟨some 19, _, _, _, _, _⟩) (v := ?_) rfl (by kernel_rfl) (by kernel_rfl) (by kernel_rfl) (fun _ _ _ h => h) (Or.inl ⟨by rfl, ?_⟩) (by assumption) ?_; rotate_left
      · intro w hSw; (try dsimp only at hSw); go_simp; try with_reducible rfl
      try simp only [Act.put, setIfInBounds_toArray, set_cons_zero, set_cons_succ]
      refine wpAnyH_done (by kernel_rfl) ?_ _
      go_wp2_with fail
      go_meet
      exact ⟨rfl, _, rfl, BF.out, NOWF.out⟩
    refine AllReadyH.cons (o := ⟨some 18, _, _, _, _, _⟩) rfl (fun K hK => ?_) AllReadyH.nil
    go_simp
    obtain ⟨wz, hwz⟩ : ∃ z, z = w3.alloc (.cells #[.int .i64 0, .int .i64 0, .int .i64 0] 45) := ⟨_, rfl⟩
    have bz : Below w3.heap.size w3 wz := by rw [hwz]; exact below_alloc _ _
    have BI : Hid (Bk wz w3.heap.size #[.int .i64 0, .int .i64 0, .int .i64 0] 45) := Lib.hid (by rw [hwz]; exact Bk.new _ _ _)
    have HCA := Lib.hid NOW.out.size
    have NOW := Lib.hid (bnextK NOW.out bz)
    have x3 : wz.cell? ⟨w0.heap.size, a, none⟩ = some (encS (nm a)) := (bz.cell (p := ⟨w0.heap.size, a, none⟩) (cell_ltO x3)).trans x3
    rw [← hwz]
    clear hwz bz
    refine hK.out _ _ ?_ (fun hHeld => ?_)
    · (try dsimp only); all_goals trivial
    clear hK K
    try simp only [Act.put, setIfInBounds_toArray, set_cons_zero, set_cons_succ]
    refine wpAnyH_ready (rs := [4, 5]) (by kernel_rfl) (by simp) ?_
    refine AllReadyH.cons (o := ⟨some 150, _, _, _, _, _⟩) rfl (fun K hK => ?_) ?_
    · skip
      go_simp
      refine hK.out _ _ ?_ (fun hHeld => ?_)
      · (try dsimp only); all_goals trivial
      clear hK K
      try simp only [Act.put, setIfInBounds_toArray, set_cons_zero, set_cons_succ]
      refine wpAnyH_ready (rs := [5]) (by kernel_rfl) (by simp) ?_
      refine AllReadyH.cons (o := ⟨some 151, _, _, _, _, _⟩) rfl (fun K hK => ?_) AllReadyH.nil
      go_simp
      refine (names_any _).mono ?_
      rintro e wq ⟨rfl, hw4⟩
      obtain ⟨f4, b3⟩ := names_fact hw4
      have y4 : wq.cell? ⟨wz.heap.size, b, none⟩ = some (encS (nm b)) := f4 b HB8.out
      have x3 : wq.cell? ⟨w0.heap.size, a, none⟩ = some (encS (nm a)) := (b3.cell (p := ⟨w0.heap.size, a, none⟩) (cell_ltO x3)).trans x3
      have NOW := Lib.hid (bnextK NOW.out b3)
      have BI := Lib.hid (BI.out.past b3 BI.out.lt)
      clear hw4 f4 b3
      go_wp2_with fail
      refine hK.out _ _ ?_ (fun hHeld => ?_)
      · (try dsimp only); all_goals trivial
      clear hK K
      try simp only [Act.put, setIfInBounds_toArray, set_cons_zero, set_cons_succ]
      refine wpAnyH_take (i := 7) (oi := ⟨some 153, _, _, _, _, _⟩) (v := ?_) rfl (by kernel_rfl) (by kernel_rfl) (by kernel_rfl) (fun _ _ _ h => h) (Or.inl ⟨by rfl, ?_⟩) (by assumption) ?_; rotate_left
      · intro w hSw; (try dsimp only at hSw); go_simp; try with_reducible rfl
      try simp only [Act.put, setIfInBounds_toArray, set_cons_zero, set_cons_succ]
      refine wpAnyH_ready (rs := [8]) (by kernel_rfl) (by simp) ?_
      refine AllReadyH.cons (o := ⟨some 154, _, _, _, _, _⟩) rfl (fun K hK => ?_) AllReadyH.nil
      go_simp
      refine hK.out _ _ ?_ (fun hHeld => ?_)
      · (try dsimp only); all_goals trivial
      clear hK K
      try simp only [Act.put, setIfInBounds_toArray, set_cons_zero, set_cons_succ]
      refine wpAnyH_ready (rs := [9]) (by kernel_rfl) (by simp) ?_
      refine AllReadyH.cons (o := ⟨some 155, _, _, _, _, _⟩) rfl (fun K hK => ?_) AllReadyH.nil
      go_simp
      refine (HSTK.out _ NOW.out).mono ?_
      rintro e w5 ⟨rfl, b3⟩
      have NOW := Lib.hid (bnextK NOW.out b3)
      have BI := Lib.hid (BI.out.past b3 BI.out.lt)
      clear b3
      go_wp2_with fail
      refine hK.out _ _ ?_ (fun hHeld => ?_)
      · (try dsimp only); all_goals trivial
      clear hK K
      try simp only [Act.put, setIfInBounds_toArray, set_cons_zero, set_cons_succ]
      refine wpAnyH_take (i := 10) (oi := ⟨some 145, _, _, _, _, _⟩) (v := ?_) rfl (by kernel_rfl) (by kernel_rfl) (by kernel_rfl) (fun _ _ _ h => h) (Or.inl ⟨by rfl, ?_⟩) (by assumption) ?_; rotate_left
      · intro w hSw; (try dsimp only at hSw); go_simp; try with_reducible rfl
      try simp only [Act.put, setIfInBounds_toArray, set_cons_zero, set_cons_succ]
      refine wpAnyH_take (i := 11) (oi := ⟨some 156, _, _, _, _, _⟩) (v := ?_) rfl (by kernel_rfl) (by kernel_rfl) (by kernel_rfl) (fun _ _ _ h => h) (Or.inl ⟨by rfl, ?_⟩) (by assumption) ?_; rotate_left
      · intro w hSw; (try dsimp only at hSw); go_simp; try with_reducible rfl
      try simp only [Act.put, setIfInBounds_toArray, set_cons_zero, set_cons_succ]
      refine wpAnyH_take (i := 12) (oi := ⟨some 157, _, _, _, _, _⟩) (v := ?_) rfl (by kernel_rfl) (by kernel_rfl) (by kernel_rfl) (fun _ _ _ h => h) (Or.inl ⟨by rfl, ?_⟩) (by assumption) ?_; rotate_left
      · intro w hSw; (try dsimp only at hSw); go_simp; try with_reducible rfl
      try simp only [Act.put, setIfInBounds_toArray, set_cons_zero, set_cons_succ]
      refine wpAnyH_ready (rs := [14]) (by kernel_rfl) (by simp) ?_
      refine AllReadyH.cons (o := ⟨none, _, _, _, _, _⟩) rfl (fun K hK => ?_) AllReadyH.nil
      refine step_store_row 45 _ _ rfl rfl w3.heap.size #[.int .i64 f, .int .i64 hl, .int .i64 sp] rfl rfl _ _ BI.out HIS.out rfl HIO.out ?_
      have BF := Lib.hid (Bk.setRow BI.out #[.int .i64 f, .int .i64 hl, .int .i64 sp])
      have NOWF := Lib.hid (NOW.out.trans ((keepL_row _ w3.heap.size #[.int .i64 f, .int .i64 hl, .int .i64 sp]).below NOW.out.size (by simpa using HCA.out)))
      refine hK.out _ _ ?_ (fun hHeld => ?_)
      · (try dsimp only); all_goals trivial
      clear hK K
      try simp only [Act.put]
      refine wpAnyH_take (i := 15) (oi := ⟨some 19, _, _, _, _, _⟩) (v := ?_) rfl (by kernel_rfl) (by kernel_rfl) (by kernel_rfl) (fun _ _ _ h => h) (Or.inl ⟨by rfl, ?_⟩) (by assumption) ?_; rotate_left
      · intro w hSw; (try dsimp only at hSw); go_simp; try with_reducible rfl
      try simp only [Act.put, setIfInBounds_toArray, set_cons_zero, set_cons_succ]
      refine wpAnyH_done (by kernel_rfl) ?_ _
      go_wp2_with fail
      go_meet
      exact ⟨rfl, _, rfl, BF.out, NOWF.out⟩
    refine AllReadyH.cons (o := ⟨some 151, _, _, _, _, _⟩) rfl (fun K hK => ?_) AllReadyH.nil
    go_simp
    refine (names_any _).mono ?_
    rintro e wq ⟨rfl, hw4⟩
    obtain ⟨f4, b3⟩ := names_fact hw4
    have y4 : wq.cell? ⟨wz.heap.size, b, none⟩ = some (encS (nm b)) := f4 b HB8.out
    have x3 : wq.cell? ⟨w0.heap.size, a, none⟩ = some (encS (nm a)) := (b3.cell (p := ⟨w0.heap.size, a, none⟩) (cell_ltO x3)).trans x3
    have NOW := Lib.hid (bnextK NOW.out b3)
    have BI := Lib.hid (BI.out.past b3 BI.out.lt)
    clear hw4 f4 b3
    go_wp2_with fail
    refine hK.out _ _ ?_ (fun hHeld => ?_)
    · (try dsimp only); all_goals trivial
    clear hK K
    try simp only [Act.put, setIfInBounds_toArray, set_cons_zero, set_cons_succ]
    refine wpAnyH_take (i := 7) (oi := ⟨some 153, _, _, _, _, _⟩) (v := ?_) rfl (by kernel_rfl) (by kernel_rfl) (by kernel_rfl) (fun _ _ _ h => h) (Or.inl ⟨by rfl, ?_⟩) (by assumption) ?_; rotate_left
    · intro w hSw; (try dsimp only at hSw); go_simp; try with_reducible rfl
    try simp only [Act.put, setIfInBounds_toArray, set_cons_zero, set_cons_succ]
    refine wpAnyH_ready (rs := [4, 8]) (by kernel_rfl) (by simp) ?_
    refine AllReadyH.cons (o := ⟨some 150, _, _, _, _, _⟩) rfl (fun K hK => ?_) ?_
    · skip
      go_simp
      refine hK.out _ _ ?_ (fun hHeld => ?_)
      · (try dsimp only); all_goals trivial
      clear hK K
      try simp only [Act.put, setIfInBounds_toArray, set_cons_zero, set_cons_succ]
      refine wpAnyH_ready (rs := [8]) (by kernel_rfl) (by simp) ?_
      refine AllReadyH.cons (o := ⟨some 154, _, _, _, _, _⟩) rfl (fun K hK => ?_) AllReadyH.nil
      go_simp
      refine hK.out _ _ ?_ (fun hHeld => ?_)
      · (try dsimp only); all_goals trivial
      clear hK K
      try simp only [Act.put, setIfInBounds_toArray, set_cons_zero, set_cons_succ]
      refine wpAnyH_ready (rs := [9]) (by kernel_rfl) (by simp) ?_
      refine AllReadyH.cons (o := ⟨some 155, _, _, _, _, _⟩) rfl (fun K hK => ?_) AllReadyH.nil
      go_simp
      refine (HSTK.out _ NOW.out).mono ?_
      rintro e w5 ⟨rfl, b3⟩
      have NOW := Lib.hid (bnextK NOW.out b3)
      have BI := Lib.hid (BI.out.past b3 BI.out.lt)
      clear b3
      go_wp2_with fail
      refine hK.out _ _ ?_ (fun hHeld => ?_)
      · (try dsimp only); all_goals trivial
      clear hK K
      try simp only [Act.put, setIfInBounds_toArray, set_cons_zero, set_cons_succ]
      refine wpAnyH_take (i := 10) (oi := ⟨some 145, _, _, _, _, _⟩) (v := ?_) rfl (by kernel_rfl) (by kernel_rfl) (by kernel_rfl) (fun _ _ _ h => h) (Or.inl ⟨by rfl, ?_⟩) (by assumption) ?_; rotate_left
      · intro w hSw; (try dsimp only at hSw); go_simp; try with_reducible rfl
      try simp only [Act.put, setIfInBounds_toArray, set_cons_zero, set_cons_succ]
      refine wpAnyH_take (i := 11) (oi := ⟨some 156, _, _, _, _, _⟩) (v := ?_) rfl (by kernel_rfl) (by kernel_rfl) (by kernel_rfl) (fun _ _ _ h => h) (Or.inl ⟨by rfl, ?_⟩) (by assumption) ?_; rotate_left
      · intro w hSw; (try dsimp only at hSw); go_simp; try with_reducible rfl
      try simp only [Act.put, setIfInBounds_toArray, set_cons_zero, set_cons_succ]
      refine wpAnyH_take (i := 12) (oi := ⟨some 157, _, _, _, _, _⟩) (v := ?_) rfl (by kernel_rfl) (by kernel_rfl) (by kernel_rfl) (fun _ _ _ h => h) (Or.inl ⟨by rfl, ?_⟩) (by assumption) ?_; rotate_left
      · intro w hSw; (try dsimp only at hSw); go_simp; try with_reducible rfl
      try simp only [Act.put, setIfInBounds_toArray, set_cons_zero, set_cons_succ]
      refine wpAnyH_ready (rs := [14]) (by kernel_rfl) (by simp) ?_
      refine AllReadyH.cons (o := ⟨none, _, _, _, _, _⟩) rfl (fun K hK => ?_) AllReadyH.nil
      refine step_store_row 45 _ _ rfl rfl w3.heap.size #[.int .i64 f, .int .i64 hl, .int .i64 sp] rfl rfl _ _ BI.out HIS.out rfl HIO.out ?_
      have BF := Lib.hid (Bk.setRow BI.out #[.int .i64 f, .int .i64 hl, .int .i64 sp])
      have NOWF := Lib.hid (NOW.out.trans ((keepL_row _ w3.heap.size #[.int .i64 f, .int .i64 hl, .int .i64 sp]).below NOW.out.size (by simpa using HCA.out)))
      refine hK.out _ _ ?_ (fun hHeld => ?_)
      · (try dsimp only); all_goals trivial
      clear hK K
      try simp only [Act.put]
      refine wpAnyH_take (i := 15) (oi := ⟨some 19, _, _, _, _, _⟩) (v := ?_) rfl (by kernel_rfl) (by kernel_rfl) (by kernel_rfl) (fun _ _ _ h => h) (Or.inl ⟨by rfl, ?_⟩) (by assumption) ?_; rotate_left
      · intro w hSw; (try dsimp only at hSw); go_simp; try with_reducible rfl
      try simp only [Act.put, setIfInBounds_toArray, set_cons_zero, set_cons_succ]
      refine wpAnyH_done (by kernel_rfl) ?_ _
      go_wp2_with fail
      go_meet
      exact ⟨rfl, _, rfl, BF.out, NOWF.out⟩
    refine AllReadyH.cons (o := ⟨some 154, _, _, _, _, _⟩) rfl (fun K hK => ?_) AllReadyH.nil
    go_simp
    refine hK.out _ _ ?_ (fun hHeld => ?_)
    · (try dsimp only); all_goals trivial
    clear hK K
    try simp only [Act.put, setIfInBounds_toArray, set_cons_zero, set_cons_succ]
    refine wpAnyH_ready (rs := [4]) (by kernel_rfl) (by simp) ?_
    refine AllReadyH.cons (o := ⟨some 150, _, _, _, _, _⟩) rfl (fun K hK => ?_) AllReadyH.nil
    go_simp
    refine hK.out _ _ ?_ (fun hHeld => ?_)
    · (try dsimp only); all_goals trivial
    clear hK K
    try simp only [Act.put, setIfInBounds_toArray, set_cons_zero, set_cons_succ]
    refine wpAnyH_ready (rs := [9]) (by kernel_rfl) (by simp) ?_
    refine AllReadyH.cons (o := ⟨some 155, _, _, _, _, _⟩) rfl (fun K hK => ?_) AllReadyH.nil
    go_simp
    refine (HSTK.out _ NOW.out).mono ?_
    rintro e w5 ⟨rfl, b3⟩
    have NOW := Lib.hid (bnextK NOW.out b3)
    have BI := Lib.hid (BI.out.past b3 BI.out.lt)
    clear b3
    go_wp2_with fail
    refine hK.out _ _ ?_ (fun hHeld => ?_)
    · (try dsimp only); all_goals trivial
    clear hK K
    try simp only [Act.put, setIfInBounds_toArray, set_cons_zero, set_cons_succ]
    refine wpAnyH_take (i := 10) (oi := ⟨some 145, _, _, _, _, _⟩) (v := ?_) rfl (by kernel_rfl) (by kernel_rfl) (by kernel_rfl) (fun _ _ _ h => h) (Or.inl ⟨by rfl, ?_⟩) (by assumption) ?_; rotate_left
    · intro w hSw; (try dsimp only at hSw); go_simp; try with_reducible rfl
    try simp only [Act.put, setIfInBounds_toArray, set_cons_zero, set_cons_succ]
    refine wpAnyH_take (i := 11) (oi := ⟨some 156, _, _, _, _, _⟩) (v := ?_) rfl (by kernel_rfl) (by kernel_rfl) (by kernel_rfl) (fun _ _ _ h => h) (Or.inl ⟨by rfl, ?_⟩) (by assumption) ?_; rotate_left
    · intro w hSw; (try dsimp only at hSw); go_simp; try with_reducible rfl
    try simp only [Act.put, setIfInBounds_toArray, set_cons_zero, set_cons_succ]
    refine wpAnyH_take (i := 12) (oi := ⟨some 157, _, _, _, _, _⟩) (v := ?_) rfl (by kernel_rfl) (by kernel_rfl) (by kernel_rfl) (fun _ _ _ h => h) (Or.inl ⟨by rfl, ?_⟩) (by assumption) ?_; rotate_left
    · intro w hSw; (try dsimp only at hSw); go_simp; try with_reducible rfl
    try simp only [Act.put, setIfInBounds_toArray, set_cons_zero, set_cons_succ]
    refine wpAnyH_ready (rs := [14]) (by kernel_rfl) (by simp) ?_
    refine AllReadyH.cons (o := ⟨none, _, _, _, _, _⟩) rfl (fun K hK => ?_) AllReadyH.nil
    refine step_store_row 45 _ _ rfl rfl w3.heap.size #[.int .i64 f, .int .i64 hl, .int .i64 sp] rfl rfl _ _ BI.out HIS.out rfl HIO.out ?_
    have BF := Lib.hid (Bk.setRow BI.out #[.int .i64 f, .int .i64 hl, .int .i64 sp])
    have NOWF := Lib.hid (NOW.out.trans ((keepL_row _ w3.heap.size #[.int .i64 f, .int .i64 hl, .int .i64 sp]).below NOW.out.size (by simpa using HCA.out)))
    refine hK.out _ _ ?_ (fun hHeld => ?_)
    · (try dsimp only); all_goals trivial
    clear hK K
    try simp only [Act.put]
    refine wpAnyH_take (i := 15) (oi := ⟨some 19, _, _, _, _, _⟩) (v := ?_) rfl (by kernel_rfl) (by kernel_rfl) (by kernel_rfl) (fun _ _ _ h => h) (Or.inl ⟨by rfl, ?_⟩) (by assumption) ?_; rotate_left
    · intro w hSw; (try dsimp only at hSw); go_simp; try with_reducible rfl
    try simp only [Act.put, setIfInBounds_toArray, set_cons_zero, set_cons_succ]
    refine wpAnyH_done (by kernel_rfl) ?_ _
    go_wp2_with fail
    go_meet
    exact ⟨rfl, _, rfl, BF.out, NOWF.out⟩
  refine AllReadyH.cons (o := ⟨some 18, _, _, _, _, _⟩) rfl (fun K hK => ?_) AllReadyH.nil
  go_simp
  obtain ⟨wz, hwz⟩ : ∃ z, z = w0.alloc (.cells #[.int .i64 0, .int .i64 0, .int .i64 0] 45) := ⟨_, rfl⟩
  have bz : Below w0.heap.size w0 wz := by rw [hwz]; exact below_alloc _ _
  have BI : Hid (Bk wz w0.heap.size #[.int .i64 0, .int .i64 0, .int .i64 0] 45) := Lib.hid (by rw [hwz]; exact Bk.new _ _ _)
  have HCA := Lib.hid NOW.out.size
  have NOW := Lib.hid (bnextK NOW.out bz)
  rw [← hwz]
  clear hwz bz
  refine hK.out _ _ ?_ (fun hHeld => ?_)
  · (try dsimp only); all_goals trivial
  clear hK K
  try simp only [Act.put, setIfInBounds_toArray, set_cons_zero, set_cons_succ]
  refine wpAnyH_ready (rs := [1]) (by kernel_rfl) (by simp) ?_
  refine AllReadyH.cons (o := ⟨some 147, _, _, _, _, _⟩) rfl (fun K hK => ?_) AllReadyH.nil
  go_simp
  refine (names_any _).mono ?_
  rintro e w3 ⟨rfl, hw3⟩
  obtain ⟨f3, b3⟩ := names_fact hw3
  have x3 : w3.cell? ⟨wz.heap.size, a, none⟩ = some (encS (nm a)) := f3 a HA8.out
  have NOW := Lib.hid (bnextK NOW.out b3)
  have BI := Lib.hid (BI.out.past b3 BI.out.lt)
  clear hw3 f3 b3
  go_wp2_with fail
  refine hK.out _ _ ?_ (fun hHeld => ?_)
  · (try dsimp only); all_goals trivial
  clear hK K
  try simp only [Act.put, setIfInBounds_toArray, set_cons_zero, set_cons_succ]
  refine wpAnyH_take (i := 3) (oi := ⟨some 149, _, _, _, _, _⟩) (v := ?_) rfl (by kernel_rfl) (by kernel_rfl) (by kernel_rfl) (fun _ _ _ h => h) (Or.inl ⟨by rfl, ?_⟩) (by assumption) ?_; rotate_left
  · intro w hSw; (try dsimp only at hSw); go_simp; try with_reducible rfl
  try simp only [Act.put, setIfInBounds_toArray, set_cons_zero, set_cons_succ]
  refine wpAnyH_ready (rs := [4, 5]) (by kernel_rfl) (by simp) ?_
  refine AllReadyH.cons (o := ⟨some 150, _, _, _, _, _⟩) rfl (fun K hK => ?_) ?_
  · skip
    go_simp
    refine hK.out _ _ ?_ (fun hHeld => ?_)
    · (try dsimp only); all_goals trivial
    clear hK K
    try simp only [Act.put, setIfInBounds_toArray, set_cons_zero, set_cons_succ]
    refine wpAnyH_ready (rs := [5]) (by kernel_rfl) (by simp) ?_
    refine AllReadyH.cons (o := ⟨some 151, _, _, _, _, _⟩) rfl (fun K hK => ?_) AllReadyH.nil
    go_simp
    refine (names_any _).mono ?_
    rintro e wq ⟨rfl, hw4⟩
    obtain ⟨f4, b3⟩ := names_fact hw4
    have y4 : wq.cell? ⟨w3.heap.size, b, none⟩ = some (encS (nm b)) := f4 b HB8.out
    have x3 : wq.cell? ⟨wz.heap.size, a, none⟩ = some (encS (nm a)) := (b3.cell (p := ⟨wz.heap.size, a, none⟩) (cell_ltO x3)).trans x3
    have NOW := Lib.hid (bnextK NOW.out b3)
    have BI := Lib.hid (BI.out.past b3 BI.out.lt)
    clear hw4 f4 b3
    go_wp2_with fail
    refine hK.out _ _ ?_ (fun hHeld => ?_)
    · (try dsimp only); all_goals trivial
    clear hK K
    try simp only [Act.put, setIfInBounds_toArray, set_cons_zero, set_cons_succ]
    refine wpAnyH_take (i := 7) (oi := ⟨some 153, _, _, _, _, _⟩) (v := ?_) rfl (by kernel_rfl) (by kernel_rfl) (by kernel_rfl) (fun _ _ _ h => h) (Or.inl ⟨by rfl, ?_⟩) (by assumption) ?_; rotate_left
    · intro w hSw; (try dsimp only at hSw); go_simp; try with_reducible rfl
    try simp only [Act.put, setIfInBounds_toArray, set_cons_zero, set_cons_succ]
    refine wpAnyH_ready (rs := [8]) (by kernel_rfl) (by simp) ?_
    refine AllReadyH.cons (o := ⟨some 154, _, _, _, _, _⟩) rfl (fun K hK => ?_) AllReadyH.nil
    go_simp
    refine hK.out _ _ ?_ (fun hHeld => ?_)
    · (try dsimp only); all_goals trivial
    clear hK K
    try simp only [Act.put, setIfInBounds_toArray, set_cons_zero, set_cons_succ]
    refine wpAnyH_ready (rs := [9]) (by kernel_rfl) (by simp) ?_
    refine AllReadyH.cons (o := ⟨some 155, _, _, _, _, _⟩) rfl (fun K hK => ?_) AllReadyH.nil
    go_simp
    refine (HSTK.out _ NOW.out).mono ?_
    rintro e w5 ⟨rfl, b3⟩
    have NOW := Lib.hid (bnextK NOW.out b3)
    have BI := Lib.hid (BI.out.past b3 BI.out.lt)
    clear b3
    go_wp2_with fail
    refine hK.out _ _ ?_ (fun hHeld => ?_)
    · (try dsimp only); all_goals trivial
    clear hK K
    try simp only [Act.put, setIfInBounds_toArray, set_cons_zero, set_cons_succ]
    refine wpAnyH_take (i := 10) (oi := ⟨some 145, _, _, _, _, _⟩) (v := ?_) rfl (by kernel_rfl) (by kernel_rfl) (by kernel_rfl) (fun _ _ _ h => h) (Or.inl ⟨by rfl, ?_⟩) (by assumption) ?_; rotate_left
    · intro w hSw; (try dsimp only at hSw); go_simp; try with_reducible rfl
    try simp only [Act.put, setIfInBounds_toArray, set_cons_zero, set_cons_succ]
    refine wpAnyH_take (i := 11) (oi := ⟨some 156, _, _, _, _, _⟩) (v := ?_) rfl (by kernel_rfl) (by kernel_rfl) (by kernel_rfl) (fun _ _ _ h => h) (Or.inl ⟨by rfl, ?_⟩) (by assumption) ?_; rotate_left
    · intro w hSw; (try dsimp only at hSw); go_simp; try with_reducible rfl
    try simp only [Act.put, setIfInBounds_toArray, set_cons_zero, set_cons_succ]
    refine wpAnyH_take (i := 12) (oi := ⟨some 157, _, _, _, _, _⟩) (v := ?_) rfl (by kernel_rfl) (by kernel_rfl) (by kernel_rfl) (fun _ _ _ h => h) (Or.inl ⟨by rfl, ?_⟩) (by assumption) ?_; rotate_left
    · intro w hSw; (try dsimp only at hSw); go_simp; try with_reducible rfl
    try simp only [Act.put, setIfInBounds_toArray, set_cons_zero, set_cons_succ]
    refine wpAnyH_ready (rs := [14]) (by kernel_rfl) (by simp) ?_
    refine AllReadyH.cons (o := ⟨none, _, _, _, _, _⟩) rfl (fun K hK => ?_) AllReadyH.nil
    refine step_store_row 45 _ _ rfl rfl w0.heap.size #[.int .i64 f, .int .i64 hl, .int .i64 sp] rfl rfl _ _ BI.out HIS.out rfl HIO.out ?_
    have BF := Lib.hid (Bk.setRow BI.out #[.int .i64 f, .int .i64 hl, .int .i64 sp])
    have NOWF := Lib.hid (NOW.out.trans ((keepL_row _ w0.heap.size #[.int .i64 f, .int .i64 hl, .int .i64 sp]).below NOW.out.size (by simpa using HCA.out)))
    refine hK.out _ _ ?_ (fun hHeld => ?_)
    · (try dsimp only); all_goals trivial
    clear hK K
    try simp only [Act.put]
    refine wpAnyH_take (i := 15) (oi := ⟨some 19, _, _, _, _, _⟩) (v := ?_) rfl (by kernel_rfl) (by kernel_rfl) (by kernel_rfl) (fun _ _ _ h => h) (Or.inl ⟨by rfl, ?_⟩) (by assumption) ?_; rotate_left
    · intro w hSw; (try dsimp only at hSw); go_simp; try with_reducible rfl
    try simp only [Act.put, setIfInBounds_toArray, set_cons_zero, set_cons_succ]
    refine wpAnyH_done (by kernel_rfl) ?_ _
    go_wp2_with fail
    go_meet
    exact ⟨rfl, _, rfl, BF.out, NOWF.out⟩
  refine AllReadyH.cons (o := ⟨some 151, _, _, _, _, _⟩) rfl (fun K hK => ?_) AllReadyH.nil
  go_simp
  refine (names_any _).mono ?_
  rintro e wq ⟨rfl, hw4⟩
  obtain ⟨f4, b3⟩ := names_fact hw4
  have y4 : wq.cell? ⟨w3.heap.size, b, none⟩ = some (encS (nm b)) := f4 b HB8.out
  have x3 : wq.cell? ⟨wz.heap.size, a, none⟩ = some (encS (nm a)) := (b3.cell (p := ⟨wz.heap.size, a, none⟩) (cell_ltO x3)).trans x3
  have NOW := Lib.hid (bnextK NOW.out b3)
  have BI := Lib.hid (BI.out.past b3 BI.out.lt)
  clear hw4 f4 b3
  go_wp2_with fail
  refine hK.out _ _ ?_ (fun hHeld => ?_)
  · (try dsimp only); all_goals trivial
  clear hK K
  try simp only [Act.put, setIfInBounds_toArray, set_cons_zero, set_cons_succ]
  refine wpAnyH_take (i := 7) (oi := ⟨some 153, _, _, _, _, _⟩) (v := ?_) rfl (by kernel_rfl) (by kernel_rfl) (by kernel_rfl) (fun _ _ _ h => h) (Or.inl ⟨by rfl, ?_⟩) (by assumption) ?_; rotate_left
  · intro w hSw; (try dsimp only at hSw); go_simp; try with_reducible rfl
  try simp only [Act.put, setIfInBounds_toArray, set_cons_zero, set_cons_succ]
  refine wpAnyH_ready (rs := [4, 8]) (by kernel_rfl) (by simp) ?_
  refine AllReadyH.cons (o := ⟨some 150, _, _, _, _, _⟩) rfl (fun K hK => ?_) ?_
  · skip
    go_simp
    refine hK.out _ _ ?_ (fun hHeld => ?_)
    · (try dsimp only); all_goals trivial
    clear hK K
    try simp only [Act.put, setIfInBounds_toArray, set_cons_zero, set_cons_succ]
    refine wpAnyH_ready (rs := [8]) (by kernel_rfl) (by simp) ?_
    refine AllReadyH.cons (o := ⟨some 154, _, _, _, _, _⟩) rfl (fun K hK => ?_) AllReadyH.nil
    go_simp
    refine hK.out _ _ ?_ (fun hHeld => ?_)
    · (try dsimp only); all_goals trivial
    clear hK K
    try simp only [Act.put, setIfInBounds_toArray, set_cons_zero, set_cons_succ]
    refine wpAnyH_ready (rs := [9]) (by kernel_rfl) (by simp) ?_
    refine AllReadyH.cons (o := ⟨some 155, _, _, _, _, _⟩) rfl (fun K hK => ?_) AllReadyH.nil
    go_simp
    refine (HSTK.out _ NOW.out).mono ?_
    rintro e w5 ⟨rfl, b3⟩
    have NOW := Lib.hid (bnextK NOW.out b3)
    have BI := Lib.hid (BI.out.past b3 BI.out.lt)
    clear b3
    go_wp2_with fail
    refine hK.out _ _ ?_ (fun hHeld => ?_)
    · (try dsimp only); all_goals trivial
    clear hK K
    try simp only [Act.put, setIfInBounds_toArray, set_cons_zero, set_cons_succ]
    refine wpAnyH_take (i := 10) (oi := ⟨some 145, _, _, _, _, _⟩) (v := ?_) rfl (by kernel_rfl) (by kernel_rfl) (by kernel_rfl) (fun _ _ _ h => h) (Or.inl ⟨by rfl, ?_⟩) (by assumption) ?_; rotate_left
    · intro w hSw; (try dsimp only at hSw); go_simp; try with_reducible rfl
    try simp only [Act.put, setIfInBounds_toArray, set_cons_zero, set_cons_succ]
    refine wpAnyH_take (i := 11) (oi := ⟨some 156, _, _, _, _, _⟩) (v := ?_) rfl (by kernel_rfl) (by kernel_rfl) (by kernel_rfl) (fun _ _ _ h => h) (Or.inl ⟨by rfl, ?_⟩) (by assumption) ?_; rotate_left
    · intro w hSw; (try dsimp only at hSw); go_simp; try with_reducible rfl
    try simp only [Act.put, setIfInBounds_toArray, set_cons_zero, set_cons_succ]
    refine wpAnyH_take (i := 12) (oi := ⟨some 157, _, _, _, _, _⟩) (v := ?_) rfl (by kernel_rfl) (by kernel_rfl) (by kernel_rfl) (fun _ _ _ h => h) (Or.inl ⟨by rfl, ?_⟩) (by assumption) ?_; rotate_left
    · intro w hSw; (try dsimp only at hSw); go_simp; try with_reducible rfl
    try simp only [Act.put, setIfInBounds_toArray, set_cons_zero, set_cons_succ]
    refine wpAnyH_ready (rs := [14]) (by kernel_rfl) (by simp) ?_
    refine AllReadyH.cons (o := ⟨none, _, _, _, _, _⟩) rfl (fun K hK => ?_) AllReadyH.nil
    refine step_store_row 45 _ _ rfl rfl w0.heap.size #[.int .i64 f, .int .i64 hl, .int .i64 sp] rfl rfl _ _ BI.out HIS.out rfl HIO.out ?_
    have BF := Lib.hid (Bk.setRow BI.out #[.int .i64 f, .int .i64 hl, .int .i64 sp])
    have NOWF := Lib.hid (NOW.out.trans ((keepL_row _ w0.heap.size #[.int .i64 f, .int .i64 hl, .int .i64 sp]).below NOW.out.size (by simpa using HCA.out)))
    refine hK.out _ _ ?_ (fun hHeld => ?_)
    · (try dsimp only); all_goals trivial
    clear hK K
    try simp only [Act.put]
    refine wpAnyH_take (i := 15) (oi := ⟨some 19, _, _, _, _, _⟩) (v := ?_) rfl (by kernel_rfl) (by kernel_rfl) (by kernel_rfl) (fun _ _ _ h => h) (Or.inl ⟨by rfl, ?_⟩) (by assumption) ?_; rotate_left
    · intro w hSw; (try dsimp only at hSw); go_simp; try with_reducible rfl
    try simp only [Act.put, setIfInBounds_toArray, set_cons_zero, set_cons_succ]
    refine wpAnyH_done (by kernel_rfl) ?_ _
    go_wp2_with fail
    go_meet
    exact ⟨rfl, _, rfl, BF.out, NOWF.out⟩
  refine AllReadyH.cons (o := ⟨some 154, _, _, _, _, _⟩) rfl (fun K hK => ?_) AllReadyH.nil
  go_simp
  refine hK.out _ _ ?_ (fun hHeld => ?_)
  · (try dsimp only); all_goals trivial
  clear hK K
  try simp only [Act.put, setIfInBounds_toArray, set_cons_zero, set_cons_succ]
  refine wpAnyH_ready (rs := [4]) (by kernel_rfl) (by simp) ?_
  refine AllReadyH.cons (o := ⟨some 150, _, _, _, _, _⟩) rfl (fun K hK => ?_) AllReadyH.nil
  go_simp
  refine hK.out _ _ ?_ (fun hHeld => ?_)
  · (try dsimp only); all_goals trivial
  clear hK K
  try simp only [Act.put, setIfInBounds_toArray, set_cons_zero, set_cons_succ]
  refine wpAnyH_ready (rs := [9]) (by kernel_rfl) (by simp) ?_
  refine AllReadyH.cons (o := ⟨some 155, _, _, _, _, _⟩) rfl (fun K hK => ?_) AllReadyH.nil
  go_simp
  refine (HSTK.out _ NOW.out).mono ?_
  rintro e w5 ⟨rfl, b3⟩
  have NOW := Lib.hid (bnextK NOW.out b3)
  have BI := Lib.hid (BI.out.past b3 BI.out.lt)
  clear b3
  go_wp2_with fail
  refine hK.out _ _ ?_ (fun hHeld => ?_)
  · (try dsimp only); all_goals trivial
  clear hK K
  try simp only [Act.put, setIfInBounds_toArray, set_cons_zero, set_cons_succ]
  refine wpAnyH_take (i := 10) (oi := ⟨some 145, _, _, _, _, _⟩) (v := ?_) rfl (by kernel_rfl) (by kernel_rfl) (by kernel_rfl) (fun _ _ _ h => h) (Or.inl ⟨by rfl, ?_⟩) (by assumption) ?_; rotate_left
  · intro w hSw; (try dsimp only at hSw); go_simp; try with_reducible rfl
  try simp only [Act.put, setIfInBounds_toArray, set_cons_zero, set_cons_succ]
  refine wpAnyH_take (i := 11) (oi := ⟨some 156, _, _, _, _, _⟩) (v := ?_) rfl (by kernel_rfl) (by kernel_rfl) (by kernel_rfl) (fun _ _ _ h => h) (Or.inl ⟨by rfl, ?_⟩) (by assumption) ?_; rotate_left
  · intro w hSw; (try dsimp only at hSw); go_simp; try with_reducible rfl
  try simp only [Act.put, setIfInBounds_toArray, set_cons_zero, set_cons_succ]
  refine wpAnyH_take (i := 12) (oi := ⟨some 157, _, _, _, _, _⟩) (v := ?_) rfl (by kernel_rfl) (by kernel_rfl) (by kernel_rfl) (fun _ _ _ h => h) (Or.inl ⟨by rfl, ?_⟩) (by assumption) ?_; rotate_left
  · intro w hSw; (try dsimp only at hSw); go_simp; try with_reducible rfl
  try simp only [Act.put, setIfInBounds_toArray, set_cons_zero, set_cons_succ]
  refine wpAnyH_ready (rs := [14]) (by kernel_rfl) (by simp) ?_
  refine AllReadyH.cons (o := ⟨none, _, _, _, _, _⟩) rfl (fun K hK => ?_) AllReadyH.nil
  refine step_store_row 45 _ _ rfl rfl w0.heap.size #[.int .i64 f, .int .i64 hl, .int .i64 sp] rfl rfl _ _ BI.out HIS.out rfl HIO.out ?_
  have BF := Lib.hid (Bk.setRow BI.out #[.int .i64 f, .int .i64 hl, .int .i64 sp])
  have NOWF := Lib.hid (NOW.out.trans ((keepL_row _ w0.heap.size #[.int .i64 f, .int .i64 hl, .int .i64 sp]).below NOW.out.size (by simpa using HCA.out)))
  refine hK.out _ _ ?_ (fun hHeld => ?_)
  · (try dsimp only); all_goals trivial
  clear hK K
  try simp only [Act.put]
  refine wpAnyH_take (i := 15) (oi := ⟨some 19, _, _, _, _, _⟩) (v := ?_) rfl (by kernel_rfl) (by kernel_rfl) (by kernel_rfl) (fun _ _ _ h => h) (Or.inl ⟨by rfl, ?_⟩) (by assumption) ?_; rotate_left
  · intro w hSw; (try dsimp only at hSw); go_simp; try with_reducible rfl
  try simp only [Act.put, setIfInBounds_toArray, set_cons_zero, set_cons_succ]
  refine wpAnyH_done (by kernel_rfl) ?_ _
  go_wp2_with fail
  go_meet
  exact ⟨rfl, _, rfl, BF.out, NOWF.out⟩
 case rest => as_aux_lemma =>
   obtain ⟨w6, rfl⟩ : ∃ z : World, z = wc := ⟨_, rfl⟩
   obtain ⟨rfl, Z, rfl, hbz, hbw⟩ := hcut
   have HZ : Hid (∀ W, Below w6.heap.size w6 W → W.cell? ⟨Z, 0, none⟩ = some (.int .i64 f) ∧ W.cell? ⟨Z, 1, none⟩ = some (.int .i64 hl) ∧ W.cell? ⟨Z, 2, none⟩ = some (.int .i64 sp)) := Lib.hid fun W hW => ⟨by rw [(hbz.past hW hbz.lt).cell]; rfl, by rw [(hbz.past hW hbz.lt).cell]; rfl, by rw [(hbz.past hW hbz.lt).cell]; rfl⟩
   have HN6 := Lib.hid hbw
   clear hbz hbw HSTK NOW HIS HIO
   go_upto_region 31 with fail
   have NOW : Hid (Below w6.heap.size w6 w6.drew) := Lib.hid (Qw.below ⟨1, rfl⟩ _)
   have hfh := HFH.out; have hw1 := HW1.out
   go_cut [197] from 135 to 232 (fun v197 wc => v197 = .bool false ∧ Below w6.heap.size w6 wc)
   case first => as_aux_lemma =>
    refine wp_region_held_drew (S := (fun W => W.cell? ⟨Z, 0, none⟩ = some (.int .i64 f) ∧ W.cell? ⟨Z, 1, none⟩ = some (.int .i64 hl) ∧ W.cell? ⟨Z, 2, none⟩ = some (.int .i64 sp))) (by kernel_rfl) ?_ (fun hHeld => ?_)
    · (try dsimp only); exact HZ.out _ NOW.out
    refine wpAnyH_take (i := 0) (oi := ⟨some 158, _, _, _, _, _⟩) (v := ?_) rfl (by kernel_rfl) (by kernel_rfl) (by kernel_rfl) (fun _ _ _ h => h) (Or.inl ⟨by rfl, ?_⟩) (by assumption) ?_; rotate_left
    · intro w hSw; (try dsimp only at hSw); go_simp; try with_reducible rfl
    try simp only [Act.put, setIfInBounds_toArray, set_cons_zero, set_cons_succ]
    refine wpAnyH_take (i := 1) (oi := ⟨some 159, _, _, _, _, _⟩) (v := ?_) rfl (by kernel_rfl) (by kernel_rfl) (by kernel_rfl) (fun _ _ _ h => h) (Or.inl ⟨by rfl, ?_⟩) (by assumption) ?_; rotate_left
    · intro w hSw; (try dsimp only at hSw); go_simp; try with_reducible rfl
    try simp only [Act.put, setIfInBounds_toArray, set_cons_zero, set_cons_succ]
    refine wpAnyH_take (i := 2) (oi := ⟨some 160, _, _, _, _, _⟩) (v := ?_) rfl (by kernel_rfl) (by kernel_rfl) (by kernel_rfl) (fun _ _ _ h => h) (Or.inl ⟨by rfl, ?_⟩) (by assumption) ?_; rotate_left
    · intro w hSw; (try dsimp only at hSw); go_simp; try with_reducible rfl
    try simp only [Act.put, setIfInBounds_toArray, set_cons_zero, set_cons_succ]
    refine wpAnyH_take (i := 3) (oi := ⟨some 161, _, _, _, _, _⟩) (v := ?_) rfl (by kernel_rfl) (by kernel_rfl) (by kernel_rfl) (fun _ _ _ h => h) (Or.inl ⟨by rfl, ?_⟩) (by assumption) ?_; rotate_left
    · intro w hSw; (try dsimp only at hSw); go_simp; try with_reducible rfl
    try simp only [Act.put, setIfInBounds_toArray, set_cons_zero, set_cons_succ]
    refine wpAnyH_take (i := 4) (oi := ⟨some 162, _, _, _, _, _⟩) (v := ?_) rfl (by kernel_rfl) (by kernel_rfl) (by kernel_rfl) (fun _ _ _ h => h) (Or.inl ⟨by rfl, ?_⟩) (by assumption) ?_; rotate_left
    · intro w hSw; (try dsimp only at hSw); go_simp; try with_reducible rfl
    try simp only [Act.put, setIfInBounds_toArray, set_cons_zero, set_cons_succ]
    refine wpAnyH_take (i := 5) (oi := ⟨some 163, _, _, _, _, _⟩) (v := ?_) rfl (by kernel_rfl) (by kernel_rfl) (by kernel_rfl) (fun _ _ _ h => h) (Or.inl ⟨by rfl, ?_⟩) (by assumption) ?_; rotate_left
    · intro w hSw; (try dsimp only at hSw); go_simp; try with_reducible rfl
    try simp only [Act.put, setIfInBounds_toArray, set_cons_zero, set_cons_succ]
    refine wpAnyH_take (i := 6) (oi := ⟨some 164, _, _, _, _, _⟩) (v := ?_) rfl (by kernel_rfl) (by kernel_rfl) (by kernel_rfl) (fun _ _ _ h => h) (Or.inl ⟨by rfl, ?_⟩) (by assumption) ?_; rotate_left
    · intro w hSw; (try dsimp only at hSw); go_simp; try with_reducible rfl
    try simp only [Act.put, setIfInBounds_toArray, set_cons_zero, set_cons_succ]
    refine wpAnyH_take (i := 7) (oi := ⟨some 165, _, _, _, _, _⟩) (v := ?_) rfl (by kernel_rfl) (by kernel_rfl) (by kernel_rfl) (fun _ _ _ h => h) (Or.inl ⟨by rfl, ?_⟩) (by assumption) ?_; rotate_left
    · intro w hSw; (try dsimp only at hSw); go_simp; try with_reducible rfl
    try simp only [Act.put, setIfInBounds_toArray, set_cons_zero, set_cons_succ]
    refine wpAnyH_take (i := 8) (oi := ⟨some 166, _, _, _, _, _⟩) (v := ?_) rfl (by kernel_rfl) (by kernel_rfl) (by kernel_rfl) (fun _ _ _ h => h) (Or.inl ⟨by rfl, ?_⟩) (by assumption) ?_; rotate_left
    · intro w hSw; (try dsimp only at hSw); go_simp; try with_reducible rfl
    try simp only [Act.put, setIfInBounds_toArray, set_cons_zero, set_cons_succ]
    refine wpAnyH_take (i := 9) (oi := ⟨some 167, _, _, _, _, _⟩) (v := ?_) rfl (by kernel_rfl) (by kernel_rfl) (by kernel_rfl) (fun _ _ _ h => h) (Or.inl ⟨by rfl, ?_⟩) (by assumption) ?_; rotate_left
    · intro w hSw; (try dsimp only at hSw); go_simp; try with_reducible rfl
    try simp only [Act.put, setIfInBounds_toArray, set_cons_zero, set_cons_succ]
    refine wpAnyH_take (i := 10) (oi := ⟨some 168, _, _, _, _, _⟩) (v := ?_) rfl (by kernel_rfl) (by kernel_rfl) (by kernel_rfl) (fun _ _ _ h => h) (Or.inl ⟨by rfl, ?_⟩) (by assumption) ?_; rotate_left
    · intro w hSw; (try dsimp only at hSw); go_simp; try with_reducible rfl
    try simp only [Act.put, setIfInBounds_toArray, set_cons_zero, set_cons_succ]
    refine wpAnyH_take (i := 11) (oi := ⟨some 169, _, _, _, _, _⟩) (v := ?_) rfl (by kernel_rfl) (by kernel_rfl) (by kernel_rfl) (fun _ _ _ h => h) (Or.inl ⟨by rfl, ?_⟩) (by assumption) ?_; rotate_left
    · intro w hSw; (try dsimp only at hSw); go_simp; try with_reducible rfl
    try simp only [Act.put, setIfInBounds_toArray, set_cons_zero, set_cons_succ]
    refine wpAnyH_take (i := 12) (oi := ⟨some 170, _, _, _, _, _⟩) (v := ?_) rfl (by kernel_rfl) (by kernel_rfl) (by kernel_rfl) (fun _ _ _ h => h) (Or.inl ⟨by rfl, ?_⟩) (by assumption) ?_; rotate_left
    · intro w hSw; (try dsimp only at hSw); go_simp; try with_reducible rfl
    try simp only [Act.put, setIfInBounds_toArray, set_cons_zero, set_cons_succ]
    refine wpAnyH_take (i := 13) (oi := ⟨some 171, _, _, _, _, _⟩) (v := ?_) rfl (by kernel_rfl) (by kernel_rfl) (by kernel_rfl) (fun _ _ _ h => h) (Or.inl ⟨by rfl, ?_⟩) (by assumption) ?_; rotate_left
    · intro w hSw; (try dsimp only at hSw); go_simp; try with_reducible rfl
    try simp only [Act.put, setIfInBounds_toArray, set_cons_zero, set_cons_succ]
    refine wpAnyH_take (i := 14) (oi := ⟨some 172, _, _, _, _, _⟩) (v := ?_) rfl (by kernel_rfl) (by kernel_rfl) (by kernel_rfl) (fun _ _ _ h => h) (Or.inl ⟨by rfl, ?_⟩) (by assumption) ?_; rotate_left
    · intro w hSw; (try dsimp only at hSw); go_simp; try with_reducible rfl
    try simp only [Act.put, setIfInBounds_toArray, set_cons_zero, set_cons_succ]
    refine wpAnyH_take (i := 15) (oi := ⟨some 173, _, _, _, _, _⟩) (v := ?_) rfl (by kernel_rfl) (by kernel_rfl) (by kernel_rfl) (fun _ _ _ h => h) (Or.inl ⟨by rfl, ?_⟩) (by assumption) ?_; rotate_left
    · intro w hSw; (try dsimp only at hSw); go_simp; try with_reducible rfl
    try simp only [Act.put, setIfInBounds_toArray, set_cons_zero, set_cons_succ]
    refine wpAnyH_take (i := 16) (oi := ⟨some 174, _, _, _, _, _⟩) (v := ?_) rfl (by kernel_rfl) (by kernel_rfl) (by kernel_rfl) (fun _ _ _ h => h) (Or.inl ⟨by rfl, ?_⟩) (by assumption) ?_; rotate_left
    · intro w hSw; (try dsimp only at hSw); go_simp; try with_reducible rfl
    try simp only [Act.put, setIfInBounds_toArray, set_cons_zero, set_cons_succ]
    refine wpAnyH_take (i := 17) (oi := ⟨some 175, _, _, _, _, _⟩) (v := ?_) rfl (by kernel_rfl) (by kernel_rfl) (by kernel_rfl) (fun _ _ _ h => h) (Or.inl ⟨by rfl, ?_⟩) (by assumption) ?_; rotate_left
    · intro w hSw; (try dsimp only at hSw); go_simp; try with_reducible rfl
    try simp only [Act.put, setIfInBounds_toArray, set_cons_zero, set_cons_succ]
    refine wpAnyH_take (i := 18) (oi := ⟨some 176, _, _, _, _, _⟩) (v := ?_) rfl (by kernel_rfl) (by kernel_rfl) (by kernel_rfl) (fun _ _ _ h => h) (Or.inl ⟨by rfl, ?_⟩) (by assumption) ?_; rotate_left
    · intro w hSw; (try dsimp only at hSw); go_simp; try with_reducible rfl
    try simp only [Act.put, setIfInBounds_toArray, set_cons_zero, set_cons_succ]
    refine wpAnyH_take (i := 19) (oi := ⟨some 177, _, _, _, _, _⟩) (v := ?_) rfl (by kernel_rfl) (by kernel_rfl) (by kernel_rfl) (fun _ _ _ h => h) (Or.inl ⟨by rfl, ?_⟩) (by assumption) ?_; rotate_left
    · intro w hSw; (try dsimp only at hSw); go_simp; try with_reducible rfl
    try simp only [Act.put, setIfInBounds_toArray, set_cons_zero, set_cons_succ]
    refine wpAnyH_take (i := 20) (oi := ⟨some 178, _, _, _, _, _⟩) (v := ?_) rfl (by kernel_rfl) (by kernel_rfl) (by kernel_rfl) (fun _ _ _ h => h) (Or.inl ⟨by rfl, ?_⟩) (by assumption) ?_; rotate_left
    · intro w hSw; (try dsimp only at hSw); go_simp; try with_reducible rfl
    try simp only [Act.put, setIfInBounds_toArray, set_cons_zero, set_cons_succ]
    refine wpAnyH_take (i := 21) (oi := ⟨some 179, _, _, _, _, _⟩) (v := ?_) rfl (by kernel_rfl) (by kernel_rfl) (by kernel_rfl) (fun _ _ _ h => h) (Or.inl ⟨by rfl, ?_⟩) (by assumption) ?_; rotate_left
    · intro w hSw; (try dsimp only at hSw); go_simp; try with_reducible rfl
    try simp only [Act.put, setIfInBounds_toArray, set_cons_zero, set_cons_succ]
    refine wpAnyH_take (i := 22) (oi := ⟨some 180, _, _, _, _, _⟩) (v := ?_) rfl (by kernel_rfl) (by kernel_rfl) (by kernel_rfl) (fun _ _ _ h => h) (Or.inl ⟨by rfl, ?_⟩) (by assumption) ?_; rotate_left
    · intro w hSw; (try dsimp only at hSw); go_simp; try with_reducible rfl
    try simp only [Act.put, setIfInBounds_toArray, set_cons_zero, set_cons_succ]
    refine wpAnyH_take (i := 23) (oi := ⟨some 181, _, _, _, _, _⟩) (v := ?_) rfl (by kernel_rfl) (by kernel_rfl) (by kernel_rfl) (fun _ _ _ h => h) (Or.inl ⟨by rfl, ?_⟩) (by assumption) ?_; rotate_left
    · intro w hSw; (try dsimp only at hSw); go_simp; try with_reducible rfl
    try simp only [Act.put, setIfInBounds_toArray, set_cons_zero, set_cons_succ]
    refine wpAnyH_take (i := 24) (oi := ⟨some 182, _, _, _, _, _⟩) (v := ?_) rfl (by kernel_rfl) (by kernel_rfl) (by kernel_rfl) (fun _ _ _ h => h) (Or.inl ⟨by rfl, ?_⟩) (by assumption) ?_; rotate_left
    · intro w hSw; (try dsimp only at hSw); go_simp; try with_reducible rfl
    try simp only [Act.put, setIfInBounds_toArray, set_cons_zero, set_cons_succ]
    refine wpAnyH_take (i := 25) (oi := ⟨some 183, _, _, _, _, _⟩) (v := ?_) rfl (by kernel_rfl) (by kernel_rfl) (by kernel_rfl) (fun _ _ _ h => h) (Or.inl ⟨by rfl, ?_⟩) (by assumption) ?_; rotate_left
    · intro w hSw; (try dsimp only at hSw); go_simp; try with_reducible rfl
    try simp only [Act.put, setIfInBounds_toArray, set_cons_zero, set_cons_succ]
    refine wpAnyH_take (i := 26) (oi := ⟨some 184, _, _, _, _, _⟩) (v := ?_) rfl (by kernel_rfl) (by kernel_rfl) (by kernel_rfl) (fun _ _ _ h => h) (Or.inl ⟨by rfl, ?_⟩) (by assumption) ?_; rotate_left
    · intro w hSw; (try dsimp only at hSw); go_simp; try with_reducible rfl
    try simp only [Act.put, setIfInBounds_toArray, set_cons_zero, set_cons_succ]
    refine wpAnyH_take (i := 27) (oi := ⟨some 185, _, _, _, _, _⟩) (v := ?_) rfl (by kernel_rfl) (by kernel_rfl) (by kernel_rfl) (fun _ _ _ h => h) (Or.inl ⟨by rfl, ?_⟩) (by assumption) ?_; rotate_left
    · intro w hSw; (try dsimp only at hSw); go_simp; try with_reducible rfl
    try simp only [Act.put, setIfInBounds_toArray, set_cons_zero, set_cons_succ]
    refine wpAnyH_take (i := 28) (oi := ⟨some 186, _, _, _, _, _⟩) (v := ?_) rfl (by kernel_rfl) (by kernel_rfl) (by kernel_rfl) (fun _ _ _ h => h) (Or.inl ⟨by rfl, ?_⟩) (by assumption) ?_; rotate_left
    · intro w hSw; (try dsimp only at hSw); go_simp; try with_reducible rfl
    try simp only [Act.put, setIfInBounds_toArray, set_cons_zero, set_cons_succ]
    refine wpAnyH_take (i := 30) (oi := ⟨some 188, _, _, _, _, _⟩) (v := ?_) rfl (by kernel_rfl) (by kernel_rfl) (by kernel_rfl) (fun _ _ _ h => h) (Or.inl ⟨by rfl, ?_⟩) (by assumption) ?_; rotate_left
    · intro w hSw; (try dsimp only at hSw); go_simp; try with_reducible rfl
    try simp only [Act.put, setIfInBounds_toArray, set_cons_zero, set_cons_succ]
    refine wpAnyH_take (i := 34) (oi := ⟨some 192, _, _, _, _, _⟩) (v := ?_) rfl (by kernel_rfl) (by kernel_rfl) (by kernel_rfl) (fun _ _ _ h => h) (Or.inl ⟨by rfl, ?_⟩) (by assumption) ?_; rotate_left
    · intro w hSw; (try dsimp only at hSw); go_simp; try with_reducible rfl
    try simp only [Act.put, setIfInBounds_toArray, set_cons_zero, set_cons_succ]
    refine wpAnyH_ready (rs := [29]) (by kernel_rfl) (by simp) ?_
    refine AllReadyH.cons (o := ⟨some 187, _, _, _, _, _⟩) rfl (fun K hK => ?_) AllReadyH.nil
    go_simp
    refine (names_any _).mono ?_
    rintro e w7 ⟨rfl, hw3⟩
    obtain ⟨f3, b3⟩ := names_fact hw3
    have x3 : w7.cell? ⟨w6.heap.size, a, none⟩ = some (encS (nm a)) := f3 a HA8.out
    have NOW := Lib.hid (bnextK NOW.out b3)
    clear hw3 f3 b3
    go_wp2_with fail
    refine hK.out _ _ ?_ (fun hHeld => ?_)
    · (try dsimp only); exact HZ.out _ NOW.out
    clear hK K
    try simp only [Act.put, setIfInBounds_toArray, set_cons_zero, set_cons_succ]
    refine wpAnyH_take (i := 31) (oi := ⟨some 189, _, _, _, _, _⟩) (v := ?_) rfl (by kernel_rfl) (by kernel_rfl) (by kernel_rfl) (fun _ _ _ h => h) (Or.inl ⟨by rfl, ?_⟩) (by assumption) ?_; rotate_left
    · intro w hSw; (try dsimp only at hSw); go_simp; try with_reducible rfl
    try simp only [Act.put, setIfInBounds_toArray, set_cons_zero, set_cons_succ]
    refine wpAnyH_ready (rs := [32, 33]) (by kernel_rfl) (by simp) ?_
    refine AllReadyH.cons (o := ⟨some 190, _, _, _, _, _⟩) rfl (fun K hK => ?_) ?_
    · skip
      go_simp
      refine hK.out _ _ ?_ (fun hHeld => ?_)
      · (try dsimp only); exact HZ.out _ NOW.out
      clear hK K
      try simp only [Act.put, setIfInBounds_toArray, set_cons_zero, set_cons_succ]
      refine wpAnyH_ready (rs := [33]) (by kernel_rfl) (by simp) ?_
      refine AllReadyH.cons (o := ⟨some 191, _, _, _, _, _⟩) rfl (fun K hK => ?_) AllReadyH.nil
      go_simp
      refine (names_any _).mono ?_
      rintro e wq ⟨rfl, hw4⟩
      obtain ⟨f4, b4⟩ := names_fact hw4
      have y4 := f4 b HB8.out
      have x3 : wq.cell? ⟨w6.heap.size, a, none⟩ = some (encS (nm a)) := (b4.cell (p := ⟨w6.heap.size, a, none⟩) (cell_ltO x3)).trans x3
      have NOW := Lib.hid (bnextK NOW.out b4)
      clear hw4 f4 b4
      go_wp2_with fail
      refine hK.out _ _ ?_ (fun hHeld => ?_)
      · (try dsimp only); exact HZ.out _ NOW.out
      clear hK K
      try simp only [Act.put, setIfInBounds_toArray, set_cons_zero, set_cons_succ]
      refine wpAnyH_take (i := 35) (oi := ⟨some 193, _, _, _, _, _⟩) (v := ?_) rfl (by kernel_rfl) (by kernel_rfl) (by kernel_rfl) (fun _ _ _ h => h) (Or.inl ⟨by rfl, ?_⟩) (by assumption) ?_; rotate_left
      · intro w hSw; (try dsimp only at hSw); go_simp; try with_reducible rfl
      try simp only [Act.put, setIfInBounds_toArray, set_cons_zero, set_cons_succ]
      refine wpAnyH_ready (rs := [36]) (by kernel_rfl) (by simp) ?_
      refine AllReadyH.cons (o := ⟨some 194, _, _, _, _, _⟩) rfl (fun K hK => ?_) AllReadyH.nil
      go_simp
      refine hK.out _ _ ?_ (fun hHeld => ?_)
      · (try dsimp only); exact HZ.out _ NOW.out
      clear hK K
      try simp only [Act.put, setIfInBounds_toArray, set_cons_zero, set_cons_succ]
      refine wpAnyH_ready (rs := [37]) (by kernel_rfl) (by simp) ?_
      refine AllReadyH.cons (o := ⟨some 195, _, _, _, _, _⟩) rfl (fun K hK => ?_) AllReadyH.nil
      go_simp
      refine (HHD.out _ (bnextK HN6.out NOW.out)).mono ?_
      rintro e w9 ⟨rfl, b5⟩
      have NOW := Lib.hid (bnextK NOW.out b5)
      clear b5
      go_wp2_with fail
      refine hK.out _ _ ?_ (fun hHeld => ?_)
      · (try dsimp only); exact HZ.out _ NOW.out
      clear hK K
      try simp only [Act.put, setIfInBounds_toArray, set_cons_zero, set_cons_succ]
      refine wpAnyH_take (i := 38) (oi := ⟨some 196, _, _, _, _, _⟩) (v := ?_) rfl (by kernel_rfl) (by kernel_rfl) (by kernel_rfl) (fun _ _ _ h => h) (Or.inl ⟨by rfl, ?_⟩) (by assumption) ?_; rotate_left
      · intro w hSw; (try dsimp only at hSw); go_simp; try with_reducible rfl
      try simp only [Act.put, setIfInBounds_toArray, set_cons_zero, set_cons_succ]
      refine wpAnyH_take (i := 39) (oi := ⟨some 197, _, _, _, _, _⟩) (v := ?_) rfl (by kernel_rfl) (by kernel_rfl) (by kernel_rfl) (fun _ _ _ h => h) (Or.inl ⟨by rfl, ?_⟩) (by assumption) ?_; rotate_left
      · intro w hSw; (try dsimp only at hSw); go_simp; try with_reducible rfl
      try simp only [Act.put, setIfInBounds_toArray, set_cons_zero, set_cons_succ]
      refine wpAnyH_done (by kernel_rfl) ?_ _
      go_wp2_with fail
      go_meet
      exact ⟨rfl, NOW.out⟩
    refine AllReadyH.cons (o := ⟨some 191, _, _, _, _, _⟩) rfl (fun K hK => ?_) AllReadyH.nil
    go_simp
    refine (names_any _).mono ?_
    rintro e wq ⟨rfl, hw4⟩
    obtain ⟨f4, b4⟩ := names_fact hw4
    have y4 := f4 b HB8.out
    have x3 : wq.cell? ⟨w6.heap.size, a, none⟩ = some (encS (nm a)) := (b4.cell (p := ⟨w6.heap.size, a, none⟩) (cell_ltO x3)).trans x3
    have NOW := Lib.hid (bnextK NOW.out b4)
    clear hw4 f4 b4
    go_wp2_with fail
    refine hK.out _ _ ?_ (fun hHeld => ?_)
    · (try dsimp only); exact HZ.out _ NOW.out
    clear hK K
    try simp only [Act.put, setIfInBounds_toArray, set_cons_zero, set_cons_succ]
    refine wpAnyH_take (i := 35) (oi := ⟨some 193, _, _, _, _, _⟩) (v := ?_) rfl (by kernel_rfl) (by kernel_rfl) (by kernel_rfl) (fun _ _ _ h => h) (Or.inl ⟨by rfl, ?_⟩) (by assumption) ?_; rotate_left
    · intro w hSw; (try dsimp only at hSw); go_simp; try with_reducible rfl
    try simp only [Act.put, setIfInBounds_toArray, set_cons_zero, set_cons_succ]
    refine wpAnyH_ready (rs := [32, 36]) (by kernel_rfl) (by simp) ?_
    refine AllReadyH.cons (o := ⟨some 190, _, _, _, _, _⟩) rfl (fun K hK => ?_) ?_
    · skip
      go_simp
      refine hK.out _ _ ?_ (fun hHeld => ?_)
      · (try dsimp only); exact HZ.out _ NOW.out
      clear hK K
      try simp only [Act.put, setIfInBounds_toArray, set_cons_zero, set_cons_succ]
      refine wpAnyH_ready (rs := [36]) (by kernel_rfl) (by simp) ?_
      refine AllReadyH.cons (o := ⟨some 194, _, _, _, _, _⟩) rfl (fun K hK => ?_) AllReadyH.nil
      go_simp
      refine hK.out _ _ ?_ (fun hHeld => ?_)
      · (try dsimp only); exact HZ.out _ NOW.out
      clear hK K
      try simp only [Act.put, setIfInBounds_toArray, set_cons_zero, set_cons_succ]
      refine wpAnyH_ready (rs := [37]) (by kernel_rfl) (by simp) ?_
      refine AllReadyH.cons (o := ⟨some 195, _, _, _, _, _⟩) rfl (fun K hK => ?_) AllReadyH.nil
      go_simp
      refine (HHD.out _ (bnextK HN6.out NOW.out)).mono ?_
      rintro e w9 ⟨rfl, b5⟩
      have NOW := Lib.hid (bnextK NOW.out b5)
      clear b5
      go_wp2_with fail
      refine hK.out _ _ ?_ (fun hHeld => ?_)
      · (try dsimp only); exact HZ.out _ NOW.out
      clear hK K
      try simp only [Act.put, setIfInBounds_toArray, set_cons_zero, set_cons_succ]
      refine wpAnyH_take (i := 38) (oi := ⟨some 196, _, _, _, _, _⟩) (v := ?_) rfl (by kernel_rfl) (by kernel_rfl) (by kernel_rfl) (fun _ _ _ h => h) (Or.inl ⟨by rfl, ?_⟩) (by assumption) ?_; rotate_left
      · intro w hSw; (try dsimp only at hSw); go_simp; try with_reducible rfl
      try simp only [Act.put, setIfInBounds_toArray, set_cons_zero, set_cons_succ]
      refine wpAnyH_take (i := 39) (oi := ⟨some 197, _, _, _, _, _⟩) (v := ?_) rfl (by kernel_rfl) (by kernel_rfl) (by kernel_rfl) (fun _ _ _ h => h) (Or.inl ⟨by rfl, ?_⟩) (by assumption) ?_; rotate_left
      · intro w hSw; (try dsimp only at hSw); go_simp; try with_reducible rfl
      try simp only [Act.put, setIfInBounds_toArray, set_cons_zero, set_cons_succ]
      refine wpAnyH_done (by kernel_rfl) ?_ _
      go_wp2_with fail
      go_meet
      exact ⟨rfl, NOW.out⟩
    refine AllReadyH.cons (o := ⟨some 194, _, _, _, _, _⟩) rfl (fun K hK => ?_) AllReadyH.nil
    go_simp
    refine hK.out _ _ ?_ (fun hHeld => ?_)
    · (try dsimp only); exact HZ.out _ NOW.out
    clear hK K
    try simp only [Act.put, setIfInBounds_toArray, set_cons_zero, set_cons_succ]
    refine wpAnyH_ready (rs := [32]) (by kernel_rfl) (by simp) ?_
    refine AllReadyH.cons (o := ⟨some 190, _, _, _, _, _⟩) rfl (fun K hK => ?_) AllReadyH.nil
    go_simp
    refine hK.out _ _ ?_ (fun hHeld => ?_)
    · (try dsimp only); exact HZ.out _ NOW.out
    clear hK K
    try simp only [Act.put, setIfInBounds_toArray, set_cons_zero, set_cons_succ]
    refine wpAnyH_ready (rs := [37]) (by kernel_rfl) (by simp) ?_
    refine AllReadyH.cons (o := ⟨some 195, _, _, _, _, _⟩) rfl (fun K hK => ?_) AllReadyH.nil
    go_simp
    refine (HHD.out _ (bnextK HN6.out NOW.out)).mono ?_
    rintro e w9 ⟨rfl, b5⟩
    have NOW := Lib.hid (bnextK NOW.out b5)
    clear b5
    go_wp2_with fail
    refine hK.out _ _ ?_ (fun hHeld => ?_)
    · (try dsimp only); exact HZ.out _ NOW.out
    clear hK K
    try simp only [Act.put, setIfInBounds_toArray, set_cons_zero, set_cons_succ]
    refine wpAnyH_take (i := 38) (oi := ⟨some 196, _, _, _, _, _⟩) (v := ?_) rfl (by kernel_rfl) (by kernel_rfl) (by kernel_rfl) (fun _ _ _ h => h) (Or.inl ⟨by rfl, ?_⟩) (by assumption) ?_; rotate_left
    · intro w hSw; (try dsimp only at hSw); go_simp; try with_reducible rfl
    try simp only [Act.put, setIfInBounds_toArray, set_cons_zero, set_cons_succ]
    refine wpAnyH_take (i := 39) (oi := ⟨some 197, _, _, _, _, _⟩) (v := ?_) rfl (by kernel_rfl) (by kernel_rfl) (by kernel_rfl) (fun _ _ _ h => h) (Or.inl ⟨by rfl, ?_⟩) (by assumption) ?_; rotate_left
    · intro w hSw; (try dsimp only at hSw); go_simp; try with_reducible rfl
    try simp only [Act.put, setIfInBounds_toArray, set_cons_zero, set_cons_succ]
    refine wpAnyH_done (by kernel_rfl) ?_ _
    go_wp2_with fail
    go_meet
    exact ⟨rfl, NOW.out⟩
   case rest => as_aux_lemma =>
     obtain ⟨w7, rfl⟩ : ∃ z : World, z = wc := ⟨_, rfl⟩
     obtain ⟨rfl, hbw⟩ := hcut
     obtain ⟨z0, z1, z2⟩ := HZ.out w7 hbw
     have HB7 := Lib.hid (HBB.out.far (bnextK HN6.out hbw))
     have HNW := Lib.hid (now_net HB7.out.1)
     have hsm := HSM.out; have hw2 := HW2.out
     clear hbw HBB HHD HZ
     obtain ⟨nv, hnv⟩ : ∃ z, z = s'.now := ⟨_, rfl⟩
     have HNV := Lib.hid hnv
     rw [← hnv] at HNW
     obtain ⟨tt, htt⟩ : ∃ z, z = stG t a b := ⟨_, rfl⟩
     have hlt : ¬ sm < tt := by rw [htt]; exact Int.not_lt.2 HLE.out
     have cy : w7.cell? ⟨Y, a * 8 + b, none⟩ = some (.int .i64 tt) := by rw [HB7.out.2.2.1.cell, stV_get _ _ (by rw [HB7.out.2.2.2.1.tl]; omega), htt]; rfl
     have fy := HB7.out.2.2.1.froz (a * 8 + b)
     have HPUT := Lib.hid (HB7.out.put hab hb8 HY.out HTOT.out)
     by_cases hnow : nv = now0
     · have hq : (nv == now0) = true := by rw [hnow]; simp
       have hq2 : (sm != tt) = false := by rw [HEQ.out (HNV.out.symm.trans hnow), htt]; simp
       clear hnow hnv htt
       go_wp2_with fail
       refine HNW.out.mono ?_
       clear HNW
       rintro e w8 ⟨rfl, rfl⟩
       go_wp2_with fail
       clear hw1 hw2 hfh hsm
       go_roundw
       case rel => exact ⟨b + 1, _, by omega, by omega, by go_num, HPUT.out⟩
       case measure => simp [intOf]; omega
     · have hq : (nv == now0) = false := by simp [hnow]
       clear hnow hnv htt
       go_wp2_with fail
       refine HNW.out.mono ?_
       clear HNW
       rintro e w8 ⟨rfl, rfl⟩
       go_wp2_with fail
       clear hw1 hw2 hfh hsm
       go_roundw
       case rel => exact ⟨b + 1, _, by omega, by omega, by go_num, HPUT.out⟩
       case measure => simp [intOf]; omega
                      · have hbi : ¬ (b : Int) < 8 := by omega
                        obtain rfl : b = 8 := by omega
                        go_wp2_with fail
                        go_roundw
                        case rel => exact ⟨a + 1, _, by omega, by go_num, HBB.out.to AccT.row⟩
                        case measure => simp [intOf]; omega
                  · have hai : ¬ (a : Int) < 8 := by omega
                    obtain rfl : a = 8 := by omega
                    go_wp2_with fail
                    go_roundw
                    case rel => exact ⟨k + 1, _, _, _, by omega, by omega, by go_num, HBA.out⟩
                    case measure => simp [intOf]; omega
              · have hki4 : ¬ (k : Int) < 60 := by omega
                go_wp2_with fail
                refine (HW.out _).mono ?_
                rintro e w9 ⟨rfl, hb9⟩
                have HB9 := Lib.hid (bnextK HB.out.2.2.2.2 hb9)
                clear hb9
                go_wp2_with fail
                go_ret
                exact ⟨rfl, HB9.out⟩
            · have hki : ¬ (k : Int) < (n2 : Int) := by omega
              go_wp2_with fail
              refine (HW.out _).mono ?_
              rintro e w9 ⟨rfl, hb9⟩
              have HB9 := Lib.hid (bnextK HB.out.2.2.2.2 hb9)
              clear hb9
              go_wp2_with fail
              go_ret
              exact ⟨rfl, HB9.out⟩

end Go.Proofs.YtblilfbhohnbgaaGreat
