/- The contract of pairs. Conditions: as each statement says. -/
import Derived.Test.YtblilfbhohnbgaaGreatNet62
import Derived.Test.YtblilfbhohnbgaaGreatSortP
import Derived.Shelf.SlSortCmp.NoneTotal
namespace Go.Proofs.YtblilfbhohnbgaaGreat
open List (setIfInBounds_toArray set_cons_zero set_cons_succ)
open Go.RowKit
open Go.Sort
set_option linter.unusedVariables false
abbrev encP (x : Nm × Nm) : List Value := [encS x.1, encS x.2]
set_option maxRecDepth 100000 in
set_option maxHeartbeats 1000000 in
theorem pairs1_any (x y : Nm × Nm) (W : World) : Calls Tryz.prog 60 #[.agg #[encS x.1, encS x.2], .agg #[encS y.1, encS y.2]] W fun e w' => e = .returned (.int .i64 (cmpP x y)) ∧ ∃ q os', w' = grow (W.drewN q) os' := by
  obtain ⟨w1, hw1⟩ : ∃ w1, w1 = (W.alloc (.cells #[encS x.1, encS x.2] 69)).alloc (.cells #[encS y.1, encS y.2] 69) := ⟨_, rfl⟩
  obtain ⟨k0, k1⟩ := boxes2 W #[encS x.1, encS x.2] #[encS y.1, encS y.2] 69 69
  rw [← hw1] at k0 k1
  have HC := Lib.hid (cmpStrs_any W.heap.size (W.heap.size + 1) x y w1.drew (by show w1.cell? _ = _; rw [k0.cell]; rfl) (by show w1.cell? _ = _; rw [k0.cell]; rfl) (by show w1.cell? _ = _; rw [k1.cell]; rfl) (by show w1.cell? _ = _; rw [k1.cell]; rfl))
  have HE : Hid (∃ q os', w1.drew = grow (W.drewN q) os') := Lib.hid ⟨1, _, by rw [hw1, alloc_eq_grow, alloc_eq_grow, grow_grow, drew_grow]; rfl⟩
  have HW1 := Lib.hid hw1
  generalize cmpP x y = p at *
  clear hw1 k0 k1
  go_enter Tryz.func60, Tryz.ntmps60
  go_wp2_with fail
  rw [← HW1.out]
  clear HW1
  refine wp_region_held_drew (S := (fun _ => True)) (by kernel_rfl) ?_ (fun hHeld => ?_)
  · (try dsimp only); all_goals trivial
  refine wpAnyH_take (i := 0) (oi := ⟨some 5, _, _, _, _, _⟩) (v := ?_) rfl (by kernel_rfl) (by kernel_rfl) (by kernel_rfl) (fun _ _ _ h => h) (Or.inl ⟨by rfl, ?_⟩) (by assumption) ?_; rotate_left
  · intro w hSw; (try dsimp only at hSw); go_simp; try with_reducible rfl
  try simp only [Act.put, setIfInBounds_toArray, set_cons_zero, set_cons_succ]
  refine wpAnyH_take (i := 1) (oi := ⟨some 6, _, _, _, _, _⟩) (v := ?_) rfl (by kernel_rfl) (by kernel_rfl) (by kernel_rfl) (fun _ _ _ h => h) (Or.inl ⟨by rfl, ?_⟩) (by assumption) ?_; rotate_left
  · intro w hSw; (try dsimp only at hSw); go_simp; try with_reducible rfl
  try simp only [Act.put, setIfInBounds_toArray, set_cons_zero, set_cons_succ]
  refine wpAnyH_ready (rs := [2]) (by kernel_rfl) (by simp) ?_
  refine AllReadyH.cons (o := ⟨some 7, _, _, _, _, _⟩) rfl (fun K hK => ?_) AllReadyH.nil
  go_simp
  refine HC.out.mono ?_
  rintro e w2 ⟨rfl, rfl⟩
  go_wp2_with fail
  refine hK.out _ _ ?_ (fun hHeld => ?_)
  · (try dsimp only); all_goals trivial
  clear hK K
  try simp only [Act.put, setIfInBounds_toArray, set_cons_zero, set_cons_succ]
  refine wpAnyH_take (i := 3) (oi := ⟨some 4, _, _, _, _, _⟩) (v := ?_) rfl (by kernel_rfl) (by kernel_rfl) (by kernel_rfl) (fun _ _ _ h => h) (Or.inl ⟨by rfl, ?_⟩) (by assumption) ?_; rotate_left
  · intro w hSw; (try dsimp only at hSw); go_simp; try with_reducible rfl
  try simp only [Act.put, setIfInBounds_toArray, set_cons_zero, set_cons_succ]
  refine wpAnyH_done (by kernel_rfl) ?_ _
  go_wp2_with fail
  go_ret
  exact ⟨rfl, HE.out⟩
theorem pkC_get : ∀ (l : List (Nm × Nm)) (i : Nat) (x : Nm × Nm), l[i]? = some x → (pkC l)[i * 2]? = some (encS x.1) ∧ (pkC l)[i * 2 + 1]? = some (encS x.2)
  | [], i, x, h => by simp at h
  | y :: l, 0, x, h => by
    obtain rfl : y = x := by simpa using h
    exact ⟨rfl, rfl⟩
  | y :: l, i + 1, x, h => by
    have := pkC_get l i x (by simpa using h)
    rw [show (i + 1) * 2 = i * 2 + 1 + 1 by omega]
    exact this
theorem pkC_flat (l : List (Nm × Nm)) (j : Nat) (h : j < l.length * 2) : (pkC l)[j]? = some ((flatK encP 2 l.toArray)[j]!) := by
  rw [get_flatK encP 2 l.toArray j (by simpa using h)]
  have hi : j / 2 < l.length := by omega
  obtain ⟨g0, g1⟩ := pkC_get l (j / 2) _ (List.getElem?_eq_getElem hi)
  have e : l.toArray[j / 2]! = l[j / 2] := by rw [getElem!_pos _ _ (by simpa using hi)]; simp
  rw [e]
  rcases Nat.mod_two_eq_zero_or_one j with h0 | h1
  · rw [h0]
    rw [show j / 2 * 2 = j by omega] at g0
    exact g0
  · rw [h1]
    rw [show j / 2 * 2 + 1 = j by omega] at g1
    exact g1
theorem swoP : SWO (ltOf cmpP) where
  irrefl x := by unfold ltOf; rw [cmpP_lt]; simp [List.lt_irrefl]
  trans x y z h1 h2 := by
    unfold ltOf at *
    rw [cmpP_lt, decide_eq_true_eq] at *
    rcases h1 with h1 | ⟨e1, h1⟩ <;> rcases h2 with h2 | ⟨e2, h2⟩
    · exact .inl (List.lt_trans h1 h2)
    · exact .inl (e2 ▸ h1)
    · exact .inl (e1.symm ▸ h2)
    · exact .inr ⟨e1.trans e2, List.lt_trans h1 h2⟩
  ntrans x y z h1 h2 := by
    unfold ltOf at *
    rw [cmpP_lt, decide_eq_false_iff_not] at *
    rintro (h | ⟨e, h⟩)
    · by_cases a : x.1 < y.1
      · exact h1 (.inl a)
      · by_cases b : y.1 < x.1
        · exact h2 (.inl (List.lt_trans b h))
        · exact h2 (.inl ((lt_tri9 a b) ▸ h))
    · by_cases a : x.1 < y.1
      · exact h1 (.inl a)
      · by_cases b : y.1 < x.1
        · exact h2 (.inl (e ▸ b))
        · have e1 := lt_tri9 a b
          by_cases c : x.2 < y.2
          · exact h1 (.inr ⟨e1, c⟩)
          · by_cases d : y.2 < x.2
            · exact h2 (.inr ⟨e1.symm.trans e, List.lt_trans d h⟩)
            · exact h2 (.inr ⟨e1.symm.trans e, (lt_tri9 c d) ▸ h⟩)
theorem totP : ∀ x y : Nm × Nm, ltOf cmpP x y = false → ltOf cmpP y x = false → x = y := fun x y h1 h2 => by
  unfold ltOf at *
  rw [cmpP_lt, decide_eq_false_iff_not] at *
  have a : ¬ x.1 < y.1 := fun h => h1 (.inl h)
  have b : ¬ y.1 < x.1 := fun h => h2 (.inl h)
  have e := lt_tri9 a b
  exact Prod.ext e (lt_tri9 (fun h => h1 (.inr ⟨e, h⟩)) (fun h => h2 (.inr ⟨e.symm, h⟩)))
def sortP (l : List (Nm × Nm)) : List (Nm × Nm) := l.mergeSort fun x y => !ltOf cmpP y x
theorem sortP_perm (l : List (Nm × Nm)) : (sortP l).Perm l := List.mergeSort_perm _ _
theorem sortWorld_keep {w : World} {blk off n : Nat} {d : Array (Nm × Nm)} {os : Array Obj} : w.grownBy (sortWorldK encP 2 w blk off n d os) (some blk) := by
  refine ⟨rfl, rfl, rfl, size_sortWorldK_c .., fun k hk hne => ?_⟩
  unfold sortWorldK grow putRowK putRow mapBlock Go.Sort.ahead
  dsimp only
  rw [Array.getElem?_append_left (by rw [Array.size_modify]; exact hk), Array.getElem?_modify, if_neg (fun e => hne (by rw [e]))]
theorem sortWorld_blk {w : World} {blk off n : Nat} {d : Array (Nm × Nm)} {os : Array Obj} {cur : Array Value} {t : TypeId} (h : Bk w blk cur t) : ∃ cs, Bk (sortWorldK encP 2 w blk off n d os) blk cs t ∧ cs.size = cur.size := by
  have hlt := h.lt
  unfold Bk at h
  refine ⟨putCells id off (flatK encP 2 d) cur, ?_, by simp [putCells]⟩
  unfold Bk sortWorldK grow putRowK putRow mapBlock Go.Sort.ahead
  dsimp only
  rw [Array.getElem?_append_left (by rw [Array.size_modify]; exact hlt), Array.getElem?_modify, if_pos rfl, h]
  rfl
def SortPP (base : Nat) (v : Value) (xs : List (Nm × Nm)) (w : World) (e : Ending) (w' : World) : Prop := e = .returned (.tuple #[]) ∧ w'.ownsRow base 69 2 v xs.length (pkC (sortP xs)) ∧ w.grownBy w' v.ownBlock
theorem psort_any {w : World} {base : Nat} {v : Value} {xs : List (Nm × Nm)} (ho : w.ownsRow base 69 2 v xs.length (pkC xs)) (hn : xs.length ≤ 1000) :
    Calls Tryz.prog 59 #[v, .func (.func 60) #[] #[]] w (SortPP base v xs w) := by
  have hlen : (sortP xs).length = xs.length := (sortP_perm xs).length_eq
  rcases Nat.eq_zero_or_pos xs.length with h0 | h0
  · obtain rfl := List.length_eq_zero_iff.1 h0
    obtain ⟨A, c, rfl, _⟩ := own_form ho
    refine (AnyF.slices_SortFunc_none (P := Tryz.prog) (ρ := sh_sortPr_ren) { sh_sortPr with } A c _ w).mono ?_
    rintro e w' ⟨rfl, rfl⟩
    exact ⟨rfl, by rw [show sortP [] = [] from by simp [sortP]]; exact ho, World.grownBy.refl _ _⟩
  · rcases ho.2 with ⟨_, h⟩ | ⟨g, cap, cur, rfl, hg1, hh, hcap, hmx, hsz, htk⟩
    · omega
    · have hbk : Bk w g cur 69 := hh
      have hcell : ∀ j, j < xs.length * 2 → cur[j]? = some ((flatK encP 2 xs.toArray)[j]!) := fun j hj => by
        rw [← pkC_flat xs j hj, ← htk, List.getElem?_take, if_pos hj, Array.getElem?_toList]
      have hH : HoldsK encP 2 w g 0 xs.toArray := fun j hj => by
        have hj : j < xs.length * 2 := by simpa using hj
        rw [Nat.zero_add]
        exact ⟨by rw [hbk.cell, hcell j hj]; rfl, hbk.froz j⟩
      have h := AnyQ.slices_SortFunc_total (P := Tryz.prog) (ρ := sh_sortPr_ren) sh_sortPr 2 Tryz.isAgg69 Tryz.sizeOf69 encP (fun _ => rfl) (fun x v hv => by simp only [List.mem_cons, List.not_mem_nil, or_false] at hv; rcases hv with rfl | rfl <;> rfl) cmpP swoP 60 #[] g 0 cap xs.toArray w
        (enters_of Tryz.func60 (by kernel_rfl) rfl) (fun _ _ _ _ x y => pairs1_any x y _) hH hbk.lt (by simp; omega) totP
      have h : Calls Tryz.prog 59 #[.slice (some ⟨g, 0, none⟩) xs.length cap, .func (.func 60) #[] #[]] w fun e w' => e = .returned (.tuple #[]) ∧ ∃ n os, w' = sortWorldK encP 2 w g 0 n (sortP xs).toArray os := by
        simp at h
        exact h
      refine h.mono ?_
      rintro e w' ⟨rfl, n, os, rfl⟩
      obtain ⟨cs, hb, hcs⟩ := sortWorld_blk (off := 0) (n := n) (d := (sortP xs).toArray) (os := os) hbk
      have hH2 := holdsK_sortWorldK_c encP 2 w g 0 xs.toArray (sortP xs).toArray n os hH hbk.lt (by simp [hlen])
      refine ⟨rfl, ⟨by rw [pkC_len, hlen], .inr ⟨g, cap, cs, rfl, hg1, hb, hcap, hmx, by rw [hcs]; exact hsz, ?_⟩⟩, sortWorld_keep⟩
      apply List.ext_getElem?
      intro j
      rcases Nat.lt_or_ge j (xs.length * 2) with hj | hj
      · have h1 := (hH2 j (by simp [hlen]; omega)).1
        rw [Nat.zero_add, hb.cell] at h1
        rw [List.getElem?_take, if_pos hj, Array.getElem?_toList, h1, pkC_flat _ j (by rw [hlen]; exact hj)]
        rfl
      · rw [List.getElem?_eq_none (by rw [List.length_take]; omega), List.getElem?_eq_none (by rw [pkC_len, hlen]; exact hj)]
def PairsP (s : NS) (w : World) (e : Ending) (w' : World) : Prop := ∃ xs v, e = .returned v ∧ xs.Perm s.pairs ∧ w'.ownsRow w.heap.size 69 2 v xs.length (pkC (sortP xs)) ∧ Below w.heap.size w w'
set_option maxRecDepth 100000 in
set_option maxHeartbeats 1000000 in
theorem pairs_any {w : World} {N : Nat} {s : NS} {bn bl : Nat} {vh vs : Value} (h : NetAt w N s bn bl vh vs) : Calls Tryz.prog 40 #[.pointer (some ⟨N, 0, none⟩)] w (PairsP s w) := by
  have n1 := h.blk.cell 1
  simp only [List.getElem?_toArray, List.getElem?_cons_succ, List.getElem?_cons_zero] at n1
  have hpn := h.ok.pn
  have HCO := Lib.hid (pcollect_any h.links (by omega))
  clear h
  go_enter Tryz.func40, Tryz.ntmps40
  go_wp2_with fail
  refine (pkeys_any _ _).mono ?_
  rintro e w2 ⟨rfl, rfl⟩
  go_wp2_with fail
  refine HCO.out.mono ?_
  clear HCO
  rintro e w3 ⟨xs, v, rfl, hp, ho, hb⟩
  have HSO := Lib.hid (psort_any ho (by have := hp.length_eq; omega))
  have HP := Lib.hid hp
  have HB : Hid (Below w.heap.size w w3) := Lib.hid (bnextK (below_alloc _ _) hb)
  have HLT : Hid (∀ k, v.ownBlock = some k → w.heap.size ≤ k) := Lib.hid fun k hk => by have := (ho.lt k hk).1; rw [World.size_alloc] at this; omega
  clear hp ho hb n1
  go_wp2_with fail
  refine HSO.out.mono ?_
  clear HSO
  rintro e w4 ⟨rfl, ho4, hg4⟩
  have HO4 : Hid (w4.ownsRow w.heap.size 69 2 v xs.length (pkC (sortP xs))) := Lib.hid (ownsRow_mono ho4 (by rw [World.size_alloc]; omega))
  have HB4 : Hid (Below w.heap.size w w4) := Lib.hid (HB.out.grown hg4 HB.out.size HLT.out)
  clear ho4 hg4
  go_wp2_with fail
  go_ret
  exact ⟨xs, v, rfl, HP.out, HO4.out, HB4.out⟩
def tkE (t : Int) : Int := if t < 1 ∨ 1048576 < t then 2 else 0
def tick1E (s : NS) (t : Int) : Int := if IntKind.i64.wrap (1099511627776 - t) < s.now then 8 else 0
def tickE (s : NS) (t : Int) : Int := firstE [tkE t, tick1E s t]
theorem tickE_zero {s : NS} {t : Int} (h : tickE s t = 0) : 1 ≤ t ∧ t ≤ 1048576 ∧ s.now + t ≤ 1099511627776 := by
  obtain ⟨h1, h2⟩ := firstE2 h
  unfold tkE at h1
  unfold tick1E at h2
  split at h1
  case isTrue => omega
  rw [show IntKind.i64.wrap (1099511627776 - t) = 1099511627776 - t from by rw [IntKind.wrap_i64]; omega] at h2
  split at h2
  case isTrue => omega
  omega
set_option maxRecDepth 100000 in
set_option maxHeartbeats 4000000 in
theorem tick1_any {w : World} {N : Nat} {s : NS} {bn bl : Nat} {vh vs : Value} (h : NetAt w N s bn bl vh vs) (t : Int) (p0 p1 : Nat)
    (h0 : w.cell? ⟨p0, 0, none⟩ = some (.pointer (some ⟨N, 0, none⟩))) (h1 : w.cell? ⟨p1, 0, none⟩ = some (.int .i64 t)) :
    Calls Tryz.prog 37 #[.pointer (some ⟨p0, 0, none⟩), .pointer (some ⟨p1, 0, none⟩)] w (AnsN (tick1E s t) w) := by
  have HU : Hid (∀ (z : Bool) W, z = decide (IntKind.i64.wrap (1099511627776 - t) < s.now) → Calls Tryz.prog 14 #[.bool z, .int .i64 8] W (CondP (tick1E s t) W)) := Lib.hid fun z W hz => unless_P _ 8 _ W (by
    subst hz
    unfold tick1E
    by_cases hl : IntKind.i64.wrap (1099511627776 - t) < s.now
    · rw [if_pos hl, if_pos (decide_eq_true hl)]
    · rw [if_neg hl, if_neg (by simp [hl])])
  have HSH : Hid (∀ W, Below w.heap.size w W → W.cell? ⟨p0, 0, none⟩ = some (.pointer (some ⟨N, 0, none⟩)) ∧ W.cell? ⟨p1, 0, none⟩ = some (.int .i64 t) ∧ W.cell? ⟨N, 2, none⟩ = some (.int .i64 s.now)) := Lib.hid fun W hW =>
    ⟨(hW.cell (p := ⟨p0, 0, none⟩) (cell_lt h0)).trans h0, (hW.cell (p := ⟨p1, 0, none⟩) (cell_lt h1)).trans h1, by rw [(h.far hW).blk.cell]; rfl⟩
  have HNOW : Hid (Below w.heap.size w w.drew) := Lib.hid (Qw.below ⟨1, rfl⟩ _)
  generalize tick1E s t = ev at *
  generalize s.now = now at *
  clear h h0 h1
  go_enter Tryz.func37, Tryz.ntmps37
  go_wp2_with fail
  refine wp_region_held_drew (S := (fun W => W.cell? ⟨p0, 0, none⟩ = some (.pointer (some ⟨N, 0, none⟩)) ∧ W.cell? ⟨p1, 0, none⟩ = some (.int .i64 t) ∧ W.cell? ⟨N, 2, none⟩ = some (.int .i64 now))) (by kernel_rfl) ?_ (fun hHeld => ?_)
  · (try dsimp only); exact HSH.out _ HNOW.out
  refine wpAnyH_take (i := 0) (oi := ⟨some 3, _, _, _, _, _⟩) (v := ?_) rfl (by kernel_rfl) (by kernel_rfl) (by kernel_rfl) (fun _ _ _ h => h) (Or.inl ⟨by rfl, ?_⟩) (by assumption) ?_; rotate_left
  · intro w hSw; (try dsimp only at hSw); go_simp; try with_reducible rfl
  try simp only [Act.put, setIfInBounds_toArray, set_cons_zero, set_cons_succ]
  refine wpAnyH_take (i := 1) (oi := ⟨some 4, _, _, _, _, _⟩) (v := ?_) rfl (by kernel_rfl) (by kernel_rfl) (by kernel_rfl) (fun _ _ _ h => h) (Or.inl ⟨by rfl, ?_⟩) (by assumption) ?_; rotate_left
  · intro w hSw; (try dsimp only at hSw); go_simp; try with_reducible rfl
  try simp only [Act.put, setIfInBounds_toArray, set_cons_zero, set_cons_succ]
  refine wpAnyH_take (i := 2) (oi := ⟨some 5, _, _, _, _, _⟩) (v := ?_) rfl (by kernel_rfl) (by kernel_rfl) (by kernel_rfl) (fun _ _ _ h => h) (Or.inl ⟨by rfl, ?_⟩) (by assumption) ?_; rotate_left
  · intro w hSw; (try dsimp only at hSw); go_simp; try with_reducible rfl
  try simp only [Act.put, setIfInBounds_toArray, set_cons_zero, set_cons_succ]
  refine wpAnyH_take (i := 3) (oi := ⟨some 6, _, _, _, _, _⟩) (v := ?_) rfl (by kernel_rfl) (by kernel_rfl) (by kernel_rfl) (fun _ _ _ h => h) (Or.inl ⟨by rfl, ?_⟩) (by assumption) ?_; rotate_left
  · intro w hSw; (try dsimp only at hSw); go_simp; try with_reducible rfl
  try simp only [Act.put, setIfInBounds_toArray, set_cons_zero, set_cons_succ]
  refine wpAnyH_take (i := 4) (oi := ⟨some 7, _, _, _, _, _⟩) (v := ?_) rfl (by kernel_rfl) (by kernel_rfl) (by kernel_rfl) (fun _ _ _ h => h) (Or.inl ⟨by rfl, ?_⟩) (by assumption) ?_; rotate_left
  · intro w hSw; (try dsimp only at hSw); go_simp; try with_reducible rfl
  try simp only [Act.put, setIfInBounds_toArray, set_cons_zero, set_cons_succ]
  refine wpAnyH_take (i := 5) (oi := ⟨some 8, _, _, _, _, _⟩) (v := ?_) rfl (by kernel_rfl) (by kernel_rfl) (by kernel_rfl) (fun _ _ _ h => h) (Or.inl ⟨by rfl, ?_⟩) (by assumption) ?_; rotate_left
  · intro w hSw; (try dsimp only at hSw); go_simp; try with_reducible rfl
  try simp only [Act.put, setIfInBounds_toArray, set_cons_zero, set_cons_succ]
  refine wpAnyH_take (i := 6) (oi := ⟨some 9, _, _, _, _, _⟩) (v := ?_) rfl (by kernel_rfl) (by kernel_rfl) (by kernel_rfl) (fun _ _ _ h => h) (Or.inl ⟨by rfl, ?_⟩) (by assumption) ?_; rotate_left
  · intro w hSw; (try dsimp only at hSw); go_simp; try with_reducible rfl
  try simp only [Act.put, setIfInBounds_toArray, set_cons_zero, set_cons_succ]
  refine wpAnyH_ready (rs := [7]) (by kernel_rfl) (by simp) ?_
  refine AllReadyH.cons (o := ⟨some 10, _, _, _, _, _⟩) rfl (fun K hK => ?_) AllReadyH.nil
  go_simp
  refine (HU.out _ _ rfl).mono ?_
  rintro e w4 ⟨f4, rfl, ⟨fn4, cap4, rfl, hen4, hcl4⟩, b4⟩
  have hen5 := hen4 w4
  have HC5 := Lib.hid (hcl4 w4 (Below.refl _ _))
  clear hen4 hcl4
  have HNOW := Lib.hid (bnextK HNOW.out b4)
  go_wp2_with fail
  refine hK.out _ _ ?_ (fun hHeld => ?_)
  · (try dsimp only); exact HSH.out _ HNOW.out
  clear hK K
  try simp only [Act.put, setIfInBounds_toArray, set_cons_zero, set_cons_succ]
  refine wpAnyH_ready (rs := [8]) (by kernel_rfl) (by simp) ?_
  refine AllReadyH.cons (o := ⟨some 11, _, _, _, _, _⟩) rfl (fun K hK => ?_) AllReadyH.nil
  go_simp
  refine HC5.out.mono ?_
  rintro e w5 ⟨rfl, b5⟩
  clear hen5 HC5
  have HNOW := Lib.hid (bnextK HNOW.out b5)
  go_wp2_with fail
  refine hK.out _ _ ?_ (fun hHeld => ?_)
  · (try dsimp only); exact HSH.out _ HNOW.out
  clear hK K
  try simp only [Act.put, setIfInBounds_toArray, set_cons_zero, set_cons_succ]
  refine wpAnyH_take (i := 9) (oi := ⟨some 2, _, _, _, _, _⟩) (v := ?_) rfl (by kernel_rfl) (by kernel_rfl) (by kernel_rfl) (fun _ _ _ h => h) (Or.inl ⟨by rfl, ?_⟩) (by assumption) ?_; rotate_left
  · intro w hSw; (try dsimp only at hSw); go_simp; try with_reducible rfl
  try simp only [Act.put, setIfInBounds_toArray, set_cons_zero, set_cons_succ]
  refine wpAnyH_done (by kernel_rfl) ?_ _
  go_wp2_with fail
  go_ret
  exact ⟨rfl, HNOW.out⟩
set_option maxRecDepth 100000 in
set_option maxHeartbeats 1000000 in
theorem tick2_any (h : HoldM) (pv : Value) (now : Int) (N p : Nat) (w : World) (hp : w.cell? ⟨p, 0, none⟩ = some (.pointer (some ⟨N, 0, none⟩))) (hn : w.cell? ⟨N, 2, none⟩ = some (.int .i64 now)) (hr : NmRow w pv h.path) (hlt2 : N < w.heap.size) :
    Calls Tryz.prog 39 #[holdV h pv, .pointer (some ⟨p, 0, none⟩)] w fun e w' => e = .returned (.bool (lateB now h)) ∧ Below w.heap.size w w' := by
  obtain ⟨pb, pc, pcs, rfl, _⟩ := id hr
  clear hr
  have hlt := cell_lt hp
  have HS0 : Hid ((w.alloc (.cells #[.int .i64 h.id, .slice (some ⟨pb, 0, none⟩) h.path.length pc, .int .i64 h.bits, .int .i64 h.til] 79)).cell? ⟨w.heap.size, 3, none⟩ = some (.int .i64 h.til) ∧ (w.alloc (.cells #[.int .i64 h.id, .slice (some ⟨pb, 0, none⟩) h.path.length pc, .int .i64 h.bits, .int .i64 h.til] 79)).cell? ⟨p, 0, none⟩ = some (.pointer (some ⟨N, 0, none⟩)) ∧ (w.alloc (.cells #[.int .i64 h.id, .slice (some ⟨pb, 0, none⟩) h.path.length pc, .int .i64 h.bits, .int .i64 h.til] 79)).cell? ⟨N, 2, none⟩ = some (.int .i64 now)) := Lib.hid
    ⟨by rw [(Bk.new _ _ _).cell]; rfl, ((below_alloc w _).cell (p := ⟨p, 0, none⟩) hlt).trans hp, ((below_alloc w _).cell (p := ⟨N, 2, none⟩) hlt2).trans hn⟩
  unfold holdV
  have HE : Hid (lateB now h = decide (h.til ≤ now)) := Lib.hid rfl
  generalize h.path.length = pl at *
  go_enter Tryz.func39, Tryz.ntmps39
  go_wp2_with fail
  refine wp_region_held_drew (S := (fun W => W.cell? ⟨w.heap.size, 3, none⟩ = some (.int .i64 h.til) ∧ W.cell? ⟨p, 0, none⟩ = some (.pointer (some ⟨N, 0, none⟩)) ∧ W.cell? ⟨N, 2, none⟩ = some (.int .i64 now))) (by kernel_rfl) ?_ (fun hHeld => ?_)
  · (try dsimp only); exact HS0.out
  refine wpAnyH_take (i := 0) (oi := ⟨some 4, _, _, _, _, _⟩) (v := ?_) rfl (by kernel_rfl) (by kernel_rfl) (by kernel_rfl) (fun _ _ _ h => h) (Or.inl ⟨by rfl, ?_⟩) (by assumption) ?_; rotate_left
  · intro w hSw; (try dsimp only at hSw); go_simp; try with_reducible rfl
  try simp only [Act.put, setIfInBounds_toArray, set_cons_zero, set_cons_succ]
  refine wpAnyH_take (i := 1) (oi := ⟨some 5, _, _, _, _, _⟩) (v := ?_) rfl (by kernel_rfl) (by kernel_rfl) (by kernel_rfl) (fun _ _ _ h => h) (Or.inl ⟨by rfl, ?_⟩) (by assumption) ?_; rotate_left
  · intro w hSw; (try dsimp only at hSw); go_simp; try with_reducible rfl
  try simp only [Act.put, setIfInBounds_toArray, set_cons_zero, set_cons_succ]
  refine wpAnyH_take (i := 2) (oi := ⟨some 6, _, _, _, _, _⟩) (v := ?_) rfl (by kernel_rfl) (by kernel_rfl) (by kernel_rfl) (fun _ _ _ h => h) (Or.inl ⟨by rfl, ?_⟩) (by assumption) ?_; rotate_left
  · intro w hSw; (try dsimp only at hSw); go_simp; try with_reducible rfl
  try simp only [Act.put, setIfInBounds_toArray, set_cons_zero, set_cons_succ]
  refine wpAnyH_take (i := 3) (oi := ⟨some 7, _, _, _, _, _⟩) (v := ?_) rfl (by kernel_rfl) (by kernel_rfl) (by kernel_rfl) (fun _ _ _ h => h) (Or.inl ⟨by rfl, ?_⟩) (by assumption) ?_; rotate_left
  · intro w hSw; (try dsimp only at hSw); go_simp; try with_reducible rfl
  try simp only [Act.put, setIfInBounds_toArray, set_cons_zero, set_cons_succ]
  refine wpAnyH_take (i := 4) (oi := ⟨some 8, _, _, _, _, _⟩) (v := ?_) rfl (by kernel_rfl) (by kernel_rfl) (by kernel_rfl) (fun _ _ _ h => h) (Or.inl ⟨by rfl, ?_⟩) (by assumption) ?_; rotate_left
  · intro w hSw; (try dsimp only at hSw); go_simp; try with_reducible rfl
  try simp only [Act.put, setIfInBounds_toArray, set_cons_zero, set_cons_succ]
  refine wpAnyH_take (i := 5) (oi := ⟨some 9, _, _, _, _, _⟩) (v := ?_) rfl (by kernel_rfl) (by kernel_rfl) (by kernel_rfl) (fun _ _ _ h => h) (Or.inl ⟨by rfl, ?_⟩) (by assumption) ?_; rotate_left
  · intro w hSw; (try dsimp only at hSw); go_simp; try with_reducible rfl
  try simp only [Act.put, setIfInBounds_toArray, set_cons_zero, set_cons_succ]
  refine wpAnyH_take (i := 6) (oi := ⟨some 10, _, _, _, _, _⟩) (v := ?_) rfl (by kernel_rfl) (by kernel_rfl) (by kernel_rfl) (fun _ _ _ h => h) (Or.inl ⟨by rfl, ?_⟩) (by assumption) ?_; rotate_left
  · intro w hSw; (try dsimp only at hSw); go_simp; try with_reducible rfl
  try simp only [Act.put, setIfInBounds_toArray, set_cons_zero, set_cons_succ]
  refine wpAnyH_take (i := 7) (oi := ⟨some 3, _, _, _, _, _⟩) (v := ?_) rfl (by kernel_rfl) (by kernel_rfl) (by kernel_rfl) (fun _ _ _ h => h) (Or.inl ⟨by rfl, ?_⟩) (by assumption) ?_; rotate_left
  · intro w hSw; (try dsimp only at hSw); go_simp; try with_reducible rfl
  try simp only [Act.put, setIfInBounds_toArray, set_cons_zero, set_cons_succ]
  refine wpAnyH_done (by kernel_rfl) ?_ _
  go_wp2_with fail
  go_ret
  exact ⟨by rw [HE.out]; rfl, bnextK (below_alloc _ _) (Qw.below ⟨1, rfl⟩ _)⟩
/-- The time changes. -/
theorem NetAt.now_to {w w' : World} {N : Nat} {s : NS} {bn bl : Nat} {vh vs : Value} {t : Int} (h : NetAt w N s bn bl vh vs) (hok : NSOK (nowS s t)) (hw : w' = w.setCell ⟨N, 2, none⟩ (.int .i64 (s.now + t))) : NetAt w' N (nowS s t) bn bl vh vs := by
  subst hw
  have hc2 : CK (fun t => t ≠ 56) w (w.setCell ⟨N, 2, none⟩ (.int .i64 (s.now + t))) := CK.setCell h.blk
  have hmap : ∀ {b : Nat} {k : TypeId} {κ : Type} {K : KeyT k κ} {ks : List κ} {f : κ → Option Value}, MapL K w b ks f → MapL K (w.setCell ⟨N, 2, none⟩ (.int .i64 (s.now + t))) b ks f := fun {b k κ K ks f} m => by
    refine m.keep (Below.heap_setCell _ _ _ _ (fun e => ?_))
    have e' : b = N := e
    subst e'
    exact m.noBk h.blk
  refine ⟨?_, hmap h.nodes, hmap h.links, h.holds.ck hc2 (by decide) (by decide), h.sents.ck hc2 (by decide) (by decide) (by decide) (by decide) (by decide), hok, h.ne⟩
  have := h.blk.set 2 (.int .i64 (s.now + t))
  exact this
/-- The links of a list have gained. -/
def gainK (D : NS) (was : Int) (l : List (Nm × Nm)) : NS := { D with lk := fun q => if q ∈ l then gainL (D.lk q) was D.now else D.lk q }
theorem gainK_step {D : NS} {was : Int} {l : List (Nm × Nm)} {q : Nm × Nm} (hq : q ∈ D.pairs) (y : Nm × Nm) : (if y = q then some (lkV (gainL (D.lk q) was D.now)) else linksF (gainK D was l) y) = linksF (gainK D was (l ++ [q])) y := by
  unfold linksF gainK
  dsimp only
  by_cases hy : y = q
  · subst hy; simp [hq]
  · simp [hy]
theorem gainK_none {D : NS} {was : Int} {l : List (Nm × Nm)} {q : Nm × Nm} (h0 : (D.lk q).gain = 0) (y : Nm × Nm) : linksF (gainK D was l) y = linksF (gainK D was (l ++ [q])) y := by
  unfold linksF gainK
  dsimp only
  by_cases hy : y = q
  · subst hy; simp [gainL, h0]
  · simp [hy]
theorem gainK_all {D : NS} {was : Int} {l : List (Nm × Nm)} (h : ∀ q, q ∈ D.pairs → q ∈ l) (y : Nm × Nm) : linksF (gainK D was l) y = linksF (gainS D was) y := by
  unfold linksF gainK gainS
  dsimp only
  by_cases hy : y ∈ D.pairs
  · simp [hy, h y hy]
  · simp [hy]
theorem gainK_old {D : NS} {was : Int} {l : List (Nm × Nm)} {q : Nm × Nm} (hq : q ∈ D.pairs) (h : q ∉ l) : linksF (gainK D was l) q = some (lkV (D.lk q)) := by
  unfold linksF gainK
  dsimp only
  rw [if_pos hq, if_neg h]
def TickP (N : Nat) (s : NS) (bn bl : Nat) (vh vs : Value) (t : Int) (w : World) (e : Ending) (w' : World) : Prop :=
  ∃ z, z = tickE s t ∧ e = .returned (.int .i64 z) ∧ ((z ≠ 0 ∧ NetAt w' N s bn bl vh vs ∧ Below w.heap.size w w') ∨ (z = 0 ∧ (∃ vh', NetAt w' N (tickS s t) bn bl vh' vs ∧ ∀ k, vh'.ownBlock = some k → w.heap.size ≤ k) ∧ KeepL [N, bl] w w'))
set_option maxRecDepth 100000 in
set_option maxHeartbeats 4000000 in
theorem Tick_any {w : World} {N : Nat} {s : NS} {bn bl : Nat} {vh vs : Value} (h : NetAt w N s bn bl vh vs) (hni : NI s) (t : Int) :
    Calls Tryz.prog 23 #[.pointer (some ⟨N, 0, none⟩), .int .i64 t] w (TickP N s bn bl vh vs t w) := by
  have hmf : ∀ (fn : Fn) (first cap : Array Value) (w : World), (Instr.makeFunc fn first cap).run Tryz.prog w = .ok (.func fn first cap) w := fun _ _ _ _ => rfl
  obtain ⟨w1, hw1⟩ : ∃ w1, w1 = (w.alloc (.cells #[.pointer (some ⟨N, 0, none⟩)] 24)).alloc (.cells #[.int .i64 t] 3) := ⟨_, rfl⟩
  obtain ⟨k0, k1⟩ := boxes2 w #[.pointer (some ⟨N, 0, none⟩)] #[.int .i64 t] 24 3
  have hb1 := alloc2_below w (.cells #[.pointer (some ⟨N, 0, none⟩)] 24) (.cells #[.int .i64 t] 3)
  rw [← hw1] at k0 k1 hb1
  have h1 := h.far hb1
  have HW1 := Lib.hid hw1; have HB1 := Lib.hid hb1; have H1 := Lib.hid h1; have H := Lib.hid h; have HNI := Lib.hid hni
  have HK0 := Lib.hid k0; have HK1 := Lib.hid k1
  have HU : Hid (∀ (z : Bool) W, (z = true ↔ (t < 1 ∨ 1048576 < t)) → Calls Tryz.prog 14 #[.bool z, .int .i64 2] W (CondP (tkE t) W)) := Lib.hid fun z W hz => unless_P _ 2 _ W (by
    unfold tkE
    by_cases hl : (t < 1 ∨ 1048576 < t)
    · rw [if_pos hl, if_pos (hz.2 hl)]
    · rw [if_neg hl, if_neg (fun h => hl (hz.1 h))])
  have HSH : Hid (∀ W, Below w1.heap.size w1 W → W.cell? ⟨w.heap.size, 0, none⟩ = some (.pointer (some ⟨N, 0, none⟩)) ∧ W.cell? ⟨w.heap.size + 1, 0, none⟩ = some (.int .i64 t)) := Lib.hid fun W hW => ⟨by rw [(k0.past hW k0.lt).cell]; rfl, by rw [(k1.past hW k1.lt).cell]; rfl⟩
  have HA : Hid (∀ (W : World) (f1 : Value) (g : Nat), Below w1.heap.size w1 W → CondOK W f1 (tkE t) → W.heap.size = g →
      Calls Tryz.prog 13 #[.pointer (some ⟨N, 0, none⟩), .slice (some ⟨g, 0, none⟩) 2 2] (W.alloc (.cells #[f1, .func (.func 37) #[] #[.pointer (some ⟨w.heap.size, 0, none⟩), .pointer (some ⟨w.heap.size + 1, 0, none⟩)]] 59))
        (AnsN (tickE s t) (W.alloc (.cells #[f1, .func (.func 37) #[] #[.pointer (some ⟨w.heap.size, 0, none⟩), .pointer (some ⟨w.heap.size + 1, 0, none⟩)]] 59)))) := Lib.hid fun W f1 g hW q1 hg => by
    refine ask_made (h1.far hW) [(f1, tkE t), (_, tick1E s t)] _ rfl 2 rfl (by omega) ?_ g hg
    intro y hy
    simp only [List.mem_cons, List.not_mem_nil, or_false] at hy
    rcases hy with rfl | rfl
    · exact q1
    · refine ⟨_, _, rfl, enters_of Tryz.func37 (by kernel_rfl) rfl _, fun W' hW' => ?_⟩
      have hB := bnextK hW hW'
      exact tick1_any (h1.far hB) t _ _ (HSH.out W' hB).1 (HSH.out W' hB).2
  have HNOW : Hid (Below w1.heap.size w1 w1.drew) := Lib.hid (Qw.below ⟨1, rfl⟩ _)
  obtain ⟨ev, hev⟩ : ∃ ev, ev = tickE s t := ⟨_, rfl⟩
  have HEV := Lib.hid hev
  rw [← hev] at HA
  clear h h1 hw1 hb1 k0 k1 hev hni
  go_enter Tryz.func23, Tryz.ntmps23
  go_wp2_with fail
  rw [← HW1.out]
  clear HW1
  go_cut [5] from 5 to 100 (fun v5 wc => v5 = .int .i64 ev ∧ Below w1.heap.size w1 wc)
  case first =>
    by_cases g1 : t < 1
    · have hb1 : decide (t < 1) = true := by simp; omega
      refine wp_region_held_drew (S := (fun W => W.cell? ⟨w.heap.size, 0, none⟩ = some (.pointer (some ⟨N, 0, none⟩)) ∧ W.cell? ⟨w.heap.size + 1, 0, none⟩ = some (.int .i64 t))) (by kernel_rfl) ?_ (fun hHeld => ?_)
      · (try dsimp only); first | exact HSH.out _ HNOW.out | exact HSH.out _ (bnextK HNOW.out (below_alloc _ _))
      refine wpAnyH_take (i := 0) (oi := ⟨some 12, _, _, _, _, _⟩) (v := ?_) rfl (by kernel_rfl) (by kernel_rfl) (by kernel_rfl) (fun _ _ _ h => h) (Or.inl ⟨by rfl, ?_⟩) (by assumption) ?_; rotate_left
      · intro w hSw; (try dsimp only at hSw); go_simp; try with_reducible rfl
      try simp only [Act.put, setIfInBounds_toArray, set_cons_zero, set_cons_succ]
      refine wpAnyH_take (i := 1) (oi := ⟨some 13, _, _, _, _, _⟩) (v := ?_) rfl (by kernel_rfl) (by kernel_rfl) (by kernel_rfl) (fun _ _ _ h => h) (Or.inl ⟨by rfl, ?_⟩) (by assumption) ?_; rotate_left
      · intro w hSw; (try dsimp only at hSw); go_simp; try with_reducible rfl
      try simp only [Act.put, setIfInBounds_toArray, set_cons_zero, set_cons_succ]
      refine wpAnyH_take (i := 2) (oi := ⟨some 14, _, _, _, _, _⟩) (v := ?_) rfl (by kernel_rfl) (by kernel_rfl) (by kernel_rfl) (fun _ _ _ h => h) (Or.inl ⟨by rfl, ?_⟩) (by assumption) ?_; rotate_left
      · intro w hSw; (try dsimp only at hSw); go_simp; try with_reducible rfl
      try simp only [Act.put, setIfInBounds_toArray, set_cons_zero, set_cons_succ]
      refine wpAnyH_take (i := 3) (oi := ⟨some 15, _, _, _, _, _⟩) (v := ?_) rfl (by kernel_rfl) (by kernel_rfl) (by kernel_rfl) (fun _ _ _ h => h) (Or.inl ⟨by rfl, ?_⟩) (by assumption) ?_; rotate_left
      · intro w hSw; (try dsimp only at hSw); go_simp; try with_reducible rfl
      try simp only [Act.put, setIfInBounds_toArray, set_cons_zero, set_cons_succ]
      refine wpAnyH_take (i := 4) (oi := ⟨some 16, _, _, _, _, _⟩) (v := undef) rfl (by kernel_rfl) (by kernel_rfl) (by kernel_rfl) (fun _ _ _ h => h) (Or.inr ⟨by rfl, rfl⟩) (by assumption) ?_
      try simp only [Act.put, setIfInBounds_toArray, set_cons_zero, set_cons_succ]
      refine wpAnyH_take (i := 5) (oi := ⟨some 17, _, _, _, _, _⟩) (v := undef) rfl (by kernel_rfl) (by kernel_rfl) (by kernel_rfl) (fun _ _ _ h => h) (Or.inr ⟨by rfl, rfl⟩) (by assumption) ?_
      try simp only [Act.put, setIfInBounds_toArray, set_cons_zero, set_cons_succ]
      refine wpAnyH_take (i := 6) (oi := ⟨some 18, _, _, _, _, _⟩) (v := ?_) rfl (by kernel_rfl) (by kernel_rfl) (by kernel_rfl) (fun _ _ _ h => h) (Or.inl ⟨by rfl, ?_⟩) (by assumption) ?_; rotate_left
      · intro w hSw; (try dsimp only at hSw); go_simp; try with_reducible rfl
      try simp only [Act.put, setIfInBounds_toArray, set_cons_zero, set_cons_succ]
      refine wpAnyH_take (i := 8) (oi := ⟨some 20, _, _, _, _, _⟩) (v := ?_) rfl (by kernel_rfl) (by kernel_rfl) (by kernel_rfl) (fun _ _ _ h => h) (Or.inl ⟨by rfl, ?_⟩) (by assumption) ?_; rotate_left
      · intro w hSw; (try dsimp only at hSw); go_simp; try with_reducible rfl
      try simp only [Act.put, setIfInBounds_toArray, set_cons_zero, set_cons_succ]
      refine wpAnyH_ready (rs := [7]) (by kernel_rfl) (by simp) ?_
      refine AllReadyH.cons (o := ⟨some 19, _, _, _, _, _⟩) rfl (fun K hK => ?_) AllReadyH.nil
      go_simp
      refine (HU.out _ _ (by simp; omega)).mono ?_
      rintro e w3 ⟨f3, rfl, k3, b3⟩
      obtain ⟨fn3, cap3, rfl, _⟩ := id k3
      have HNOW := Lib.hid (bnextK HNOW.out b3)
      go_wp2_with fail
      refine hK.out _ _ ?_ (fun hHeld => ?_)
      · (try dsimp only); first | exact HSH.out _ HNOW.out | exact HSH.out _ (bnextK HNOW.out (below_alloc _ _))
      clear hK K
      try simp only [Act.put, setIfInBounds_toArray, set_cons_zero, set_cons_succ]
      refine wpAnyH_ready (rs := [9]) (by kernel_rfl) (by simp) ?_
      refine AllReadyH.cons (o := ⟨some 21, _, _, _, _, _⟩) rfl (fun K hK => ?_) AllReadyH.nil
      go_simp
      refine hK.out _ _ ?_ (fun hHeld => ?_)
      · (try dsimp only); first | exact HSH.out _ HNOW.out | exact HSH.out _ (bnextK HNOW.out (below_alloc _ _))
      clear hK K
      try simp only [Act.put, setIfInBounds_toArray, set_cons_zero, set_cons_succ]
      refine wpAnyH_ready (rs := [10]) (by kernel_rfl) (by simp) ?_
      refine AllReadyH.cons (o := ⟨some 22, _, _, _, _, _⟩) rfl (fun K hK => ?_) AllReadyH.nil
      go_simp
      refine (HA.out _ _ _ HNOW.out k3 rfl).mono ?_
      rintro e w5 ⟨rfl, b5⟩
      have HNOW := Lib.hid (bnextK (bnextK HNOW.out (below_alloc _ _)) b5)
      go_wp2_with fail
      refine hK.out _ _ ?_ (fun hHeld => ?_)
      · (try dsimp only); first | exact HSH.out _ HNOW.out | exact HSH.out _ (bnextK HNOW.out (below_alloc _ _))
      clear hK K
      try simp only [Act.put, setIfInBounds_toArray, set_cons_zero, set_cons_succ]
      refine wpAnyH_take (i := 11) (oi := ⟨some 5, _, _, _, _, _⟩) (v := ?_) rfl (by kernel_rfl) (by kernel_rfl) (by kernel_rfl) (fun _ _ _ h => h) (Or.inl ⟨by rfl, ?_⟩) (by assumption) ?_; rotate_left
      · intro w hSw; (try dsimp only at hSw); go_simp; try with_reducible rfl
      try simp only [Act.put, setIfInBounds_toArray, set_cons_zero, set_cons_succ]
      refine wpAnyH_done (by kernel_rfl) ?_ _
      go_wp2_with fail
      go_meet
      exact ⟨rfl, HNOW.out⟩
    · have hb1 : decide (t < 1) = false := by simp; omega
      refine wp_region_held_drew (S := (fun W => W.cell? ⟨w.heap.size, 0, none⟩ = some (.pointer (some ⟨N, 0, none⟩)) ∧ W.cell? ⟨w.heap.size + 1, 0, none⟩ = some (.int .i64 t))) (by kernel_rfl) ?_ (fun hHeld => ?_)
      · (try dsimp only); first | exact HSH.out _ HNOW.out | exact HSH.out _ (bnextK HNOW.out (below_alloc _ _))
      refine wpAnyH_take (i := 0) (oi := ⟨some 12, _, _, _, _, _⟩) (v := ?_) rfl (by kernel_rfl) (by kernel_rfl) (by kernel_rfl) (fun _ _ _ h => h) (Or.inl ⟨by rfl, ?_⟩) (by assumption) ?_; rotate_left
      · intro w hSw; (try dsimp only at hSw); go_simp; try with_reducible rfl
      try simp only [Act.put, setIfInBounds_toArray, set_cons_zero, set_cons_succ]
      refine wpAnyH_take (i := 1) (oi := ⟨some 13, _, _, _, _, _⟩) (v := ?_) rfl (by kernel_rfl) (by kernel_rfl) (by kernel_rfl) (fun _ _ _ h => h) (Or.inl ⟨by rfl, ?_⟩) (by assumption) ?_; rotate_left
      · intro w hSw; (try dsimp only at hSw); go_simp; try with_reducible rfl
      try simp only [Act.put, setIfInBounds_toArray, set_cons_zero, set_cons_succ]
      refine wpAnyH_take (i := 2) (oi := ⟨some 14, _, _, _, _, _⟩) (v := ?_) rfl (by kernel_rfl) (by kernel_rfl) (by kernel_rfl) (fun _ _ _ h => h) (Or.inl ⟨by rfl, ?_⟩) (by assumption) ?_; rotate_left
      · intro w hSw; (try dsimp only at hSw); go_simp; try with_reducible rfl
      try simp only [Act.put, setIfInBounds_toArray, set_cons_zero, set_cons_succ]
      refine wpAnyH_take (i := 3) (oi := ⟨some 15, _, _, _, _, _⟩) (v := ?_) rfl (by kernel_rfl) (by kernel_rfl) (by kernel_rfl) (fun _ _ _ h => h) (Or.inl ⟨by rfl, ?_⟩) (by assumption) ?_; rotate_left
      · intro w hSw; (try dsimp only at hSw); go_simp; try with_reducible rfl
      try simp only [Act.put, setIfInBounds_toArray, set_cons_zero, set_cons_succ]
      refine wpAnyH_take (i := 4) (oi := ⟨some 16, _, _, _, _, _⟩) (v := ?_) rfl (by kernel_rfl) (by kernel_rfl) (by kernel_rfl) (fun _ _ _ h => h) (Or.inl ⟨by rfl, ?_⟩) (by assumption) ?_; rotate_left
      · intro w hSw; (try dsimp only at hSw); go_simp; try with_reducible rfl
      try simp only [Act.put, setIfInBounds_toArray, set_cons_zero, set_cons_succ]
      refine wpAnyH_take (i := 5) (oi := ⟨some 17, _, _, _, _, _⟩) (v := ?_) rfl (by kernel_rfl) (by kernel_rfl) (by kernel_rfl) (fun _ _ _ h => h) (Or.inl ⟨by rfl, ?_⟩) (by assumption) ?_; rotate_left
      · intro w hSw; (try dsimp only at hSw); go_simp; try with_reducible rfl
      try simp only [Act.put, setIfInBounds_toArray, set_cons_zero, set_cons_succ]
      refine wpAnyH_take (i := 6) (oi := ⟨some 18, _, _, _, _, _⟩) (v := ?_) rfl (by kernel_rfl) (by kernel_rfl) (by kernel_rfl) (fun _ _ _ h => h) (Or.inl ⟨by rfl, ?_⟩) (by assumption) ?_; rotate_left
      · intro w hSw; (try dsimp only at hSw); go_simp; try with_reducible rfl
      try simp only [Act.put, setIfInBounds_toArray, set_cons_zero, set_cons_succ]
      refine wpAnyH_take (i := 8) (oi := ⟨some 20, _, _, _, _, _⟩) (v := ?_) rfl (by kernel_rfl) (by kernel_rfl) (by kernel_rfl) (fun _ _ _ h => h) (Or.inl ⟨by rfl, ?_⟩) (by assumption) ?_; rotate_left
      · intro w hSw; (try dsimp only at hSw); go_simp; try with_reducible rfl
      try simp only [Act.put, setIfInBounds_toArray, set_cons_zero, set_cons_succ]
      refine wpAnyH_ready (rs := [7]) (by kernel_rfl) (by simp) ?_
      refine AllReadyH.cons (o := ⟨some 19, _, _, _, _, _⟩) rfl (fun K hK => ?_) AllReadyH.nil
      go_simp
      refine (HU.out _ _ (by simp; omega)).mono ?_
      rintro e w3 ⟨f3, rfl, k3, b3⟩
      obtain ⟨fn3, cap3, rfl, _⟩ := id k3
      have HNOW := Lib.hid (bnextK HNOW.out b3)
      go_wp2_with fail
      refine hK.out _ _ ?_ (fun hHeld => ?_)
      · (try dsimp only); first | exact HSH.out _ HNOW.out | exact HSH.out _ (bnextK HNOW.out (below_alloc _ _))
      clear hK K
      try simp only [Act.put, setIfInBounds_toArray, set_cons_zero, set_cons_succ]
      refine wpAnyH_ready (rs := [9]) (by kernel_rfl) (by simp) ?_
      refine AllReadyH.cons (o := ⟨some 21, _, _, _, _, _⟩) rfl (fun K hK => ?_) AllReadyH.nil
      go_simp
      refine hK.out _ _ ?_ (fun hHeld => ?_)
      · (try dsimp only); first | exact HSH.out _ HNOW.out | exact HSH.out _ (bnextK HNOW.out (below_alloc _ _))
      clear hK K
      try simp only [Act.put, setIfInBounds_toArray, set_cons_zero, set_cons_succ]
      refine wpAnyH_ready (rs := [10]) (by kernel_rfl) (by simp) ?_
      refine AllReadyH.cons (o := ⟨some 22, _, _, _, _, _⟩) rfl (fun K hK => ?_) AllReadyH.nil
      go_simp
      refine (HA.out _ _ _ HNOW.out k3 rfl).mono ?_
      rintro e w5 ⟨rfl, b5⟩
      have HNOW := Lib.hid (bnextK (bnextK HNOW.out (below_alloc _ _)) b5)
      go_wp2_with fail
      refine hK.out _ _ ?_ (fun hHeld => ?_)
      · (try dsimp only); first | exact HSH.out _ HNOW.out | exact HSH.out _ (bnextK HNOW.out (below_alloc _ _))
      clear hK K
      try simp only [Act.put, setIfInBounds_toArray, set_cons_zero, set_cons_succ]
      refine wpAnyH_take (i := 11) (oi := ⟨some 5, _, _, _, _, _⟩) (v := ?_) rfl (by kernel_rfl) (by kernel_rfl) (by kernel_rfl) (fun _ _ _ h => h) (Or.inl ⟨by rfl, ?_⟩) (by assumption) ?_; rotate_left
      · intro w hSw; (try dsimp only at hSw); go_simp; try with_reducible rfl
      try simp only [Act.put, setIfInBounds_toArray, set_cons_zero, set_cons_succ]
      refine wpAnyH_done (by kernel_rfl) ?_ _
      go_wp2_with fail
      go_meet
      exact ⟨rfl, HNOW.out⟩
  case rest =>
    clear HNOW HSH HA HU
    obtain ⟨w5, rfl⟩ : ∃ z : World, z = wc := ⟨_, rfl⟩
    obtain ⟨rfl, hb5⟩ := hcut
    have HB5 := Lib.hid (bnextK HB1.out hb5)
    have HN5 := Lib.hid (H1.out.far hb5)
    have HK05 := Lib.hid (HK0.out.past hb5 HK0.out.lt)
    have HK15 := Lib.hid (HK1.out.past hb5 HK1.out.lt)
    clear hb5 HK0 HK1 HB1 H1
    by_cases h0 : ev = 0
    · subst h0
      obtain ⟨t1, t2, t3⟩ := tickE_zero HEV.out.symm
      have hnn := H.out.ok.now
      obtain ⟨was, hwas⟩ : ∃ was, was = s.now := ⟨_, rfl⟩
      have HWAS := Lib.hid hwas
      rw [← hwas] at t3 hnn
      have HT : Hid (1 ≤ t ∧ t ≤ 1048576 ∧ was + t ≤ 1099511627776 ∧ 0 ≤ was) := Lib.hid ⟨t1, t2, t3, hnn.1⟩
      have d0 := HK05.out.cell 0
      have d1 := HK15.out.cell 0
      have n2 := HN5.out.blk.cell 2
      simp only [List.getElem?_toArray, List.getElem?_cons_succ, List.getElem?_cons_zero] at d0 d1 n2
      rw [← hwas] at n2
      have n2f := HN5.out.blk.froz 2
      have hwr : IntKind.i64.wrap (was + t) = was + t := by rw [IntKind.wrap_i64]; omega
      have hwr2 : wrap64 (was + t) = was + t := by unfold wrap64; omega
      clear hwas t1 t2 t3 hnn
      go_wp2_with fail
      refine wp_region_quiet_tail 8 (by kernel_rfl) (by kernel_rfl) ?_
      simp only [List.take_succ_cons, List.take_zero, List.drop_succ_cons, List.drop_zero]
      repeat (quiet_step (fail))
      refine wpQuiet_nil ?_
      intro _ hw'
      obtain ⟨nq, hw''⟩ := hw'
      subst hw''
      have hQ : Below w5.heap.size w5 (w5.drewN nq) := Qw.below (⟨nq, rfl⟩ : Qw w5 (w5.drewN nq)) w5.heap.size
      have HNQ := Lib.hid (HN5.out.far hQ)
      have HK0Q := Lib.hid (HK05.out.past hQ HK05.out.lt)
      have HBQ := Lib.hid (HB5.out.trans (hQ.mono HB5.out.size))
      clear hQ d0 d1
      generalize w5.drewN nq = w6 at *
      clear n2 n2f
      have n2 := HNQ.out.blk.cell 2
      have n2f := HNQ.out.blk.froz 2
      simp only [List.getElem?_toArray, List.getElem?_cons_succ, List.getElem?_cons_zero] at n2
      rw [← HWAS.out] at n2
      go_upto_region 6 with fail
      obtain ⟨w7, hw7⟩ : ∃ z, z = w6.setCell ⟨N, 2, none⟩ (.int .i64 (was + t)) := ⟨_, rfl⟩
      have HNOK := Lib.hid (nowS_ok H.out.ok HT.out.1 (by rw [← HWAS.out]; exact HT.out.2.2.1))
      have HN7 : Hid (NetAt w7 N (nowS s t) bn bl vh vs) := Lib.hid (HNQ.out.now_to HNOK.out (by rw [hw7, HWAS.out]))
      have HK07 : Hid (Bk w7 w.heap.size #[.pointer (some ⟨N, 0, none⟩)] 24) := Lib.hid (by rw [hw7]; exact CK.setCell HNQ.out.blk _ _ _ (by decide) HK0Q.out)
      have HKW7 : Hid (KeepL [N] w w7) := Lib.hid (by rw [hw7]; exact (KeepL.of_below HBQ.out).trans (KeepL.set _ _ _ _))
      rw [← hw7]
      clear hw7 n2 n2f hwr hwr2
      have e0 := HK07.out.cell 0
      simp only [List.getElem?_toArray, List.getElem?_cons_zero] at e0
      have HDR := Lib.hid (drop_any HN7.out (HNI.out.held.to rfl rfl (fun _ _ => rfl)) HNI.out.hl 39 w.heap.size (lateB (s.now + t)) ⟨fun v W => enters_of Tryz.func39 (by kernel_rfl) rfl _ W, fun W hh pv hW hr hl => by
        have hck := HN7.out.links.ckL hW
        have hk := hck _ _ _ trivial HK07.out
        have hn := hck _ _ _ trivial HN7.out.blk
        exact tick2_any hh pv (s.now + t) N w.heap.size W (by rw [hk.cell]; rfl) (by rw [hn.cell]; rfl) hr hn.lt⟩)
      have HTOK := Lib.hid (tick_ok H.out.ok HNI.out HT.out.1 (by rw [← HWAS.out]; exact HT.out.2.2.1))
      go_wp2_with fail
      refine HDR.out.mono ?_
      clear HDR
      rintro e w8 ⟨rfl, ⟨vh', hn8, hv8⟩, hk8⟩
      have HV8 : Hid (∀ k, vh'.ownBlock = some k → w.heap.size ≤ k) := Lib.hid fun k hk => Nat.le_trans HKW7.out.size (hv8 k hk)
      obtain ⟨D, hD⟩ : ∃ D, D = dropS (lateB (s.now + t)) (nowS s t) := ⟨_, rfl⟩
      have HDE : Hid (D = dropS' (lateB (s.now + t)) (nowS s t)) := Lib.hid hD
      rw [← hD] at hn8
      have HN8 := Lib.hid hn8
      have hck8 : CK (fun t => t ≠ 56 ∧ t ≠ 79) w7 w8 := CK.keepL hk8 (fun k hk cs ty ht hb => by
        simp only [List.mem_cons, List.not_mem_nil, or_false] at hk
        rcases hk with rfl | rfl
        · have hb0 := HN7.out.blk
          unfold Bk at hb hb0
          rw [hb0] at hb
          injection hb with hb
          injection hb with _ hb _
          exact ht.1 hb.symm
        · exact HN7.out.links.noBk hb)
      have HK08 := Lib.hid (hck8 _ _ _ (by decide) HK07.out)
      have HKW8 : Hid (KeepL [N, bl] w w8) := Lib.hid ((HKW7.out.sub (fun k hk => by simp at hk; simp [hk])).trans hk8)
      have hdnow : D.now = was + t := by
        rw [hD, HWAS.out]
        exact (dropS_fen (lateB (s.now + t)) HNOK.out (HNI.out.held.to rfl rfl (fun _ _ => rfl))).2.1
      have HDN := Lib.hid hdnow
      have e0 := HK08.out.cell 0
      simp only [List.getElem?_toArray, List.getElem?_cons_zero] at e0
      have HPA := Lib.hid (pairs_any HN8.out)
      clear hn8 hv8 hk8 hck8 hD hdnow
      go_wp2_with fail
      refine HPA.out.mono ?_
      clear HPA
      rintro e w9 ⟨xs, v, rfl, hp, ho, hb9⟩
      obtain ⟨ks, hks⟩ : ∃ ks, ks = sortP xs := ⟨_, rfl⟩
      rw [← hks] at ho
      have hkp : ks.Perm D.pairs := by rw [hks]; exact (sortP_perm xs).trans hp
      have hkl : xs.length = ks.length := by rw [hks]; exact (sortP_perm xs).length_eq.symm
      rw [hkl] at ho
      have HKND : Hid (ks.Nodup) := Lib.hid (hkp.nodup_iff.2 HN8.out.ok.pod)
      have HKM : Hid (∀ q, q ∈ ks ↔ q ∈ D.pairs) := Lib.hid fun q => hkp.mem_iff
      have hk40 : ks.length ≤ 40 := by have := HN8.out.ok.pn; rw [hkp.length_eq]; exact this
      have HN9 := Lib.hid (HN8.out.far hb9)
      have HK09 := Lib.hid (HK08.out.past hb9 HK08.out.lt)
      have HB9 := Lib.hid hb9
      have HO9 := Lib.hid ho
      have HI0 : Hid (MapL pairK w9 bl D.pairs (linksF (gainK D was (ks.take 0))) ∧ KeepL [bl] w9 w9) := Lib.hid ⟨HN9.out.links.same (fun y _ => by unfold linksF gainK; simp), KeepL.refl _ _⟩
      have HLEN : Hid (∀ q ∈ D.pairs, q.1.length ≤ maxLen ∧ q.2.length ≤ maxLen) := Lib.hid fun q hq => HN8.out.links.ok q hq
      have HOKD := Lib.hid HN8.out.ok
      obtain ⟨A, c, rfl, hc⟩ := own_form ho
      obtain ⟨ln, hln⟩ : ∃ ln, ln = ks.length := ⟨_, rfl⟩
      have HLN := Lib.hid hln
      rw [← hln] at hk40 hc ⊢
      clear ho hb9 hp hks hkp hkl hln e0
      go_wp2_with fail
      go_loopw [8, 9, 10, 11, 44] (fun _ _ _ _ i wr => ∃ k : Nat, k ≤ ln ∧ i = .int .i64 k ∧ MapL pairK wr bl D.pairs (linksF (gainK D was (ks.take k))) ∧ KeepL [bl] w9 wr) (fun _ _ _ _ i _ => ln - (intOf i).toNat)
      case atStart => exact ⟨0, Nat.zero_le _, rfl, HI0.out⟩
      case round =>
        obtain ⟨k, hk, rfl, hm, hkp⟩ := hrel
        obtain ⟨wi, rfl⟩ : ∃ z : World, z = wr := ⟨_, rfl⟩
        have HM := Lib.hid hm; have HKP := Lib.hid hkp
        have HCK := Lib.hid (HN9.out.links.ckL hkp)
        clear hm hkp HI0
        by_cases hlt : k < ln
        · have hki : (k : Int) < (ln : Int) := by omega
          obtain ⟨q, hq⟩ : ∃ q, ks[k]? = some q := ⟨_, List.getElem?_eq_getElem (by rw [← HLN.out]; exact hlt)⟩
          have hqD : q ∈ D.pairs := (HKM.out q).1 (List.mem_of_getElem? hq)
          have htk : ks.take (k + 1) = ks.take k ++ [q] := by
            obtain ⟨q1, q2⟩ := List.getElem?_eq_some_iff.1 hq
            rw [List.take_succ_eq_append_getElem q1, q2]
          have hnot : q ∉ ks.take k := fun hm => by
            obtain ⟨q1, q2⟩ := List.getElem?_eq_some_iff.1 hq
            obtain ⟨j, hj, e⟩ := List.getElem_of_mem hm
            rw [List.length_take] at hj
            rw [List.getElem_take] at e
            have := (List.pairwise_iff_getElem.1 HKND.out) j k (by omega) q1 (by omega)
            exact this (e.trans q2.symm)
          obtain ⟨g0, g1⟩ := pkC_get ks k q hq
          have hoi := ownsRow_ck HO9.out HCK.out trivial
          obtain ⟨G, rfl, hG, hc0⟩ : ∃ G, A = some ⟨G, 0, none⟩ ∧ G < wi.heap.size ∧ ∀ j u, (pkC ks)[j]? = some u → wi.cell? ⟨G, j, none⟩ = some u := by
            rcases hoi.2 with ⟨_, h⟩ | ⟨G, cap, cur, he, _, hh, hcap, _, _, hcur⟩
            · exact absurd h (by rw [← HLN.out]; omega)
            · injection he with e1 _ _
              refine ⟨G, e1, (Bk.lt (show Bk wi G cur _ from hh)), fun j u hu => ?_⟩
              have hj : j < ks.length * 2 := by
                have := (List.getElem?_eq_some_iff.1 hu).1
                rwa [pkC_len] at this
              rw [Bk.cell (show Bk wi G cur _ from hh), ← hu, ← hcur, List.getElem?_take, if_pos hj, Array.getElem?_toList]
          have c0 := hc0 _ _ g0; have c1 := hc0 _ _ g1
          have HQD := Lib.hid hqD; have HTK := Lib.hid htk; have HNOT := Lib.hid hnot
          have hlk := HOKD.out.lk q hqD
          obtain ⟨lq, hlq⟩ : ∃ lq, lq = D.lk q := ⟨_, rfl⟩
          have HLQ := Lib.hid hlq
          rw [← hlq] at hlk
          obtain ⟨x1, x2, x3, x4, x5, x6, x7⟩ := lq
          dsimp only at hlk
          have HRG := Lib.hid hlk
          have HN1 : Hid (∀ W, Below wi.heap.size wi W → W.cell? ⟨N, 1, none⟩ = some (.map (some bl)) ∧ W.cell? ⟨w.heap.size, 0, none⟩ = some (.pointer (some ⟨N, 0, none⟩)) ∧ W.cell? ⟨N, 2, none⟩ = some (.int .i64 (was + t))) := Lib.hid fun W hW => by
            have hk9 := (HCK.out _ _ _ trivial HK09.out).past hW (HCK.out _ _ _ trivial HK09.out).lt
            have hn9 := (HCK.out _ _ _ trivial HN9.out.blk).past hW (HCK.out _ _ _ trivial HN9.out.blk).lt
            exact ⟨by rw [hn9.cell]; rfl, by rw [hk9.cell]; rfl, by rw [hn9.cell, ← HDN.out]; rfl⟩
          have HLOOK : Hid (∀ W, Below wi.heap.size wi W → (Instr.lookup 52 (.map (some bl)) (.agg #[encS q.1, encS q.2]) false).run Tryz.prog W = .ok (.agg #[.int .i64 x1, .int .i64 x2, .int .i64 x3, .int .i64 x4, .int .i64 x5, .int .i64 x6, .int .i64 x7]) W) := Lib.hid fun W hW => by
            have hm : MapL pairK W bl D.pairs (linksF (gainK D was (ks.take k))) := HM.out.keep (hW.block _ HM.out.lt)
            have := look_map hm (HLEN.out q HQD.out) (x := ⟨x1, x2, x3, x4, x5, x6, x7⟩) (by rw [gainK_old HQD.out HNOT.out, ← HLQ.out])
            exact this
          clear hq hqD htk hnot g0 g1 hoi hc0 hlq hlk
          go_wp2_with fail
          obtain ⟨w4, hw4⟩ : ∃ z, z = wi.alloc (.cells #[encS q.1, encS q.2] 69) := ⟨_, rfl⟩
          obtain ⟨X, hX⟩ : ∃ X, X = wi.heap.size := ⟨_, rfl⟩
          have HBX : Hid (Bk w4 X #[encS q.1, encS q.2] 69) := Lib.hid (by rw [hw4, hX]; exact Bk.new _ _ _)
          have HB4 : Hid (Below wi.heap.size wi w4) := Lib.hid (by rw [hw4]; exact below_alloc _ _)
          rw [← hw4, ← hX]
          have HXE : Hid (wi.heap.size ≤ X) := Lib.hid (by rw [hX]; exact Nat.le_refl _)
          clear hw4 hX c0 c1
          have HNOW : Hid (Below w4.heap.size w4 w4.drew) := Lib.hid (Qw.below ⟨1, rfl⟩ _)
          have HS1 : Hid (∀ W, Below w4.heap.size w4 W → W.cell? ⟨w.heap.size, 0, none⟩ = some (.pointer (some ⟨N, 0, none⟩)) ∧ W.cell? ⟨N, 1, none⟩ = some (.map (some bl)) ∧ W.cell? ⟨X, 0, none⟩ = some (encS q.1) ∧ W.cell? ⟨X, 1, none⟩ = some (encS q.2) ∧ (Instr.lookup 52 (.map (some bl)) (.agg #[encS q.1, encS q.2]) false).run Tryz.prog W = .ok (.agg #[.int .i64 x1, .int .i64 x2, .int .i64 x3, .int .i64 x4, .int .i64 x5, .int .i64 x6, .int .i64 x7]) W) := Lib.hid fun W hW => by
            have hx := HBX.out.past hW HBX.out.lt
            have hz := HN1.out W (bnextK HB4.out hW)
            exact ⟨hz.2.1, hz.1, by rw [hx.cell]; rfl, by rw [hx.cell]; rfl, HLOOK.out W (bnextK HB4.out hW)⟩
          go_cut [8, 9, 44] from 44 to 100 (fun v8 v9 v44 wc => v44 = .int .i64 k ∧ v8 = .pointer (some ⟨X, 0, none⟩) ∧ ∃ Y, v9 = .pointer (some ⟨Y, 0, none⟩) ∧ Bk wc Y #[.int .i64 x1, .int .i64 x2, .int .i64 x3, .int .i64 x4, .int .i64 x5, .int .i64 x6, .int .i64 x7] 66 ∧ Below w4.heap.size w4 wc ∧ w4.heap.size ≤ Y)
          case first =>
            refine wp_region_held_drew (S := (fun W => W.cell? ⟨w.heap.size, 0, none⟩ = some (.pointer (some ⟨N, 0, none⟩)) ∧ W.cell? ⟨N, 1, none⟩ = some (.map (some bl)) ∧ W.cell? ⟨X, 0, none⟩ = some (encS q.1) ∧ W.cell? ⟨X, 1, none⟩ = some (encS q.2) ∧ (Instr.lookup 52 (.map (some bl)) (.agg #[encS q.1, encS q.2]) false).run Tryz.prog W = .ok (.agg #[.int .i64 x1, .int .i64 x2, .int .i64 x3, .int .i64 x4, .int .i64 x5, .int .i64 x6, .int .i64 x7]) W)) (by kernel_rfl) ?_ (fun hHeld => ?_)
            · (try dsimp only); first | exact HS1.out _ HNOW.out | exact HS1.out _ (below_alloc_drew _ _) | exact HS1.out _ (bnextK HNOW.out (below_alloc _ _))
            refine wpAnyH_take (i := 0) (oi := ⟨some 48, _, _, _, _, _⟩) (v := ?_) rfl (by kernel_rfl) (by kernel_rfl) (by kernel_rfl) (fun _ _ _ h => h) (Or.inl ⟨by rfl, ?_⟩) (by assumption) ?_; rotate_left
            · intro w hSw; (try dsimp only at hSw); go_simp; try with_reducible rfl
            try simp only [Act.put, setIfInBounds_toArray, set_cons_zero, set_cons_succ]
            refine wpAnyH_take (i := 1) (oi := ⟨some 49, _, _, _, _, _⟩) (v := ?_) rfl (by kernel_rfl) (by kernel_rfl) (by kernel_rfl) (fun _ _ _ h => h) (Or.inl ⟨by rfl, ?_⟩) (by assumption) ?_; rotate_left
            · intro w hSw; (try dsimp only at hSw); go_simp; try with_reducible rfl
            try simp only [Act.put, setIfInBounds_toArray, set_cons_zero, set_cons_succ]
            refine wpAnyH_take (i := 2) (oi := ⟨some 50, _, _, _, _, _⟩) (v := ?_) rfl (by kernel_rfl) (by kernel_rfl) (by kernel_rfl) (fun _ _ _ h => h) (Or.inl ⟨by rfl, ?_⟩) (by assumption) ?_; rotate_left
            · intro w hSw; (try dsimp only at hSw); go_simp; try with_reducible rfl
            try simp only [Act.put, setIfInBounds_toArray, set_cons_zero, set_cons_succ]
            refine wpAnyH_take (i := 3) (oi := ⟨some 51, _, _, _, _, _⟩) (v := ?_) rfl (by kernel_rfl) (by kernel_rfl) (by kernel_rfl) (fun _ _ _ h => h) (Or.inl ⟨by rfl, ?_⟩) (by assumption) ?_; rotate_left
            · intro w hSw; (try dsimp only at hSw); go_simp; try with_reducible rfl
            try simp only [Act.put, setIfInBounds_toArray, set_cons_zero, set_cons_succ]
            refine wpAnyH_take (i := 4) (oi := ⟨some 52, _, _, _, _, _⟩) (v := ?_) rfl (by kernel_rfl) (by kernel_rfl) (by kernel_rfl) (fun _ _ _ h => h) (Or.inl ⟨by rfl, ?_⟩) (by assumption) ?_; rotate_left
            · intro w hSw; (try dsimp only at hSw); go_simp; try with_reducible rfl
            try simp only [Act.put, setIfInBounds_toArray, set_cons_zero, set_cons_succ]
            refine wpAnyH_take (i := 5) (oi := ⟨some 53, _, _, _, _, _⟩) (v := ?_) rfl (by kernel_rfl) (by kernel_rfl) (by kernel_rfl) (fun _ _ _ h => h) (Or.inl ⟨by rfl, ?_⟩) (by assumption) ?_; rotate_left
            · intro w hSw; (try dsimp only at hSw); go_simp; try with_reducible rfl
            try simp only [Act.put, setIfInBounds_toArray, set_cons_zero, set_cons_succ]
            refine wpAnyH_ready (rs := [6]) (by kernel_rfl) (by simp) ?_
            refine AllReadyH.cons (o := ⟨some 9, _, _, _, _, _⟩) rfl (fun K hK => ?_) AllReadyH.nil
            go_simp
            refine hK.out _ _ ?_ (fun hHeld => ?_)
            · (try dsimp only); first | exact HS1.out _ HNOW.out | exact HS1.out _ (below_alloc_drew _ _) | exact HS1.out _ (bnextK HNOW.out (below_alloc _ _))
            clear hK K
            try simp only [Act.put, setIfInBounds_toArray, set_cons_zero, set_cons_succ]
            refine wpAnyH_ready (rs := [7]) (by kernel_rfl) (by simp) ?_
            refine AllReadyH.cons (o := ⟨none, _, _, _, _, _⟩) rfl (fun K hK => ?_) AllReadyH.nil
            refine step_store_row 66 _ _ rfl rfl w4.heap.size #[.int .i64 x1, .int .i64 x2, .int .i64 x3, .int .i64 x4, .int .i64 x5, .int .i64 x6, .int .i64 x7] rfl rfl _ _ (box_drew w4 _ _) rfl rfl (by simp [Value.oneCell']) ?_
            have HBY := Lib.hid (Bk.setRow (box_drew w4 #[.int .i64 0, .int .i64 0, .int .i64 0, .int .i64 0, .int .i64 0, .int .i64 0, .int .i64 0] 66) #[.int .i64 x1, .int .i64 x2, .int .i64 x3, .int .i64 x4, .int .i64 x5, .int .i64 x6, .int .i64 x7])
            have HNOW := Lib.hid ((below_alloc_drew w4 (.cells #[.int .i64 0, .int .i64 0, .int .i64 0, .int .i64 0, .int .i64 0, .int .i64 0, .int .i64 0] 66)).trans (below_setRow (cs := #[.int .i64 x1, .int .i64 x2, .int .i64 x3, .int .i64 x4, .int .i64 x5, .int .i64 x6, .int .i64 x7]) (Nat.le_refl _)))
            refine hK.out _ _ ?_ (fun hHeld => ?_)
            · (try dsimp only); first | exact HS1.out _ HNOW.out | exact HS1.out _ (below_alloc_drew _ _) | exact HS1.out _ (bnextK HNOW.out (below_alloc _ _))
            clear hK K
            try simp only [Act.put]
            refine wpAnyH_done (by kernel_rfl) ?_ _
            go_wp2_with fail
            go_meet
            exact ⟨rfl, rfl, _, rfl, HBY.out, HNOW.out, Nat.le_refl _⟩
          case rest =>
            obtain ⟨w5, rfl⟩ : ∃ z : World, z = wc := ⟨_, rfl⟩
            obtain ⟨rfl, rfl, Y, rfl, hby, hb5, hY⟩ := hcut
            have HB5 := Lib.hid (bnextK HB4.out hb5)
            have HX5 := Lib.hid (HBX.out.past hb5 HBX.out.lt)
            have hXY : X ≠ Y := by have := HBX.out.lt; omega
            have HBY := Lib.hid hby
            have y1 := hby.cell 1; have y2 := hby.cell 2; have y3 := hby.cell 3; have y4 := hby.cell 4; have y5 := hby.cell 5
            have f4 := hby.froz 4
            simp only [List.getElem?_toArray, List.getElem?_cons_succ, List.getElem?_cons_zero] at y1 y2 y3 y4 y5
            clear HS1 HNOW hb5 hby
            by_cases hg0 : x3 = 0
            · have hgb : (x3 == 0) = true := by simp [hg0]
              have HSAME : Hid (MapL pairK w5 bl D.pairs (linksF (gainK D was (ks.take (k + 1))))) := Lib.hid ((HM.out.keep (HB5.out.block _ HM.out.lt)).same (fun y _ => by rw [HTK.out]; exact gainK_none (by rw [← HLQ.out]; exact hg0) y))
              have HKK : Hid (KeepL [bl] w9 w5) := Lib.hid (HKP.out.trans (KeepL.of_below HB5.out))
              clear hg0
              go_wp2_with fail
              go_roundw
              case rel => exact ⟨k + 1, by omega, by go_num, HSAME.out, HKK.out⟩
              case measure => simp [intOf]; omega
            · have hgb : (x3 == 0) = false := by simp [hg0]
              have hr := HRG.out
              have ht := HT.out
              have h4 : 1 ≤ x4 ∧ x4 ≤ 1048576 := by omega
              obtain ⟨a, ha⟩ : ∃ a, a = (was + t) / x4 := ⟨_, rfl⟩
              obtain ⟨b, hb⟩ : ∃ b, b = was / x4 := ⟨_, rfl⟩
              have ha0 : 0 ≤ a ∧ a ≤ 1099511627776 := by
                rw [ha]
                exact ⟨Int.ediv_nonneg (by omega) (by omega), Int.le_trans (Int.ediv_le_self _ (by omega)) (by omega)⟩
              have hb0 : 0 ≤ b ∧ b ≤ a := by
                rw [hb, ha]
                exact ⟨Int.ediv_nonneg (by omega) (by omega), Int.ediv_le_ediv (by omega) (by omega)⟩
              obtain ⟨d, hd⟩ : ∃ d, d = a - b := ⟨_, rfl⟩
              obtain ⟨m, hm⟩ : ∃ m, m = d * x3 := ⟨_, rfl⟩
              have hm0 : 0 ≤ m ∧ m ≤ 1099511627776 * 65536 := by
                rw [hm]
                exact ⟨Int.mul_nonneg (by omega) (by omega), Int.mul_le_mul (by omega) (by omega) (by omega) (by omega)⟩
              have HGL : Hid (gainL (D.lk q) was D.now = ⟨x1, x2, x3, x4, x5 + min m (x2 - x5 - x6), x6, x7⟩) := Lib.hid (by
                rw [← HLQ.out, HDN.out]
                unfold gainL
                rw [if_neg hg0]
                dsimp only
                rw [hm, hd, ha, hb])
              have q1 : Int.tdiv (was + t) x4 = a := by rw [ha, Int.tdiv_eq_ediv_of_nonneg (by omega)]
              have q2 : Int.tdiv was x4 = b := by rw [hb, Int.tdiv_eq_ediv_of_nonneg (by omega)]
              have q3 : IntKind.i64.wrap a = a := by rw [IntKind.wrap_i64]; omega
              have q4 : IntKind.i64.wrap b = b := by rw [IntKind.wrap_i64]; omega
              have q5 : IntKind.i64.wrap (a - b) = d := by rw [hd, IntKind.wrap_i64]; omega
              have q6 : IntKind.i64.wrap (d * x3) = m := by rw [← hm, IntKind.wrap_i64]; omega
              have q7 : (x4 == 0) = false := by simp; omega
              have q8 : ¬ x4 = 0 := by omega
              have q9 : ¬ x4 = -1 := by omega
              obtain ⟨u, hu⟩ : ∃ u, u = x2 - x5 := ⟨_, rfl⟩
              obtain ⟨r, hr2⟩ : ∃ r, r = u - x6 := ⟨_, rfl⟩
              have hr0 : 0 ≤ r ∧ r ≤ 65536 := by omega
              obtain ⟨fr, hfr⟩ : ∃ fr, fr = x5 + min m r := ⟨_, rfl⟩
              have hfr0 : 0 ≤ fr ∧ fr ≤ 200000 := by omega
              have z1 : wrap64 (x2 - x5) = u := by rw [hu]; unfold wrap64; omega
              have z2 : wrap64 (u - x6) = r := by rw [hr2]; unfold wrap64; omega
              have HFR : Hid (gainL (D.lk q) was D.now = ⟨x1, x2, x3, x4, fr, x6, x7⟩) := Lib.hid (by rw [HGL.out, hfr, hr2, hu])
              have z3 : wrap64 (x5 + min m r) = fr := by rw [← hfr]; unfold wrap64; omega
              have HS13 : Hid (∀ W, Below w5.heap.size w5 W → W.cell? ⟨w.heap.size, 0, none⟩ = some (.pointer (some ⟨N, 0, none⟩)) ∧ W.cell? ⟨N, 2, none⟩ = some (.int .i64 (was + t)) ∧ W.cell? ⟨Y, 2, none⟩ = some (.int .i64 x3)) := Lib.hid fun W hW => by
                have hz := HN1.out W (bnextK HB5.out hW)
                exact ⟨hz.2.1, hz.2.2, by rw [(HBY.out.past hW HBY.out.lt).cell]; rfl⟩
              have HNOW : Hid (Below w5.heap.size w5 w5.drew) := Lib.hid (Qw.below ⟨1, rfl⟩ _)
              clear hg0 hr ht h4 ha0 hb0 hm0 hr0 hfr0 ha hb hd hm hu hr2 hfr
              go_wp2_with fail
              refine wp_region_held_drew (S := (fun W => W.cell? ⟨w.heap.size, 0, none⟩ = some (.pointer (some ⟨N, 0, none⟩)) ∧ W.cell? ⟨N, 2, none⟩ = some (.int .i64 (was + t)) ∧ W.cell? ⟨Y, 2, none⟩ = some (.int .i64 x3))) (by kernel_rfl) ?_ (fun hHeld => ?_)
              · (try dsimp only); exact HS13.out _ HNOW.out
              refine wpAnyH_take (i := 0) (oi := ⟨some 61, _, _, _, _, _⟩) (v := ?_) rfl (by kernel_rfl) (by kernel_rfl) (by kernel_rfl) (fun _ _ _ h => h) (Or.inl ⟨by rfl, ?_⟩) (by assumption) ?_; rotate_left
              · intro w hSw; (try dsimp only at hSw); go_simp; try with_reducible rfl
              try simp only [Act.put, setIfInBounds_toArray, set_cons_zero, set_cons_succ]
              refine wpAnyH_take (i := 1) (oi := ⟨some 62, _, _, _, _, _⟩) (v := ?_) rfl (by kernel_rfl) (by kernel_rfl) (by kernel_rfl) (fun _ _ _ h => h) (Or.inl ⟨by rfl, ?_⟩) (by assumption) ?_; rotate_left
              · intro w hSw; (try dsimp only at hSw); go_simp; try with_reducible rfl
              try simp only [Act.put, setIfInBounds_toArray, set_cons_zero, set_cons_succ]
              refine wpAnyH_take (i := 2) (oi := ⟨some 63, _, _, _, _, _⟩) (v := ?_) rfl (by kernel_rfl) (by kernel_rfl) (by kernel_rfl) (fun _ _ _ h => h) (Or.inl ⟨by rfl, ?_⟩) (by assumption) ?_; rotate_left
              · intro w hSw; (try dsimp only at hSw); go_simp; try with_reducible rfl
              try simp only [Act.put, setIfInBounds_toArray, set_cons_zero, set_cons_succ]
              refine wpAnyH_take (i := 3) (oi := ⟨some 64, _, _, _, _, _⟩) (v := ?_) rfl (by kernel_rfl) (by kernel_rfl) (by kernel_rfl) (fun _ _ _ h => h) (Or.inl ⟨by rfl, ?_⟩) (by assumption) ?_; rotate_left
              · intro w hSw; (try dsimp only at hSw); go_simp; try with_reducible rfl
              try simp only [Act.put, setIfInBounds_toArray, set_cons_zero, set_cons_succ]
              refine wpAnyH_take (i := 4) (oi := ⟨some 65, _, _, _, _, _⟩) (v := ?_) rfl (by kernel_rfl) (by kernel_rfl) (by kernel_rfl) (fun _ _ _ h => h) (Or.inl ⟨by rfl, ?_⟩) (by assumption) ?_; rotate_left
              · intro w hSw; (try dsimp only at hSw); go_simp; try with_reducible rfl
              try simp only [Act.put, setIfInBounds_toArray, set_cons_zero, set_cons_succ]
              refine wpAnyH_take (i := 5) (oi := ⟨some 66, _, _, _, _, _⟩) (v := ?_) rfl (by kernel_rfl) (by kernel_rfl) (by kernel_rfl) (fun _ _ _ h => h) (Or.inl ⟨by rfl, ?_⟩) (by assumption) ?_; rotate_left
              · intro w hSw; (try dsimp only at hSw); go_simp; try with_reducible rfl
              try simp only [Act.put, setIfInBounds_toArray, set_cons_zero, set_cons_succ]
              refine wpAnyH_take (i := 6) (oi := ⟨some 67, _, _, _, _, _⟩) (v := ?_) rfl (by kernel_rfl) (by kernel_rfl) (by kernel_rfl) (fun _ _ _ h => h) (Or.inl ⟨by rfl, ?_⟩) (by assumption) ?_; rotate_left
              · intro w hSw; (try dsimp only at hSw); go_simp; try with_reducible rfl
              try simp only [Act.put, setIfInBounds_toArray, set_cons_zero, set_cons_succ]
              refine wpAnyH_take (i := 7) (oi := ⟨some 68, _, _, _, _, _⟩) (v := ?_) rfl (by kernel_rfl) (by kernel_rfl) (by kernel_rfl) (fun _ _ _ h => h) (Or.inl ⟨by rfl, ?_⟩) (by assumption) ?_; rotate_left
              · intro w hSw; (try dsimp only at hSw); go_simp; try with_reducible rfl
              try simp only [Act.put, setIfInBounds_toArray, set_cons_zero, set_cons_succ]
              refine wpAnyH_take (i := 8) (oi := ⟨some 69, _, _, _, _, _⟩) (v := ?_) rfl (by kernel_rfl) (by kernel_rfl) (by kernel_rfl) (fun _ _ _ h => h) (Or.inl ⟨by rfl, ?_⟩) (by assumption) ?_; rotate_left
              · intro w hSw; (try dsimp only at hSw); go_simp; try with_reducible rfl
              try simp only [Act.put, setIfInBounds_toArray, set_cons_zero, set_cons_succ]
              refine wpAnyH_take (i := 9) (oi := ⟨some 70, _, _, _, _, _⟩) (v := ?_) rfl (by kernel_rfl) (by kernel_rfl) (by kernel_rfl) (fun _ _ _ h => h) (Or.inl ⟨by rfl, ?_⟩) (by assumption) ?_; rotate_left
              · intro w hSw; (try dsimp only at hSw); go_simp; try with_reducible rfl
              try simp only [Act.put, setIfInBounds_toArray, set_cons_zero, set_cons_succ]
              refine wpAnyH_take (i := 10) (oi := ⟨some 71, _, _, _, _, _⟩) (v := ?_) rfl (by kernel_rfl) (by kernel_rfl) (by kernel_rfl) (fun _ _ _ h => h) (Or.inl ⟨by rfl, ?_⟩) (by assumption) ?_; rotate_left
              · intro w hSw; (try dsimp only at hSw); go_simp; try with_reducible rfl
              try simp only [Act.put, setIfInBounds_toArray, set_cons_zero, set_cons_succ]
              refine wpAnyH_take (i := 11) (oi := ⟨some 72, _, _, _, _, _⟩) (v := ?_) rfl (by kernel_rfl) (by kernel_rfl) (by kernel_rfl) (fun _ _ _ h => h) (Or.inl ⟨by rfl, ?_⟩) (by assumption) ?_; rotate_left
              · intro w hSw; (try dsimp only at hSw); go_simp; try with_reducible rfl
              try simp only [Act.put, setIfInBounds_toArray, set_cons_zero, set_cons_succ]
              refine wpAnyH_take (i := 12) (oi := ⟨some 73, _, _, _, _, _⟩) (v := ?_) rfl (by kernel_rfl) (by kernel_rfl) (by kernel_rfl) (fun _ _ _ h => h) (Or.inl ⟨by rfl, ?_⟩) (by assumption) ?_; rotate_left
              · intro w hSw; (try dsimp only at hSw); go_simp; try with_reducible rfl
              try simp only [Act.put, setIfInBounds_toArray, set_cons_zero, set_cons_succ]
              refine wpAnyH_take (i := 13) (oi := ⟨some 74, _, _, _, _, _⟩) (v := ?_) rfl (by kernel_rfl) (by kernel_rfl) (by kernel_rfl) (fun _ _ _ h => h) (Or.inl ⟨by rfl, ?_⟩) (by assumption) ?_; rotate_left
              · intro w hSw; (try dsimp only at hSw); go_simp; try with_reducible rfl
              try simp only [Act.put, setIfInBounds_toArray, set_cons_zero, set_cons_succ]
              refine wpAnyH_take (i := 14) (oi := ⟨some 11, _, _, _, _, _⟩) (v := ?_) rfl (by kernel_rfl) (by kernel_rfl) (by kernel_rfl) (fun _ _ _ h => h) (Or.inl ⟨by rfl, ?_⟩) (by assumption) ?_; rotate_left
              · intro w hSw; (try dsimp only at hSw); go_simp; try with_reducible rfl
              try simp only [Act.put, setIfInBounds_toArray, set_cons_zero, set_cons_succ]
              refine wpAnyH_done (by kernel_rfl) ?_ _
              clear HS13 hHeld
              go_wp2_with fail
              obtain ⟨w6', hw6'⟩ : ∃ z, z = (w5.setCell ⟨Y, 4, none⟩ (.int .i64 fr)).drew := ⟨_, rfl⟩
              rw [← hw6']
              have hbs : Below wi.heap.size wi (w5.setCell ⟨Y, 4, none⟩ (.int .i64 fr)) := HB5.out.setCell (p := ⟨Y, 4, none⟩) (Nat.le_trans HB4.out.size hY) _
              have HB6 : Hid (Below wi.heap.size wi w6') := Lib.hid (by
                rw [hw6']
                exact bnextK hbs (Qw.below ⟨1, rfl⟩ _))
              have HBY6 : Hid (Bk w6' Y #[.int .i64 x1, .int .i64 x2, .int .i64 x3, .int .i64 x4, .int .i64 fr, .int .i64 x6, .int .i64 x7] 66) := Lib.hid (by rw [hw6']; exact HBY.out.set 4 _)
              have HBX6 : Hid (Bk w6' X #[encS q.1, encS q.2] 69) := Lib.hid (by
                rw [hw6']
                show Bk (w5.setCell ⟨Y, 4, none⟩ (.int .i64 fr)) X _ _
                exact HX5.out.keepL (KeepL.set w5 Y 4 (.int .i64 fr)) (by simpa using hXY))
              clear hbs
              clear hw6' y1 y2 y3 y4 y5 f4
              have HS2 : Hid (∀ W, Below w6'.heap.size w6' W → W.cell? ⟨w.heap.size, 0, none⟩ = some (.pointer (some ⟨N, 0, none⟩)) ∧ W.cell? ⟨N, 1, none⟩ = some (.map (some bl)) ∧ W.cell? ⟨X, 0, none⟩ = some (encS q.1) ∧ W.cell? ⟨X, 1, none⟩ = some (encS q.2) ∧ W.cell? ⟨Y, 0, none⟩ = some (.int .i64 x1) ∧ W.cell? ⟨Y, 1, none⟩ = some (.int .i64 x2) ∧ W.cell? ⟨Y, 2, none⟩ = some (.int .i64 x3) ∧ W.cell? ⟨Y, 3, none⟩ = some (.int .i64 x4) ∧ W.cell? ⟨Y, 4, none⟩ = some (.int .i64 fr) ∧ W.cell? ⟨Y, 5, none⟩ = some (.int .i64 x6) ∧ W.cell? ⟨Y, 6, none⟩ = some (.int .i64 x7)) := Lib.hid fun W hW => by
                have hx := HBX6.out.past hW HBX6.out.lt
                have hy := HBY6.out.past hW HBY6.out.lt
                have hz := HN1.out W (bnextK HB6.out hW)
                exact ⟨hz.2.1, hz.1, by rw [hx.cell]; rfl, by rw [hx.cell]; rfl, by rw [hy.cell]; rfl, by rw [hy.cell]; rfl, by rw [hy.cell]; rfl, by rw [hy.cell]; rfl, by rw [hy.cell]; rfl, by rw [hy.cell]; rfl, by rw [hy.cell]; rfl⟩
              have HNOW : Hid (Below w6'.heap.size w6' w6'.drew) := Lib.hid (Qw.below ⟨1, rfl⟩ _)
              have HM6 : Hid (MapL pairK w6'.drew bl D.pairs (linksF (gainK D was (ks.take k)))) := Lib.hid (HM.out.keep (((Qw.below ⟨1, rfl⟩ w6'.heap.size).block _ (Nat.lt_of_lt_of_le HM.out.lt HB6.out.size)).trans (HB6.out.block _ HM.out.lt)))
              refine wp_region_held_drew (S := (fun W => W.cell? ⟨w.heap.size, 0, none⟩ = some (.pointer (some ⟨N, 0, none⟩)) ∧ W.cell? ⟨N, 1, none⟩ = some (.map (some bl)) ∧ W.cell? ⟨X, 0, none⟩ = some (encS q.1) ∧ W.cell? ⟨X, 1, none⟩ = some (encS q.2) ∧ W.cell? ⟨Y, 0, none⟩ = some (.int .i64 x1) ∧ W.cell? ⟨Y, 1, none⟩ = some (.int .i64 x2) ∧ W.cell? ⟨Y, 2, none⟩ = some (.int .i64 x3) ∧ W.cell? ⟨Y, 3, none⟩ = some (.int .i64 x4) ∧ W.cell? ⟨Y, 4, none⟩ = some (.int .i64 fr) ∧ W.cell? ⟨Y, 5, none⟩ = some (.int .i64 x6) ∧ W.cell? ⟨Y, 6, none⟩ = some (.int .i64 x7))) (by kernel_rfl) ?_ (fun hHeld => ?_)
              · (try dsimp only); first | exact HS3.out | exact HS2.out _ HNOW.out
              refine wpAnyH_take (i := 0) (oi := ⟨some 94, _, _, _, _, _⟩) (v := ?_) rfl (by kernel_rfl) (by kernel_rfl) (by kernel_rfl) (fun _ _ _ h => h) (Or.inl ⟨by rfl, ?_⟩) (by assumption) ?_; rotate_left
              · intro w hSw; (try dsimp only at hSw); go_simp; try with_reducible rfl
              try simp only [Act.put, setIfInBounds_toArray, set_cons_zero, set_cons_succ]
              refine wpAnyH_take (i := 1) (oi := ⟨some 95, _, _, _, _, _⟩) (v := ?_) rfl (by kernel_rfl) (by kernel_rfl) (by kernel_rfl) (fun _ _ _ h => h) (Or.inl ⟨by rfl, ?_⟩) (by assumption) ?_; rotate_left
              · intro w hSw; (try dsimp only at hSw); go_simp; try with_reducible rfl
              try simp only [Act.put, setIfInBounds_toArray, set_cons_zero, set_cons_succ]
              refine wpAnyH_take (i := 2) (oi := ⟨some 96, _, _, _, _, _⟩) (v := ?_) rfl (by kernel_rfl) (by kernel_rfl) (by kernel_rfl) (fun _ _ _ h => h) (Or.inl ⟨by rfl, ?_⟩) (by assumption) ?_; rotate_left
              · intro w hSw; (try dsimp only at hSw); go_simp; try with_reducible rfl
              try simp only [Act.put, setIfInBounds_toArray, set_cons_zero, set_cons_succ]
              refine wpAnyH_take (i := 3) (oi := ⟨some 97, _, _, _, _, _⟩) (v := ?_) rfl (by kernel_rfl) (by kernel_rfl) (by kernel_rfl) (fun _ _ _ h => h) (Or.inl ⟨by rfl, ?_⟩) (by assumption) ?_; rotate_left
              · intro w hSw; (try dsimp only at hSw); go_simp; try with_reducible rfl
              try simp only [Act.put, setIfInBounds_toArray, set_cons_zero, set_cons_succ]
              refine wpAnyH_take (i := 4) (oi := ⟨some 98, _, _, _, _, _⟩) (v := ?_) rfl (by kernel_rfl) (by kernel_rfl) (by kernel_rfl) (fun _ _ _ h => h) (Or.inl ⟨by rfl, ?_⟩) (by assumption) ?_; rotate_left
              · intro w hSw; (try dsimp only at hSw); go_simp; try with_reducible rfl
              try simp only [Act.put, setIfInBounds_toArray, set_cons_zero, set_cons_succ]
              refine wpAnyH_take (i := 5) (oi := ⟨some 99, _, _, _, _, _⟩) (v := ?_) rfl (by kernel_rfl) (by kernel_rfl) (by kernel_rfl) (fun _ _ _ h => h) (Or.inl ⟨by rfl, ?_⟩) (by assumption) ?_; rotate_left
              · intro w hSw; (try dsimp only at hSw); go_simp; try with_reducible rfl
              try simp only [Act.put, setIfInBounds_toArray, set_cons_zero, set_cons_succ]
              refine wpAnyH_ready (rs := [6]) (by kernel_rfl) (by simp) ?_
              refine AllReadyH.cons (o := ⟨none, _, _, _, _, _⟩) rfl (fun K hK => ?_) AllReadyH.nil
              obtain ⟨w8', hr8, hm8, hg8⟩ := HM6.out.store Tryz.underlying52 (x := q) (HLEN.out q HQD.out) (.agg #[.int .i64 x1, .int .i64 x2, .int .i64 x3, .int .i64 x4, .int .i64 fr, .int .i64 x6, .int .i64 x7]) (by have := HOKD.out.pn; omega)
              rw [if_pos HQD.out] at hm8
              have HMN : Hid (MapL pairK w8' bl D.pairs (linksF (gainK D was (ks.take (k + 1))))) := Lib.hid (hm8.same (fun y _ => by rw [HTK.out, ← gainK_step HQD.out y, HFR.out]; rfl))
              have HKN : Hid (KeepL [bl] w9 w8') := Lib.hid ((HKP.out.trans (KeepL.of_below (bnextK HB6.out (Qw.below ⟨1, rfl⟩ _)))).trans (KeepL.grown hg8 (fun k hk _ => by injection hk with hk; simp [hk])))
              have HS3 : Hid (w8'.cell? ⟨w.heap.size, 0, none⟩ = some (.pointer (some ⟨N, 0, none⟩)) ∧ w8'.cell? ⟨N, 1, none⟩ = some (.map (some bl)) ∧ w8'.cell? ⟨X, 0, none⟩ = some (encS q.1) ∧ w8'.cell? ⟨X, 1, none⟩ = some (encS q.2) ∧ w8'.cell? ⟨Y, 0, none⟩ = some (.int .i64 x1) ∧ w8'.cell? ⟨Y, 1, none⟩ = some (.int .i64 x2) ∧ w8'.cell? ⟨Y, 2, none⟩ = some (.int .i64 x3) ∧ w8'.cell? ⟨Y, 3, none⟩ = some (.int .i64 x4) ∧ w8'.cell? ⟨Y, 4, none⟩ = some (.int .i64 fr) ∧ w8'.cell? ⟨Y, 5, none⟩ = some (.int .i64 x6) ∧ w8'.cell? ⟨Y, 6, none⟩ = some (.int .i64 x7)) := Lib.hid (by obtain ⟨q0, q1, q2, q3, q4, q5, q6, q7, q8, q9, q10⟩ := HS2.out _ HNOW.out; exact ⟨cell_grown_map HM6.out hg8 q0, cell_grown_map HM6.out hg8 q1, cell_grown_map HM6.out hg8 q2, cell_grown_map HM6.out hg8 q3, cell_grown_map HM6.out hg8 q4, cell_grown_map HM6.out hg8 q5, cell_grown_map HM6.out hg8 q6, cell_grown_map HM6.out hg8 q7, cell_grown_map HM6.out hg8 q8, cell_grown_map HM6.out hg8 q9, cell_grown_map HM6.out hg8 q10⟩)
              refine step_mapUpdate 52 _ _ _ rfl rfl rfl rfl rfl hr8 ?_
              clear hr8 hm8 hg8
              refine hK.out _ _ ?_ (fun hHeld => ?_)
              · (try dsimp only); first | exact HS3.out | exact HS2.out _ HNOW.out
              clear hK K
              try simp only [Act.put]
              refine wpAnyH_done (by kernel_rfl) ?_ _
              go_wp2_with fail
              go_roundw
              case rel => exact ⟨k + 1, by omega, by go_num, HMN.out, HKN.out⟩
              case measure => simp [intOf]; omega
        · have hki : ¬ (k : Int) < (ln : Int) := by omega
          obtain rfl : k = ln := by omega
          have HALL : Hid (MapL pairK wi bl D.pairs (linksF (gainS D was))) := Lib.hid (HM.out.same (fun y _ => gainK_all (fun q hq => by rw [HLN.out, List.take_length]; exact (HKM.out q).2 hq) y))
          have HTE : Hid (tickS s t = gainS D was) := Lib.hid (by unfold tickS; rw [HDE.out, HWAS.out])
          go_wp2_with fail
          go_ret
          refine ⟨_, HEV.out, rfl, .inr ⟨rfl, ⟨vh', ?_, HV8.out⟩, (HKW8.out.trans (KeepL.of_below HB9.out)).trans (HKP.out.sub (fun k hk => by simp at hk; simp [hk]))⟩⟩
          have hok := HTOK.out.1
          rw [HTE.out] at hok ⊢
          exact HN9.out.links_to HKP.out HALL.out ⟨rfl, rfl, rfl, rfl, rfl, rfl, rfl⟩ hok
    · have heb : (ev != 0) = true := by simpa using h0
      go_wp2_with fail
      go_ret
      exact ⟨_, HEV.out, rfl, .inl ⟨h0, HN5.out, HB5.out⟩⟩
end Go.Proofs.YtblilfbhohnbgaaGreat
