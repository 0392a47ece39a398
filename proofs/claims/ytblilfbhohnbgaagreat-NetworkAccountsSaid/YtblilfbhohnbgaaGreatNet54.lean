/- The contract of take. Conditions: as the statement says. -/
import Derived.Test.YtblilfbhohnbgaaGreatNet52
import Derived.Laws.ResultCell
namespace Go.Proofs.YtblilfbhohnbgaaGreat
open List (setIfInBounds_toArray set_cons_zero set_cons_succ)
open Go.RowKit
set_option linter.unusedVariables false
/-- The network without the i-th hold. -/
def takeS (s : NS) (i : Nat) : NS := { s with holds := s.holds.take i ++ s.holds.drop (i + 1) }
/-- What take hands back and leaves. -/
def TakeP (N : Nat) (s : NS) (bn bl : Nat) (vh vs : Value) (tid : Int) (w : World) (e : Ending) (w' : World) : Prop :=
  (e = .returned (.tuple #[.agg #[.int .i64 0, .slice none 0 0, .int .i64 0, .int .i64 0], .int .i64 9]) ∧ (∀ x ∈ s.holds, x.id ≠ tid) ∧ NetAt w' N s bn bl vh vs ∧ Below w.heap.size w w') ∨
  ∃ i x pv vh', s.holds[i]? = some x ∧ x.id = tid ∧ e = .returned (.tuple #[holdV x pv, .int .i64 0]) ∧ NmRow w' pv x.path ∧ NetAt w' N (takeS s i) bn bl vh' vs ∧ KeepL [N] w w' ∧ ∀ k, vh'.ownBlock = some k → w.heap.size ≤ k
theorem HoldsAt.rd {w : World} {v : Value} {l : List HoldM} (h : HoldsAt w v l) : ∃ A c vals, v = .slice A l.length c ∧ Rd w w.heap.size 4 A l.length vals ∧ (∀ u ∈ vals, u.oneCell' = true) ∧ vals.length = l.length * 4 ∧
    ∀ (i : Nat) (x : HoldM), l[i]? = some x → ∃ pv, vals[i * 4]? = some (.int .i64 x.id) ∧ vals[i * 4 + 1]? = some pv ∧ vals[i * 4 + 2]? = some (.int .i64 x.bits) ∧ vals[i * 4 + 3]? = some (.int .i64 x.til) ∧ NmRow w pv x.path := by
  obtain ⟨vals, h1, h2⟩ := h
  obtain ⟨A, c, rfl, _⟩ := own_form h1
  refine ⟨A, c, vals, rfl, Rd.own h1, fun u hu => ?_, h1.1, h2⟩
  obtain ⟨j, hj, rfl⟩ := List.getElem_of_mem hu
  have hl := h1.1
  have hi : j / 4 < l.length := by omega
  obtain ⟨pv, q0, q1, q2, q3, q4⟩ := h2 (j / 4) _ (List.getElem?_eq_getElem hi)
  obtain ⟨pb, pc, pcs, rfl, _⟩ := q4
  have hm : j % 4 = 0 ∨ j % 4 = 1 ∨ j % 4 = 2 ∨ j % 4 = 3 := by omega
  have key : ∀ (o : Nat) (z : Value), j % 4 = o → vals[j / 4 * 4 + o]? = some z → vals[j] = z := fun o z ho hz => by
    rw [show j / 4 * 4 + o = j by omega, List.getElem?_eq_getElem hj] at hz
    injection hz
  rcases hm with h | h | h | h
  · rw [key 0 _ h (by rw [Nat.add_zero]; exact q0)]; rfl
  · rw [key 1 _ h q1]; rfl
  · rw [key 2 _ h q2]; rfl
  · rw [key 3 _ h q3]; rfl
theorem take_cells {vals : List Value} {n i j : Nat} (hl : vals.length = n * 4) (hi : i < n) (o : Nat) (ho : o < 4) : (j < i → (vals.take (i * 4) ++ vals.drop ((i + 1) * 4))[j * 4 + o]? = vals[j * 4 + o]?) ∧ (i ≤ j → (vals.take (i * 4) ++ vals.drop ((i + 1) * 4))[j * 4 + o]? = vals[(j + 1) * 4 + o]?) := by
  have hlt : (vals.take (i * 4)).length = i * 4 := by rw [List.length_take]; omega
  refine ⟨fun hj => ?_, fun hj => ?_⟩
  · rw [List.getElem?_append_left (by omega), List.getElem?_take, if_pos (by omega)]
  · rw [List.getElem?_append_right (by omega), hlt, List.getElem?_drop]
    congr 1
    omega
/-- The holds without the i-th one, in a new row. -/
theorem HoldsAt.without {w w' : World} {base : Nat} {v' : Value} {l : List HoldM} {vals : List Value} {i : Nat} (hi : i < l.length) (hl : vals.length = l.length * 4)
    (hv : ∀ (i : Nat) (x : HoldM), l[i]? = some x → ∃ pv, vals[i * 4]? = some (.int .i64 x.id) ∧ vals[i * 4 + 1]? = some pv ∧ vals[i * 4 + 2]? = some (.int .i64 x.bits) ∧ vals[i * 4 + 3]? = some (.int .i64 x.til) ∧ NmRow w pv x.path)
    (hb : Below w.heap.size w w') (ho : w'.ownsRow base 79 4 v' (l.length - 1) (vals.take (i * 4) ++ vals.drop ((i + 1) * 4))) : HoldsAt w' v' (l.take i ++ l.drop (i + 1)) := by
  have hll : (l.take i ++ l.drop (i + 1)).length = l.length - 1 := by simp; omega
  refine ⟨_, by rw [hll]; exact ownsRow_mono ho (Nat.zero_le _), fun j x hx => ?_⟩
  have hlt : (l.take i).length = i := by rw [List.length_take]; omega
  rcases Nat.lt_or_ge j i with hj | hj
  · rw [List.getElem?_append_left (by omega), List.getElem?_take, if_pos hj] at hx
    obtain ⟨pv, q0, q1, q2, q3, q4⟩ := hv j x hx
    have z0 := (take_cells (j := j) hl hi 0 (by omega)).1 hj; have z1 := (take_cells (j := j) hl hi 1 (by omega)).1 hj; have z2 := (take_cells (j := j) hl hi 2 (by omega)).1 hj; have z3 := (take_cells (j := j) hl hi 3 (by omega)).1 hj
    rw [Nat.add_zero] at z0
    exact ⟨pv, z0.trans q0, z1.trans q1, z2.trans q2, z3.trans q3, q4.far hb⟩
  · rw [List.getElem?_append_right (by omega), hlt, List.getElem?_drop] at hx
    rw [show i + 1 + (j - i) = j + 1 by omega] at hx
    obtain ⟨pv, q0, q1, q2, q3, q4⟩ := hv (j + 1) x hx
    have z0 := (take_cells (j := j) hl hi 0 (by omega)).2 hj; have z1 := (take_cells (j := j) hl hi 1 (by omega)).2 hj; have z2 := (take_cells (j := j) hl hi 2 (by omega)).2 hj; have z3 := (take_cells (j := j) hl hi 3 (by omega)).2 hj
    rw [Nat.add_zero, Nat.add_zero] at z0
    exact ⟨pv, z0.trans q0, z1.trans q1, z2.trans q2, z3.trans q3, q4.far hb⟩
theorem Rd.firstsK {w : World} {B sz n : Nat} {A : Option Addr} {xs : List Value} (h : Rd w B sz A n xs) (k : Nat) (hk : k ≤ n) : Rd w B sz A k (xs.take (k * sz)) := by
  have h1 : k * sz ≤ n * sz := Nat.mul_le_mul_right _ hk
  refine ⟨by rw [List.length_take, h.1]; exact Nat.min_eq_left h1, fun h0 => ?_⟩
  obtain ⟨b, off, e, hb, hc⟩ := h.2 (by omega)
  refine ⟨b, off, e, hb, fun j u hu => hc j u ?_⟩
  rw [List.getElem?_take] at hu
  split at hu
  · exact hu
  · cases hu
/-- A block of another hold is changed. -/
theorem NetAt.beside {w w' : World} {N X : Nat} {s : NS} {bn bl : Nat} {vh vs : Value} {cs : Array Value} (h : NetAt w N s bn bl vh vs) (hk : KeepL [X] w w') (hX : Bk w X cs 79) (hv : vh.ownBlock ≠ some X) : NetAt w' N s bn bl vh vs := by
  have hc : CK (fun t => t ≠ 79) w w' := CK.keepL hk (fun k hm cs' t ht hb => by
    rw [List.mem_singleton] at hm
    subst hm
    unfold Bk at hb hX
    rw [hX] at hb
    injection hb with hb
    injection hb with _ hb _
    exact ht hb.symm)
  have hmap : ∀ {b : Nat} {k : TypeId} {κ : Type} {K : KeyT k κ} {ks : List κ} {f : κ → Option Value}, MapL K w b ks f → MapL K w' b ks f := fun {b k κ K ks f} m => m.keep (hk.block b m.lt (fun e => by
    rw [List.mem_singleton] at e
    subst e
    exact m.noBk hX))
  obtain ⟨vals, e1, e2⟩ := h.holds
  refine ⟨hc _ _ _ (by decide) h.blk, hmap h.nodes, hmap h.links, ⟨vals, ⟨e1.1, ?_⟩, fun i x hx => ?_⟩, h.sents.ck hc (by decide) (by decide) (by decide) (by decide) (by decide), h.ok, h.ne⟩
  · rcases e1.2 with h1 | ⟨g, cap, cur, rfl, hg1, hh, rest⟩
    · exact .inl h1
    · refine .inr ⟨g, cap, cur, rfl, hg1, ?_, rest⟩
      exact Bk.keepL (show Bk w g cur 79 from hh) hk (fun e => by
        rw [List.mem_singleton] at e
        subst e
        exact hv rfl)
  · obtain ⟨pv, q1, q2, q3, q4, q5⟩ := e2 i x hx
    exact ⟨pv, q1, q2, q3, q4, q5.ck hc (by decide)⟩
set_option maxRecDepth 100000 in
set_option maxHeartbeats 4000000 in
theorem take_any {w : World} {N : Nat} {s : NS} {bn bl : Nat} {vh vs : Value} (h : NetAt w N s bn bl vh vs) (hl : s.holds.length ≤ 64) (tid : Int) :
    Calls Tryz.prog 47 #[.pointer (some ⟨N, 0, none⟩), .int .i64 tid] w (TakeP N s bn bl vh vs tid w) := by
  have hmf : ∀ (fn : Fn) (first cap : Array Value) (w : World), (Instr.makeFunc fn first cap).run Tryz.prog w = .ok (.func fn first cap) w := fun _ _ _ _ => rfl
  obtain ⟨w1, hw1⟩ : ∃ w1, w1 = (w.alloc (.cells #[.int .i64 tid] 3)).alloc (.cells #[.int .i64 0, .slice none 0 0, .int .i64 0, .int .i64 0] 79) := ⟨_, rfl⟩
  obtain ⟨k0, k1⟩ := boxes2 w #[.int .i64 tid] #[.int .i64 0, .slice none 0 0, .int .i64 0, .int .i64 0] 3 79
  have hb1 := alloc2_below w (.cells #[.int .i64 tid] 3) (.cells #[.int .i64 0, .slice none 0 0, .int .i64 0, .int .i64 0] 79)
  rw [← hw1] at k0 k1 hb1
  have h1 := h.far hb1
  have HW1 := Lib.hid hw1; have HB1 := Lib.hid hb1; have H1 := Lib.hid h1; have H := Lib.hid h
  have n0 := h1.blk.cell 0; have n3 := h1.blk.cell 3
  simp only [List.getElem?_toArray, List.getElem?_cons_succ, List.getElem?_cons_zero] at n0 n3
  have HV := Lib.hid (valid_any N _ w1 n0 rfl)
  have HK0 := Lib.hid k0; have HK1 := Lib.hid k1
  have HIX := Lib.hid (indexH_any vh s.holds tid w.heap.size w1 h1.holds hl (by rw [k0.cell]; rfl))
  clear h h1 hw1 hb1 k0 k1
  go_enter Tryz.func47, Tryz.ntmps47
  go_wp2_with fail
  rw [← HW1.out]
  refine HV.out.mono ?_
  clear HV
  rintro e w2 ⟨rfl, rfl⟩
  go_wp2_with fail
  refine HIX.out.mono ?_
  clear HIX
  rintro e w3 ⟨⟨r, rfl, hr⟩, hb3⟩
  have HB3 := Lib.hid hb3
  have HN3 := Lib.hid (H1.out.far hb3)
  have hk1 := HK1.out.past hb3 HK1.out.lt
  have z0 := hk1.cell 0; have z1 := hk1.cell 1; have z2 := hk1.cell 2; have z3 := hk1.cell 3
  have f0 := hk1.froz 0; have f1 := hk1.froz 1; have f2 := hk1.froz 2; have f3 := hk1.froz 3
  simp only [List.getElem?_toArray, List.getElem?_cons_succ, List.getElem?_cons_zero] at z0 z1 z2 z3
  have HK3 := Lib.hid hk1
  clear hb3 hk1 n0 n3
  rcases hr with ⟨rfl, hno⟩ | ⟨i, rfl, hi, x, hx, hid⟩
  · have HNO := Lib.hid hno
    clear hno
    go_wp2_with fail
    obtain ⟨w4, hw4⟩ : ∃ w4, w4 = ((((w3.setCell ⟨w.heap.size + 1, 0, none⟩ (.int .i64 0)).setCell ⟨w.heap.size + 1, 1, none⟩ (.slice none 0 0)).setCell ⟨w.heap.size + 1, 2, none⟩ (.int .i64 0)).setCell ⟨w.heap.size + 1, 3, none⟩ (.int .i64 0)) := ⟨_, rfl⟩
    have hk4 : Bk w4 (w.heap.size + 1) #[.int .i64 0, .slice none 0 0, .int .i64 0, .int .i64 0] 79 := by
      rw [hw4]; exact ((((HK3.out.set 0 _).set 1 _).set 2 _).set 3 _)
    have hb4 : Below w.heap.size w w4 := by
      rw [hw4]
      have hb := bnextK HB1.out HB3.out
      exact (((hb.setCell (p := ⟨_, 0, none⟩) (by show w.heap.size ≤ w.heap.size + 1; omega) _).setCell (p := ⟨_, 1, none⟩) (by show w.heap.size ≤ w.heap.size + 1; omega) _).setCell (p := ⟨_, 2, none⟩) (by show w.heap.size ≤ w.heap.size + 1; omega) _).setCell (p := ⟨_, 3, none⟩) (by show w.heap.size ≤ w.heap.size + 1; omega) _
    have hn4 : NetAt w4 N s bn bl vh vs := H.out.far hb4
    have y0 := hk4.cell 0; have y1 := hk4.cell 1; have y2 := hk4.cell 2; have y3 := hk4.cell 3
    simp only [List.getElem?_toArray, List.getElem?_cons_succ, List.getElem?_cons_zero] at y0 y1 y2 y3
    rw [← hw4]
    refine bodyPost_ret (a := Act.mk _ _) (v := .tuple #[.agg #[.int .i64 0, .slice none 0 0, .int .i64 0, .int .i64 0], .int .i64 9]) (by simp [results, Tryz.results47, go_sem, y0, y1, y2, y3]) rfl ?_
    exact .inl ⟨rfl, HNO.out, hn4, hb4⟩
  · have HX := Lib.hid hx; have HID := Lib.hid hid
    obtain ⟨g, gc, pv, rfl, _, c0, c1, c2, c3, hrow⟩ := HN3.out.holds.at hx
    obtain ⟨pb, pc, pcs, rfl, _⟩ := id hrow
    have HROW := Lib.hid hrow
    have n3 := HN3.out.blk.cell 3
    simp only [List.getElem?_toArray, List.getElem?_cons_succ, List.getElem?_cons_zero] at n3
    obtain ⟨ln, hln⟩ : ∃ ln, ln = s.holds.length := ⟨_, rfl⟩
    have HLN := Lib.hid hln
    rw [← hln] at n3 hi hl ⊢
    have hii : (i : Int) < (ln : Int) := by omega
    have hi0 : ¬ (i : Int) < 0 := by omega
    clear hrow hx hid hln
    generalize x.path.length = pl at *
    go_wp2_with fail
    obtain ⟨w4, hw4⟩ : ∃ z, z = w3.alloc (.cells #[.int .i64 x.id, .slice (some ⟨pb, 0, none⟩) pl pc, .int .i64 x.bits, .int .i64 x.til] 79) := ⟨_, rfl⟩
    have HB4 : Hid (Below w3.heap.size w3 w4) := Lib.hid (by rw [hw4]; exact below_alloc _ _)
    have HK7 : Hid (Bk w4 w3.heap.size #[.int .i64 x.id, .slice (some ⟨pb, 0, none⟩) pl pc, .int .i64 x.bits, .int .i64 x.til] 79) := Lib.hid (by rw [hw4]; exact Bk.new _ _ _)
    have HN4 := Lib.hid (HN3.out.far HB4.out)
    have HK4 := Lib.hid (HK3.out.past HB4.out HK3.out.lt)
    have HROW4 := Lib.hid (HROW.out.far HB4.out)
    have HBW4 := Lib.hid (bnextK (bnextK HB1.out HB3.out) HB4.out)
    rw [← hw4]
    clear hw4 c0 c1 c2 c3 n3 z0 z1 z2 z3 f0 f1 f2 f3
    generalize w3.heap.size = hb at *
    have n3 := HN4.out.blk.cell 3
    have nf := HN4.out.blk.froz 3
    simp only [List.getElem?_toArray, List.getElem?_cons_succ, List.getElem?_cons_zero] at n3
    rw [← HLN.out] at n3
    have hi9 : i ≤ ln := by omega
    have hi1 : (i : Int) + 1 ≤ (ln : Int) := by omega
    have hi2 : ((i : Int) + 1).toNat = i + 1 := by omega
    have hi3 : IntKind.i64.wrap ((i : Int) + 1) = (i : Int) + 1 := by rw [IntKind.wrap_i64]; omega
    have hi4 : 0 ≤ (i : Int) + 1 := by omega
    obtain ⟨A2, hA2⟩ : ∃ A2 : Option Addr, A2 = if gc = i + 1 then some ⟨g, 0, none⟩ else some ⟨g, (i + 1) * 4, none⟩ := ⟨_, rfl⟩
    have HA2 := Lib.hid hA2
    have hgc : ln ≤ gc := by
      obtain ⟨A', c', e, h'⟩ := HN4.out.holds.form
      injection e with _ e2 e3
      rw [← HLN.out] at h'
      omega
    have hig : i ≤ gc := by omega
    obtain ⟨A0, c0', vals, he, hrd, hone, hvl, hvv⟩ := HN4.out.holds.rd
    injection he with he1 he2 he3
    subst he1
    subst he3
    clear he2
    have hr1 := hrd.firstsK i (by rw [← HLN.out]; omega)
    have hr2 := hrd.cut (lo := i + 1) (hi := ln) (c := gc) (by omega) (by rw [← HLN.out]; exact Nat.le_refl _) (by rw [← HLN.out]; exact hgc)
    rw [List.take_of_length_le (by rw [List.length_drop, hvl, ← HLN.out, Nat.sub_mul]; exact Nat.le_refl _)] at hr2
    have eA2 : (if gc = i + 1 then some ⟨g, 0, none⟩ else Option.map (fun x : Addr => x.add ((i + 1) * 4)) (some ⟨g, 0, none⟩)) = A2 := by
      rw [hA2]; split
      · rfl
      · simp [addr_add]
    rw [eA2] at hr2
    have hone1 : ∀ u ∈ vals.take (i * 4), u.oneCell' = true := fun u hu => hone u (List.mem_of_mem_take hu)
    have hone2 : ∀ u ∈ vals.drop ((i + 1) * 4), u.oneCell' = true := fun u hu => hone u (List.mem_of_mem_drop hu)
    have HCC : Hid (Calls Tryz.prog 71 #[.slice (some ⟨w4.heap.size, 0, none⟩) 2 2] (w4.alloc (.cells #[.slice (some ⟨g, 0, none⟩) i gc, .slice A2 (ln - (i + 1)) (gc - (i + 1))] 53)).drew
        (RowP (i + (ln - (i + 1))) (vals.take (i * 4) ++ vals.drop ((i + 1) * 4)) (w4.alloc (.cells #[.slice (some ⟨g, 0, none⟩) i gc, .slice A2 (ln - (i + 1)) (gc - (i + 1))] 53)).drew)) := Lib.hid
      (concatH_any w4.heap.size (some ⟨g, 0, none⟩) A2 i gc (ln - (i + 1)) (gc - (i + 1)) _ _ _ (by omega) (by omega) (((hr1.alloc (Nat.le_refl _) _).drew).mono (by rw [World.size_drew, World.size_alloc]; omega)) (((hr2.alloc (Nat.le_refl _) _).drew).mono (by rw [World.size_drew, World.size_alloc]; omega)) hone1 hone2 (Bk.new _ _ _))
    have HVL := Lib.hid hvl; have HVV := Lib.hid hvv
    have hsz4 : w.heap.size + 1 < w4.heap.size := HK4.out.lt
    have hbsz : hb < w4.heap.size := HK7.out.lt
    clear hA2 eA2 hr1 hr2 hone1 hone2 hone hrd hvl hvv
    refine wp_region_held_drew (S := (fun _ => True)) (by kernel_rfl) ?_ (fun hHeld => ?_)
    · (try dsimp only); all_goals trivial
    refine wpAnyH_take (i := 0) (oi := ⟨some 28, _, _, _, _, _⟩) (v := ?_) rfl (by kernel_rfl) (by kernel_rfl) (by kernel_rfl) (fun _ _ _ h => h) (Or.inl ⟨by rfl, ?_⟩) (by assumption) ?_; rotate_left
    · intro w hSw; (try dsimp only at hSw); go_simp; try with_reducible rfl
    try simp only [Act.put, setIfInBounds_toArray, set_cons_zero, set_cons_succ]
    refine wpAnyH_take (i := 1) (oi := ⟨some 29, _, _, _, _, _⟩) (v := ?_) rfl (by kernel_rfl) (by kernel_rfl) (by kernel_rfl) (fun _ _ _ h => h) (Or.inl ⟨by rfl, ?_⟩) (by assumption) ?_; rotate_left
    · intro w hSw; (try dsimp only at hSw); go_simp; try with_reducible rfl
    try simp only [Act.put, setIfInBounds_toArray, set_cons_zero, set_cons_succ]
    refine wpAnyH_take (i := 2) (oi := ⟨some 30, _, _, _, _, _⟩) (v := ?_) rfl (by kernel_rfl) (by kernel_rfl) (by kernel_rfl) (fun _ _ _ h => h) (Or.inl ⟨by rfl, ?_⟩) (by assumption) ?_; rotate_left
    · intro w hSw; (try dsimp only at hSw); go_simp; try with_reducible rfl
    try simp only [Act.put, setIfInBounds_toArray, set_cons_zero, set_cons_succ]
    refine wpAnyH_take (i := 3) (oi := ⟨some 31, _, _, _, _, _⟩) (v := ?_) rfl (by kernel_rfl) (by kernel_rfl) (by kernel_rfl) (fun _ _ _ h => h) (Or.inl ⟨by rfl, ?_⟩) (by assumption) ?_; rotate_left
    · intro w hSw; (try dsimp only at hSw); go_simp; try with_reducible rfl
    try simp only [Act.put, setIfInBounds_toArray, set_cons_zero, set_cons_succ]
    refine wpAnyH_take (i := 5) (oi := ⟨some 33, _, _, _, _, _⟩) (v := ?_) rfl (by kernel_rfl) (by kernel_rfl) (by kernel_rfl) (fun _ _ _ h => h) (Or.inl ⟨by rfl, ?_⟩) (by assumption) ?_; rotate_left
    · intro w hSw; (try dsimp only at hSw); go_simp; try with_reducible rfl
    try simp only [Act.put, setIfInBounds_toArray, set_cons_zero, set_cons_succ]
    refine wpAnyH_take (i := 7) (oi := ⟨some 35, _, _, _, _, _⟩) (v := ?_) rfl (by kernel_rfl) (by kernel_rfl) (by kernel_rfl) (fun _ _ _ h => h) (Or.inl ⟨by rfl, ?_⟩) (by assumption) ?_; rotate_left
    · intro w hSw; (try dsimp only at hSw); go_simp; try with_reducible rfl
    try simp only [Act.put, setIfInBounds_toArray, set_cons_zero, set_cons_succ]
    refine wpAnyH_take (i := 8) (oi := ⟨some 36, _, _, _, _, _⟩) (v := ?_) rfl (by kernel_rfl) (by kernel_rfl) (by kernel_rfl) (fun _ _ _ h => h) (Or.inl ⟨by rfl, ?_⟩) (by assumption) ?_; rotate_left
    · intro w hSw; (try dsimp only at hSw); go_simp; try with_reducible rfl
    try simp only [Act.put, setIfInBounds_toArray, set_cons_zero, set_cons_succ]
    refine wpAnyH_take (i := 9) (oi := ⟨some 37, _, _, _, _, _⟩) (v := ?_) rfl (by kernel_rfl) (by kernel_rfl) (by kernel_rfl) (fun _ _ _ h => h) (Or.inl ⟨by rfl, ?_⟩) (by assumption) ?_; rotate_left
    · intro w hSw; (try dsimp only at hSw); go_simp; try with_reducible rfl
    try simp only [Act.put, setIfInBounds_toArray, set_cons_zero, set_cons_succ]
    refine wpAnyH_take (i := 11) (oi := ⟨some 39, _, _, _, _, _⟩) (v := ?_) rfl (by kernel_rfl) (by kernel_rfl) (by kernel_rfl) (fun _ _ _ h => h) (Or.inl ⟨by rfl, ?_⟩) (by assumption) ?_; rotate_left
    · intro w hSw; (try dsimp only at hSw); go_simp; try with_reducible rfl
    try simp only [Act.put, setIfInBounds_toArray, set_cons_zero, set_cons_succ]
    refine wpAnyH_take (i := 12) (oi := ⟨some 40, _, _, _, _, _⟩) (v := ?_) rfl (by kernel_rfl) (by kernel_rfl) (by kernel_rfl) (fun _ _ _ h => h) (Or.inl ⟨by rfl, ?_⟩) (by assumption) ?_; rotate_left
    · intro w hSw; (try dsimp only at hSw); go_simp; try with_reducible rfl
    try simp only [Act.put, setIfInBounds_toArray, set_cons_zero, set_cons_succ]
    refine wpAnyH_ready (rs := [4, 10]) (by kernel_rfl) (by simp) ?_
    refine AllReadyH.cons (o := ⟨some 32, _, _, _, _, _⟩) rfl (fun K hK => ?_) ?_
    · skip
      go_simp
      refine hK.out _ _ ?_ (fun hHeld => ?_)
      · (try dsimp only); all_goals trivial
      clear hK K
      try simp only [Act.put, setIfInBounds_toArray, set_cons_zero, set_cons_succ]
      refine wpAnyH_take (i := 6) (oi := ⟨some 34, _, _, _, _, _⟩) (v := ?_) rfl (by kernel_rfl) (by kernel_rfl) (by kernel_rfl) (fun _ _ _ h => h) (Or.inl ⟨by rfl, ?_⟩) (by assumption) ?_; rotate_left
      · intro w hSw; (try dsimp only at hSw); go_simp; try with_reducible rfl
      try simp only [Act.put, setIfInBounds_toArray, set_cons_zero, set_cons_succ]
      refine wpAnyH_ready (rs := [10]) (by kernel_rfl) (by simp) ?_
      refine AllReadyH.cons (o := ⟨some 38, _, _, _, _, _⟩) rfl (fun K hK => ?_) AllReadyH.nil
      go_simp
      refine hK.out _ _ ?_ (fun hHeld => ?_)
      · (try dsimp only); all_goals trivial
      clear hK K
      try simp only [Act.put, setIfInBounds_toArray, set_cons_zero, set_cons_succ]
      refine wpAnyH_take (i := 13) (oi := ⟨some 41, _, _, _, _, _⟩) (v := Value.slice A2 (ln - (i + 1)) (gc - (i + 1))) rfl (by kernel_rfl) (by kernel_rfl) (by kernel_rfl) (fun _ _ _ h => h) (Or.inl ⟨by rfl, ?_⟩) (by assumption) ?_
      · (intro w hSw; (try dsimp only at hSw); go_simp; rw [HA2.out])
      try simp only [Act.put, setIfInBounds_toArray, set_cons_zero, set_cons_succ]
      refine wpAnyH_ready (rs := [14]) (by kernel_rfl) (by simp) ?_
      refine AllReadyH.cons (o := ⟨some 42, _, _, _, _, _⟩) rfl (fun K hK => ?_) AllReadyH.nil
      go_simp
      refine hK.out _ _ ?_ (fun hHeld => ?_)
      · (try dsimp only); all_goals trivial
      clear hK K
      try simp only [Act.put, setIfInBounds_toArray, set_cons_zero, set_cons_succ]
      refine wpAnyH_ready (rs := [15]) (by kernel_rfl) (by simp) ?_
      refine AllReadyH.cons (o := ⟨some 43, _, _, _, _, _⟩) rfl (fun K hK => ?_) AllReadyH.nil
      go_simp
      refine HCC.out.mono ?_
      clear HCC
      rintro e w6 ⟨⟨A6, c6, rfl, hc6, ho6⟩, hb6⟩
      rw [World.size_drew, World.size_alloc] at ho6
      have hb6' : Below w4.heap.size w4 w6 := bnextK (bnextK (below_alloc w4 _) (Qw.below ⟨1, rfl⟩ _)) hb6
      have HB6 := Lib.hid hb6'
      have HN6 := Lib.hid (HN4.out.far hb6')
      have HHO : Hid (HoldsAt w6 (.slice A6 (i + (ln - (i + 1))) c6) (s.holds.take i ++ s.holds.drop (i + 1))) := Lib.hid (by
        refine HoldsAt.without (by rw [← HLN.out]; exact hi) HVL.out HVV.out hb6' (base := w4.heap.size + 1) ?_
        rw [← HLN.out, show ln - 1 = i + (ln - (i + 1)) by omega]
        exact ho6)
      have HOB : Hid (∀ k, (Value.slice A6 (i + (ln - (i + 1))) c6).ownBlock = some k → w4.heap.size ≤ k) := Lib.hid fun k hk => by
        have := (ho6.lt k hk).1
        omega
      have n3 := HN6.out.blk.cell 3
      have nf := HN6.out.blk.froz 3
      simp only [List.getElem?_toArray, List.getElem?_cons_succ, List.getElem?_cons_zero] at n3
      clear hb6 ho6 hb6'
      go_wp2_with fail
      refine hK.out _ _ ?_ (fun hHeld => ?_)
      · (try dsimp only); all_goals trivial
      clear hK K
      try simp only [Act.put, setIfInBounds_toArray, set_cons_zero, set_cons_succ]
      refine wpAnyH_take (i := 16) (oi := ⟨some 44, _, _, _, _, _⟩) (v := ?_) rfl (by kernel_rfl) (by kernel_rfl) (by kernel_rfl) (fun _ _ _ h => h) (Or.inl ⟨by rfl, ?_⟩) (by assumption) ?_; rotate_left
      · intro w hSw; (try dsimp only at hSw); go_simp; try with_reducible rfl
      try simp only [Act.put, setIfInBounds_toArray, set_cons_zero, set_cons_succ]
      refine wpAnyH_take (i := 17) (oi := ⟨some 45, _, _, _, _, _⟩) (v := ?_) rfl (by kernel_rfl) (by kernel_rfl) (by kernel_rfl) (fun _ _ _ h => h) (Or.inl ⟨by rfl, ?_⟩) (by assumption) ?_; rotate_left
      · intro w hSw; (try dsimp only at hSw); go_simp; try with_reducible rfl
      try simp only [Act.put, setIfInBounds_toArray, set_cons_zero, set_cons_succ]
      refine wpAnyH_ready (rs := [18]) (by kernel_rfl) (by simp) ?_
      refine AllReadyH.cons (o := ⟨none, _, _, _, _, _⟩) rfl (fun K hK => ?_) AllReadyH.nil
      go_simp
      refine hK.out _ _ ?_ (fun hHeld => ?_)
      · (try dsimp only); all_goals trivial
      clear hK K
      try simp only [Act.put]
      refine wpAnyH_done (by kernel_rfl) ?_ _
      obtain ⟨w7, hw7⟩ : ∃ z, z = w6.setCell ⟨N, 3, none⟩ (.slice A6 (i + (ln - (i + 1))) c6) := ⟨_, rfl⟩
      have HN7 : Hid (NetAt w7 N (takeS s i) bn bl (.slice A6 (i + (ln - (i + 1))) c6) vs) := Lib.hid (HN6.out.holds_to HHO.out hw7)
      have HCK : Hid (CK (fun t => t ≠ 56) w6 w7) := Lib.hid (by rw [hw7]; exact CK.setCell HN6.out.blk)
      have HK8 := Lib.hid (HCK.out _ _ _ (by decide) (HK7.out.past HB6.out HK7.out.lt))
      have HK9 := Lib.hid (HCK.out _ _ _ (by decide) (HK4.out.past HB6.out HK4.out.lt))
      have HROW7 : Hid (NmRow w7 (.slice (some ⟨pb, 0, none⟩) pl pc) x.path) := Lib.hid ((HROW4.out.far HB6.out).ck HCK.out (by decide))
      have HKL : Hid (KeepL [N] w w7) := Lib.hid (by rw [hw7]; exact ((KeepL.of_below (HBW4.out.trans (HB6.out.mono HBW4.out.size))).trans (KeepL.set _ _ _ _)))
      rw [← hw7]
      clear hw7 n3 nf HCK
      have y0 := HK8.out.cell 0; have y1 := HK8.out.cell 1; have y2 := HK8.out.cell 2; have y3 := HK8.out.cell 3
      have z0 := HK9.out.cell 0; have z1 := HK9.out.cell 1; have z2 := HK9.out.cell 2; have z3 := HK9.out.cell 3
      have f0 := HK9.out.froz 0; have f1 := HK9.out.froz 1; have f2 := HK9.out.froz 2; have f3 := HK9.out.froz 3
      simp only [List.getElem?_toArray, List.getElem?_cons_succ, List.getElem?_cons_zero] at y0 y1 y2 y3 z0 z1 z2 z3
      go_wp2_with fail
      obtain ⟨w8, hw8⟩ : ∃ w8, w8 = ((((w7.setCell ⟨w.heap.size + 1, 0, none⟩ (.int .i64 x.id)).setCell ⟨w.heap.size + 1, 1, none⟩ (.slice (some ⟨pb, 0, none⟩) pl pc)).setCell ⟨w.heap.size + 1, 2, none⟩ (.int .i64 x.bits)).setCell ⟨w.heap.size + 1, 3, none⟩ (.int .i64 x.til)) := ⟨_, rfl⟩
      have hk8 : Bk w8 (w.heap.size + 1) #[.int .i64 x.id, .slice (some ⟨pb, 0, none⟩) pl pc, .int .i64 x.bits, .int .i64 x.til] 79 := by
        rw [hw8]; exact ((((HK9.out.set 0 _).set 1 _).set 2 _).set 3 _)
      have hkx : KeepL [w.heap.size + 1] w7 w8 := by
        rw [hw8]; exact (((KeepL.set _ _ _ _).trans (KeepL.set _ _ _ _)).trans (KeepL.set _ _ _ _)).trans (KeepL.set _ _ _ _)
      have hn8 : NetAt w8 N (takeS s i) bn bl (.slice A6 (i + (ln - (i + 1))) c6) vs := HN7.out.beside hkx HK9.out (fun e => by have := HOB.out _ e; omega)
      have hrow8 : NmRow w8 (.slice (some ⟨pb, 0, none⟩) pl pc) x.path := by
        obtain ⟨b', c', cs', e1, e2, e3, e4⟩ := HROW7.out
        exact ⟨b', c', cs', e1, e2, e3.keepL hkx (fun hm => by
          rw [List.mem_singleton] at hm
          exact (e3.ne HK9.out (by decide)) hm), e4⟩
      have hkw : KeepL [N] w w8 := ((HKL.out.sub (L' := [N, w.heap.size + 1]) (fun k hk => by rw [List.mem_singleton] at hk; simp [hk])).trans (hkx.sub (fun k hk => by rw [List.mem_singleton] at hk; simp [hk]))).to (fun k hk hlt => by
        simp only [List.mem_cons, List.not_mem_nil, or_false] at hk
        rcases hk with rfl | rfl
        · simp
        · exact absurd hlt (by omega))
      have x0 := hk8.cell 0; have x1 := hk8.cell 1; have x2 := hk8.cell 2; have x3 := hk8.cell 3
      simp only [List.getElem?_toArray, List.getElem?_cons_succ, List.getElem?_cons_zero] at x0 x1 x2 x3
      rw [← hw8]
      refine bodyPost_ret (a := Act.mk _ _) (v := .tuple #[.agg #[.int .i64 x.id, .slice (some ⟨pb, 0, none⟩) pl pc, .int .i64 x.bits, .int .i64 x.til], .int .i64 0]) (by simp [results, Tryz.results47, go_sem, x0, x1, x2, x3]) rfl ?_
      exact .inr ⟨i, x, _, _, HX.out, HID.out, rfl, hrow8, hn8, hkw, fun k hk => by have := HOB.out k hk; omega⟩
    refine AllReadyH.cons (o := ⟨some 38, _, _, _, _, _⟩) rfl (fun K hK => ?_) AllReadyH.nil
    go_simp
    refine hK.out _ _ ?_ (fun hHeld => ?_)
    · (try dsimp only); all_goals trivial
    clear hK K
    try simp only [Act.put, setIfInBounds_toArray, set_cons_zero, set_cons_succ]
    refine wpAnyH_take (i := 13) (oi := ⟨some 41, _, _, _, _, _⟩) (v := Value.slice A2 (ln - (i + 1)) (gc - (i + 1))) rfl (by kernel_rfl) (by kernel_rfl) (by kernel_rfl) (fun _ _ _ h => h) (Or.inl ⟨by rfl, ?_⟩) (by assumption) ?_
    · (intro w hSw; (try dsimp only at hSw); go_simp; rw [HA2.out])
    try simp only [Act.put, setIfInBounds_toArray, set_cons_zero, set_cons_succ]
    refine wpAnyH_ready (rs := [4]) (by kernel_rfl) (by simp) ?_
    refine AllReadyH.cons (o := ⟨some 32, _, _, _, _, _⟩) rfl (fun K hK => ?_) AllReadyH.nil
    go_simp
    refine hK.out _ _ ?_ (fun hHeld => ?_)
    · (try dsimp only); all_goals trivial
    clear hK K
    try simp only [Act.put, setIfInBounds_toArray, set_cons_zero, set_cons_succ]
    refine wpAnyH_take (i := 6) (oi := ⟨some 34, _, _, _, _, _⟩) (v := ?_) rfl (by kernel_rfl) (by kernel_rfl) (by kernel_rfl) (fun _ _ _ h => h) (Or.inl ⟨by rfl, ?_⟩) (by assumption) ?_; rotate_left
    · intro w hSw; (try dsimp only at hSw); go_simp; try with_reducible rfl
    try simp only [Act.put, setIfInBounds_toArray, set_cons_zero, set_cons_succ]
    refine wpAnyH_ready (rs := [14]) (by kernel_rfl) (by simp) ?_
    refine AllReadyH.cons (o := ⟨some 42, _, _, _, _, _⟩) rfl (fun K hK => ?_) AllReadyH.nil
    go_simp
    refine hK.out _ _ ?_ (fun hHeld => ?_)
    · (try dsimp only); all_goals trivial
    clear hK K
    try simp only [Act.put, setIfInBounds_toArray, set_cons_zero, set_cons_succ]
    refine wpAnyH_ready (rs := [15]) (by kernel_rfl) (by simp) ?_
    refine AllReadyH.cons (o := ⟨some 43, _, _, _, _, _⟩) rfl (fun K hK => ?_) AllReadyH.nil
    go_simp
    refine HCC.out.mono ?_
    clear HCC
    rintro e w6 ⟨⟨A6, c6, rfl, hc6, ho6⟩, hb6⟩
    rw [World.size_drew, World.size_alloc] at ho6
    have hb6' : Below w4.heap.size w4 w6 := bnextK (bnextK (below_alloc w4 _) (Qw.below ⟨1, rfl⟩ _)) hb6
    have HB6 := Lib.hid hb6'
    have HN6 := Lib.hid (HN4.out.far hb6')
    have HHO : Hid (HoldsAt w6 (.slice A6 (i + (ln - (i + 1))) c6) (s.holds.take i ++ s.holds.drop (i + 1))) := Lib.hid (by
      refine HoldsAt.without (by rw [← HLN.out]; exact hi) HVL.out HVV.out hb6' (base := w4.heap.size + 1) ?_
      rw [← HLN.out, show ln - 1 = i + (ln - (i + 1)) by omega]
      exact ho6)
    have HOB : Hid (∀ k, (Value.slice A6 (i + (ln - (i + 1))) c6).ownBlock = some k → w4.heap.size ≤ k) := Lib.hid fun k hk => by
      have := (ho6.lt k hk).1
      omega
    have n3 := HN6.out.blk.cell 3
    have nf := HN6.out.blk.froz 3
    simp only [List.getElem?_toArray, List.getElem?_cons_succ, List.getElem?_cons_zero] at n3
    clear hb6 ho6 hb6'
    go_wp2_with fail
    refine hK.out _ _ ?_ (fun hHeld => ?_)
    · (try dsimp only); all_goals trivial
    clear hK K
    try simp only [Act.put, setIfInBounds_toArray, set_cons_zero, set_cons_succ]
    refine wpAnyH_take (i := 16) (oi := ⟨some 44, _, _, _, _, _⟩) (v := ?_) rfl (by kernel_rfl) (by kernel_rfl) (by kernel_rfl) (fun _ _ _ h => h) (Or.inl ⟨by rfl, ?_⟩) (by assumption) ?_; rotate_left
    · intro w hSw; (try dsimp only at hSw); go_simp; try with_reducible rfl
    try simp only [Act.put, setIfInBounds_toArray, set_cons_zero, set_cons_succ]
    refine wpAnyH_take (i := 17) (oi := ⟨some 45, _, _, _, _, _⟩) (v := ?_) rfl (by kernel_rfl) (by kernel_rfl) (by kernel_rfl) (fun _ _ _ h => h) (Or.inl ⟨by rfl, ?_⟩) (by assumption) ?_; rotate_left
    · intro w hSw; (try dsimp only at hSw); go_simp; try with_reducible rfl
    try simp only [Act.put, setIfInBounds_toArray, set_cons_zero, set_cons_succ]
    refine wpAnyH_ready (rs := [18]) (by kernel_rfl) (by simp) ?_
    refine AllReadyH.cons (o := ⟨none, _, _, _, _, _⟩) rfl (fun K hK => ?_) AllReadyH.nil
    go_simp
    refine hK.out _ _ ?_ (fun hHeld => ?_)
    · (try dsimp only); all_goals trivial
    clear hK K
    try simp only [Act.put]
    refine wpAnyH_done (by kernel_rfl) ?_ _
    obtain ⟨w7, hw7⟩ : ∃ z, z = w6.setCell ⟨N, 3, none⟩ (.slice A6 (i + (ln - (i + 1))) c6) := ⟨_, rfl⟩
    have HN7 : Hid (NetAt w7 N (takeS s i) bn bl (.slice A6 (i + (ln - (i + 1))) c6) vs) := Lib.hid (HN6.out.holds_to HHO.out hw7)
    have HCK : Hid (CK (fun t => t ≠ 56) w6 w7) := Lib.hid (by rw [hw7]; exact CK.setCell HN6.out.blk)
    have HK8 := Lib.hid (HCK.out _ _ _ (by decide) (HK7.out.past HB6.out HK7.out.lt))
    have HK9 := Lib.hid (HCK.out _ _ _ (by decide) (HK4.out.past HB6.out HK4.out.lt))
    have HROW7 : Hid (NmRow w7 (.slice (some ⟨pb, 0, none⟩) pl pc) x.path) := Lib.hid ((HROW4.out.far HB6.out).ck HCK.out (by decide))
    have HKL : Hid (KeepL [N] w w7) := Lib.hid (by rw [hw7]; exact ((KeepL.of_below (HBW4.out.trans (HB6.out.mono HBW4.out.size))).trans (KeepL.set _ _ _ _)))
    rw [← hw7]
    clear hw7 n3 nf HCK
    have y0 := HK8.out.cell 0; have y1 := HK8.out.cell 1; have y2 := HK8.out.cell 2; have y3 := HK8.out.cell 3
    have z0 := HK9.out.cell 0; have z1 := HK9.out.cell 1; have z2 := HK9.out.cell 2; have z3 := HK9.out.cell 3
    have f0 := HK9.out.froz 0; have f1 := HK9.out.froz 1; have f2 := HK9.out.froz 2; have f3 := HK9.out.froz 3
    simp only [List.getElem?_toArray, List.getElem?_cons_succ, List.getElem?_cons_zero] at y0 y1 y2 y3 z0 z1 z2 z3
    go_wp2_with fail
    obtain ⟨w8, hw8⟩ : ∃ w8, w8 = ((((w7.setCell ⟨w.heap.size + 1, 0, none⟩ (.int .i64 x.id)).setCell ⟨w.heap.size + 1, 1, none⟩ (.slice (some ⟨pb, 0, none⟩) pl pc)).setCell ⟨w.heap.size + 1, 2, none⟩ (.int .i64 x.bits)).setCell ⟨w.heap.size + 1, 3, none⟩ (.int .i64 x.til)) := ⟨_, rfl⟩
    have hk8 : Bk w8 (w.heap.size + 1) #[.int .i64 x.id, .slice (some ⟨pb, 0, none⟩) pl pc, .int .i64 x.bits, .int .i64 x.til] 79 := by
      rw [hw8]; exact ((((HK9.out.set 0 _).set 1 _).set 2 _).set 3 _)
    have hkx : KeepL [w.heap.size + 1] w7 w8 := by
      rw [hw8]; exact (((KeepL.set _ _ _ _).trans (KeepL.set _ _ _ _)).trans (KeepL.set _ _ _ _)).trans (KeepL.set _ _ _ _)
    have hn8 : NetAt w8 N (takeS s i) bn bl (.slice A6 (i + (ln - (i + 1))) c6) vs := HN7.out.beside hkx HK9.out (fun e => by have := HOB.out _ e; omega)
    have hrow8 : NmRow w8 (.slice (some ⟨pb, 0, none⟩) pl pc) x.path := by
      obtain ⟨b', c', cs', e1, e2, e3, e4⟩ := HROW7.out
      exact ⟨b', c', cs', e1, e2, e3.keepL hkx (fun hm => by
        rw [List.mem_singleton] at hm
        exact (e3.ne HK9.out (by decide)) hm), e4⟩
    have hkw : KeepL [N] w w8 := ((HKL.out.sub (L' := [N, w.heap.size + 1]) (fun k hk => by rw [List.mem_singleton] at hk; simp [hk])).trans (hkx.sub (fun k hk => by rw [List.mem_singleton] at hk; simp [hk]))).to (fun k hk hlt => by
      simp only [List.mem_cons, List.not_mem_nil, or_false] at hk
      rcases hk with rfl | rfl
      · simp
      · exact absurd hlt (by omega))
    have x0 := hk8.cell 0; have x1 := hk8.cell 1; have x2 := hk8.cell 2; have x3 := hk8.cell 3
    simp only [List.getElem?_toArray, List.getElem?_cons_succ, List.getElem?_cons_zero] at x0 x1 x2 x3
    rw [← hw8]
    refine bodyPost_ret (a := Act.mk _ _) (v := .tuple #[.agg #[.int .i64 x.id, .slice (some ⟨pb, 0, none⟩) pl pc, .int .i64 x.bits, .int .i64 x.til], .int .i64 0]) (by simp [results, Tryz.results47, go_sem, x0, x1, x2, x3]) rfl ?_
    exact .inr ⟨i, x, _, _, HX.out, HID.out, rfl, hrow8, hn8, hkw, fun k hk => by have := HOB.out k hk; omega⟩
end Go.Proofs.YtblilfbhohnbgaaGreat
