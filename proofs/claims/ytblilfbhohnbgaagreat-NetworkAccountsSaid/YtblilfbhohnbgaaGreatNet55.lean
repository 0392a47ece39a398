/- The contracts of Use and Cancel. Conditions: as each statement says. -/
import Derived.Test.YtblilfbhohnbgaaGreatNet54
import Derived.Test.YtblilfbhohnbgaaGreatNet47
import Derived.Test.YtblilfbhohnbgaaGreatNet35
namespace Go.Proofs.YtblilfbhohnbgaaGreat
open List (setIfInBounds_toArray set_cons_zero set_cons_succ)
open Go.RowKit
set_option linter.unusedVariables false
set_option maxRecDepth 100000 in
theorem clone_nm (A : Option Addr) (n c : Nat) (l : List Nm) (w : World) (hn : n ≤ 1073741824) (h : Rd w w.heap.size 1 A n (l.map (encS))) :
    Calls Tryz.prog 48 #[.slice A n c] w fun e w' => ∃ A' c', e = .returned (.slice A' n c') ∧ n ≤ c' ∧ w'.ownsRow w.heap.size 9 1 (.slice A' n c') n (l.map (encS)) ∧ Below w.heap.size w w' := by
  have H := Lib.hid h; clear h
  obtain ⟨i0, hi0, hz0, hz1, hz2⟩ := info_parts info_str16
  have HI0 := Lib.hid hi0; have HZ0 := Lib.hid hz0; have HZ1 := Lib.hid hz1; have HZ2 := Lib.hid hz2
  clear hi0 hz0 hz1 hz2
  have q : ∀ (w : World) (a : Option Addr) (n c n' c' : Nat), (binOp .eql 28 (.slice a n c) (.slice none n' c')).run Tryz.prog w = .ok (.bool a.isNone) w := fun w a n c n' c' => Lib.run_eql_slice_nil w _ _ a n c n' c' Tryz.underlying28
  cases A with
  | none =>
    have hn0 : n = 0 := by
      rcases Nat.eq_zero_or_pos n with h | h
      · exact h
      · obtain ⟨_, _, h1, _⟩ := H.out.2 h; cases h1
    subst hn0
    have hl : l = [] := by have := H.out.1; simpa using this
    subst hl
    clear H
    go_enter Tryz.func48, Tryz.ntmps48
    go_wp2_with fail
    go_ret
    exact ⟨none, 0, rfl, Nat.le_refl _, World.ownsRow_nil _ _ _ _, Below.refl _ _⟩
  | some a =>
    go_enter Tryz.func48, Tryz.ntmps48
    go_wp2_with (at_builtin; refine wpList_append_rd _ rfl (.tmp 5) (.tmp 6) _ rfl w.heap.size 9 i0 _ 1 16 Tryz.underlying28 HI0.out HZ0.out HZ1.out HZ2.out rfl (by decide) _ 0 [] rfl (World.ownsRow_made w #[] 0 (Nat.le_refl _) (by simp [maxLen]) (by simp)) _ (some a) n c _ rfl (H.out.alloc (Nat.le_refl _) _) (by intro u hu; obtain ⟨_, _, rfl⟩ := List.mem_map.1 hu; rfl) (by unfold maxLen; omega) (by omega) (by simp) ?_; intro v1 w1 hown1 hg1)
    rw [Nat.zero_add, List.nil_append] at hown1
    obtain ⟨A', c', rfl, hc⟩ := own_form hown1
    go_ret
    exact ⟨A', c', rfl, hc, hown1, (((Below.refl _ _).alloc (Nat.le_refl _) _).grown hg1 (by simp) (fun g hg => by cases hg; exact Nat.le_refl _))⟩

theorem NmRow.rd {w : World} {A : Option Addr} {n c : Nat} {l : List Nm} (h : NmRow w (.slice A n c) l) : n = l.length ∧ Rd w w.heap.size 1 A l.length (l.map encS) := by
  obtain ⟨g, c', cs, e, hc, hb, hr⟩ := h
  injection e with e1 e2 e3
  subst e1
  refine ⟨e2, by simp, fun h0 => ⟨g, 0, rfl, hb.lt, fun j u hu => ?_⟩⟩
  rw [Nat.zero_add, hb.cell]
  rw [List.getElem?_map] at hu
  have hj : j < l.length := by
    rcases Nat.lt_or_ge j l.length with h | h
    · exact h
    · rw [List.getElem?_eq_none h] at hu; cases hu
  rw [hr j hj, ← hu, List.getElem?_eq_getElem hj, List.getD_eq_getElem?_getD, List.getElem?_eq_getElem hj]
  rfl
theorem NmRow.own {w : World} {base : Nat} {A : Option Addr} {n c : Nat} {l : List Nm} (h : w.ownsRow base 9 1 (.slice A n c) n (l.map encS)) (h0 : l ≠ []) : NmRow w (.slice A n c) l := by
  have hl : n = l.length := by have := h.1; simp at this; omega
  rcases h.2 with ⟨_, h3⟩ | ⟨g, cap, cur, hv, hg1, hh, hcap, _, _, htk⟩
  · exact absurd (List.length_eq_zero_iff.1 (hl ▸ h3)) h0
  · injection hv with e1 e2 e3
    subst e1; subst e3
    refine ⟨g, c, cur, by rw [hl], by omega, hh, fun i hi => ?_⟩
    have := congrArg (fun z => z[i]?) htk
    simp only [List.getElem?_take, List.getElem?_map] at this
    rw [if_pos (by omega), Array.getElem?_toList, List.getElem?_eq_getElem hi] at this
    rw [this, List.getD_eq_getElem?_getD, List.getElem?_eq_getElem hi]
    rfl
/-- A hold used up or given back. -/
def BackP (N : Nat) (s : NS) (bn bl : Nat) (vs : Value) (tid : Int) (F SP : HoldM → Int) (w w' : World) (i : Nat) (x : HoldM) : Prop :=
  s.holds[i]? = some x ∧ x.id = tid ∧ (∃ vh', NetAt w' N (backS s i x (F x) (SP x)) bn bl vh' vs ∧ ∀ k, vh'.ownBlock = some k → w.heap.size ≤ k) ∧ KeepL [N, bl] w w'
def NoneP (N : Nat) (s : NS) (bn bl : Nat) (vh vs : Value) (tid : Int) (w w' : World) : Prop := (∀ x ∈ s.holds, x.id ≠ tid) ∧ NetAt w' N s bn bl vh vs ∧ Below w.heap.size w w'
def UseP (N : Nat) (s : NS) (bn bl : Nat) (vh vs : Value) (tid : Int) (w : World) (e : Ending) (w' : World) : Prop :=
  (e = .returned (.tuple #[.slice none 0 0, .int .i64 9]) ∧ NoneP N s bn bl vh vs tid w w') ∨
  ∃ i x v, e = .returned (.tuple #[v, .int .i64 0]) ∧ BackP N s bn bl vs tid (fun _ => 0) (fun x => x.bits) w w' i x ∧ NmRow w' v x.path
def CancelP (N : Nat) (s : NS) (bn bl : Nat) (vh vs : Value) (tid : Int) (w : World) (e : Ending) (w' : World) : Prop :=
  (e = .returned (.int .i64 9) ∧ NoneP N s bn bl vh vs tid w w') ∨
  ∃ i x, e = .returned (.int .i64 0) ∧ BackP N s bn bl vs tid (fun x => x.bits) (fun _ => 0) w w' i x
set_option maxRecDepth 100000 in
set_option maxHeartbeats 4000000 in
theorem Use_any {w : World} {N : Nat} {s : NS} {bn bl : Nat} {vh vs : Value} (h : NetAt w N s bn bl vh vs) (hni : NI s) (tid : Int) :
    Calls Tryz.prog 25 #[.pointer (some ⟨N, 0, none⟩), .int .i64 tid] w (UseP N s bn bl vh vs tid w) := by
  have HT := Lib.hid (take_any h hni.hl tid)
  have H := Lib.hid h; have HNI := Lib.hid hni
  clear h hni
  go_enter Tryz.func25, Tryz.ntmps25
  go_wp2_with fail
  refine HT.out.mono ?_
  clear HT
  intro e w2 hq
  rcases hq with ⟨rfl, hno, hn2, hb2⟩ | ⟨i, x, pv, vh', hx, hid, rfl, hrow, hn2, hk2, hvh⟩
  · have HNO := Lib.hid hno; have HN2 := Lib.hid hn2; have HB2 := Lib.hid hb2
    clear hno hn2 hb2
    go_wp2_with fail
    refine bodyPost_ret (a := Act.mk _ _) (results_tmp2 rfl _ _ _) rfl ?_
    exact .inl ⟨rfl, HNO.out, HN2.out.far (below_alloc _ _), bnextK HB2.out (below_alloc _ _)⟩
  · have HX := Lib.hid hx; have HID := Lib.hid hid; have HN2 := Lib.hid hn2; have HK2 := Lib.hid hk2; have HVH := Lib.hid hvh; have HROW := Lib.hid hrow
    have hok : HolOK s x := HNI.out.held.each x (List.mem_of_getElem? hx)
    have hx16 := hok.len16 H.out.ok
    have HOK := Lib.hid hok
    obtain ⟨pb, pc, pcs, rfl, hpc, _⟩ := id hrow
    have HB16 : Hid (x.path.length ≤ 16 ∧ 2 ≤ x.path.length ∧ 1 ≤ x.bits ∧ x.bits ≤ 65536) := Lib.hid ⟨hx16, hok.len, hok.b1, hok.b2⟩
    have hwn : wrap64 (-x.bits) = -x.bits := wrap64_neg hok.b1 hok.b2
    obtain ⟨w3, hw3⟩ : ∃ z, z = w2.alloc (.cells #[.int .i64 x.id, .slice (some ⟨pb, 0, none⟩) x.path.length pc, .int .i64 x.bits, .int .i64 x.til] 79) := ⟨_, rfl⟩
    have HB3 : Hid (Below w2.heap.size w2 w3) := Lib.hid (by rw [hw3]; exact below_alloc _ _)
    have HK3 : Hid (Bk w3 w2.heap.size #[.int .i64 x.id, .slice (some ⟨pb, 0, none⟩) x.path.length pc, .int .i64 x.bits, .int .i64 x.til] 79) := Lib.hid (by rw [hw3]; exact Bk.new _ _ _)
    have HW3 := Lib.hid hw3
    have HN3 := Lib.hid (HN2.out.far HB3.out)
    have HROW3 := Lib.hid (HROW.out.far HB3.out)
    have hback := back_ok H.out.ok HNI.out hx (f := 0) (sp := x.bits) (by omega) (by have := hok.b1; omega) (by have := hok.b1; omega)
    have HMV := Lib.hid (move_any HN3.out x.path (.slice (some ⟨pb, 0, none⟩) x.path.length pc) HROW3.out (0) (-x.bits) (x.bits) (by have := HB16.out.2.1; omega) (by have := HB16.out.1; omega) HOK.out.nodup (fun i hi => HOK.out.link i hi) hback.1 (by have := HB16.out; omega) (by have := HB16.out; omega) (by have := HB16.out; omega))
    have hszw := HK2.out.size
    have HSZ := Lib.hid hszw
    clear hx hid hn2 hk2 hvh hrow hok hx16 hback hw3 hpc hszw
    unfold holdV
    go_wp2_with fail
    try rw [← HW3.out]
    refine HMV.out.mono ?_
    clear HMV
    rintro e w4 ⟨rfl, hn4, hk4⟩
    have HN4 := Lib.hid hn4
    have HCK := Lib.hid (HN3.out.links.ckL hk4)
    have HKW : Hid (KeepL [N, bl] w w4) := Lib.hid (((HK2.out.sub (fun k hk => by simp at hk; simp [hk])).trans (KeepL.of_below HB3.out)).trans (hk4.sub (fun k hk => by simp at hk; simp [hk])))
    have HK4 := Lib.hid (HCK.out _ _ _ trivial HK3.out)
    have HROW4 := Lib.hid (HROW3.out.ck HCK.out trivial)
    have k0 := HK4.out.cell 0; have k1 := HK4.out.cell 1; have k2 := HK4.out.cell 2; have k3 := HK4.out.cell 3
    simp only [List.getElem?_toArray, List.getElem?_cons_succ, List.getElem?_cons_zero] at k0 k1 k2 k3
    clear hn4 hk4
    have hc := HROW4.out.rd.2
    have HCL := Lib.hid (clone_nm (some ⟨pb, 0, none⟩) x.path.length pc x.path w4 (by have := HB16.out.1; omega) hc)
    clear hc
    go_wp2_with fail
    refine HCL.out.mono ?_
    clear HCL
    rintro e w5 ⟨A5, c5, rfl, hc5, ho5, hb5⟩
    have HO5 := Lib.hid ho5; have HB5 := Lib.hid hb5
    clear ho5 hb5
    go_wp2_with fail
    refine bodyPost_ret (a := Act.mk _ _) (results_tmp2 rfl _ _ _) rfl ?_
    exact .inr ⟨i, x, _, rfl, ⟨HX.out, HID.out, ⟨vh', HN4.out.far HB5.out, fun k hk => HVH.out k hk⟩, HKW.out.trans (KeepL.of_below HB5.out)⟩, NmRow.own HO5.out (fun e => by have := HB16.out.2.1; rw [e] at this; simp at this)⟩
set_option maxRecDepth 100000 in
set_option maxHeartbeats 4000000 in
theorem Cancel_any {w : World} {N : Nat} {s : NS} {bn bl : Nat} {vh vs : Value} (h : NetAt w N s bn bl vh vs) (hni : NI s) (tid : Int) :
    Calls Tryz.prog 26 #[.pointer (some ⟨N, 0, none⟩), .int .i64 tid] w (CancelP N s bn bl vh vs tid w) := by
  have HT := Lib.hid (take_any h hni.hl tid)
  have H := Lib.hid h; have HNI := Lib.hid hni
  clear h hni
  go_enter Tryz.func26, Tryz.ntmps26
  go_wp2_with fail
  refine HT.out.mono ?_
  clear HT
  intro e w2 hq
  rcases hq with ⟨rfl, hno, hn2, hb2⟩ | ⟨i, x, pv, vh', hx, hid, rfl, hrow, hn2, hk2, hvh⟩
  · have HNO := Lib.hid hno; have HN2 := Lib.hid hn2; have HB2 := Lib.hid hb2
    clear hno hn2 hb2
    go_wp2_with fail
    go_ret
    exact .inl ⟨rfl, HNO.out, HN2.out.far (below_alloc _ _), bnextK HB2.out (below_alloc _ _)⟩
  · have HX := Lib.hid hx; have HID := Lib.hid hid; have HN2 := Lib.hid hn2; have HK2 := Lib.hid hk2; have HVH := Lib.hid hvh; have HROW := Lib.hid hrow
    have hok : HolOK s x := HNI.out.held.each x (List.mem_of_getElem? hx)
    have hx16 := hok.len16 H.out.ok
    have HOK := Lib.hid hok
    obtain ⟨pb, pc, pcs, rfl, hpc, _⟩ := id hrow
    have HB16 : Hid (x.path.length ≤ 16 ∧ 2 ≤ x.path.length ∧ 1 ≤ x.bits ∧ x.bits ≤ 65536) := Lib.hid ⟨hx16, hok.len, hok.b1, hok.b2⟩
    have hwn : wrap64 (-x.bits) = -x.bits := wrap64_neg hok.b1 hok.b2
    obtain ⟨w3, hw3⟩ : ∃ z, z = w2.alloc (.cells #[.int .i64 x.id, .slice (some ⟨pb, 0, none⟩) x.path.length pc, .int .i64 x.bits, .int .i64 x.til] 79) := ⟨_, rfl⟩
    have HB3 : Hid (Below w2.heap.size w2 w3) := Lib.hid (by rw [hw3]; exact below_alloc _ _)
    have HK3 : Hid (Bk w3 w2.heap.size #[.int .i64 x.id, .slice (some ⟨pb, 0, none⟩) x.path.length pc, .int .i64 x.bits, .int .i64 x.til] 79) := Lib.hid (by rw [hw3]; exact Bk.new _ _ _)
    have HW3 := Lib.hid hw3
    have HN3 := Lib.hid (HN2.out.far HB3.out)
    have HROW3 := Lib.hid (HROW.out.far HB3.out)
    have hback := back_ok H.out.ok HNI.out hx (f := x.bits) (sp := 0) (by omega) (by have := hok.b1; omega) (by have := hok.b1; omega)
    have HMV := Lib.hid (move_any HN3.out x.path (.slice (some ⟨pb, 0, none⟩) x.path.length pc) HROW3.out (x.bits) (-x.bits) (0) (by have := HB16.out.2.1; omega) (by have := HB16.out.1; omega) HOK.out.nodup (fun i hi => HOK.out.link i hi) hback.1 (by have := HB16.out; omega) (by have := HB16.out; omega) (by have := HB16.out; omega))
    have hszw := HK2.out.size
    have HSZ := Lib.hid hszw
    clear hx hid hn2 hk2 hvh hrow hok hx16 hback hw3 hpc hszw
    unfold holdV
    go_wp2_with fail
    try rw [← HW3.out]
    refine HMV.out.mono ?_
    clear HMV
    rintro e w4 ⟨rfl, hn4, hk4⟩
    have HN4 := Lib.hid hn4
    have HCK := Lib.hid (HN3.out.links.ckL hk4)
    have HKW : Hid (KeepL [N, bl] w w4) := Lib.hid (((HK2.out.sub (fun k hk => by simp at hk; simp [hk])).trans (KeepL.of_below HB3.out)).trans (hk4.sub (fun k hk => by simp at hk; simp [hk])))
    have HK4 := Lib.hid (HCK.out _ _ _ trivial HK3.out)
    have HROW4 := Lib.hid (HROW3.out.ck HCK.out trivial)
    have k0 := HK4.out.cell 0; have k1 := HK4.out.cell 1; have k2 := HK4.out.cell 2; have k3 := HK4.out.cell 3
    simp only [List.getElem?_toArray, List.getElem?_cons_succ, List.getElem?_cons_zero] at k0 k1 k2 k3
    clear hn4 hk4
    go_wp2_with fail
    go_ret
    exact .inr ⟨i, x, rfl, HX.out, HID.out, ⟨vh', HN4.out, fun k hk => HVH.out k hk⟩, HKW.out⟩
def fen1E (s : NS) (x : Nm) : Int := if fenB s x = true then 10 else 0
def fenceE (s : NS) (x : Nm) : Int := firstE [oneE s x, fen1E s x]
set_option maxRecDepth 100000 in
set_option maxHeartbeats 4000000 in
theorem fence1_any {w : World} {N : Nat} {s : NS} {bn bl : Nat} {vh vs : Value} (h : NetAt w N s bn bl vh vs) (x : Nm) (hx : x.length ≤ maxLen) (p0 p1 : Nat)
    (h0 : w.cell? ⟨p0, 0, none⟩ = some (.pointer (some ⟨N, 0, none⟩))) (h1 : w.cell? ⟨p1, 0, none⟩ = some (encS x)) :
    Calls Tryz.prog 52 #[.pointer (some ⟨p0, 0, none⟩), .pointer (some ⟨p1, 0, none⟩)] w (AnsN (fen1E s x) w) := by
  have HU : Hid (∀ W, Calls Tryz.prog 14 #[.bool (fenB s x), .int .i64 10] W (CondP (fen1E s x) W)) := Lib.hid fun W => unless_P _ 10 _ W rfl
  have HSH : Hid (∀ W, Below w.heap.size w W → W.cell? ⟨p0, 0, none⟩ = some (.pointer (some ⟨N, 0, none⟩)) ∧ W.cell? ⟨p1, 0, none⟩ = some (encS x) ∧ W.cell? ⟨N, 0, none⟩ = some (.map (some bn)) ∧ (Instr.lookup 51 (.map (some bn)) (encS x) false).run Tryz.prog W = .ok (.bool (fenB s x)) W) := Lib.hid fun W hW =>
    ⟨(hW.cell (p := ⟨p0, 0, none⟩) (cell_lt h0)).trans h0, (hW.cell (p := ⟨p1, 0, none⟩) (cell_lt h1)).trans h1, by rw [(h.far hW).blk.cell]; rfl, nodes_look (h.far hW) x hx false⟩
  have HNOW : Hid (Below w.heap.size w w.drew) := Lib.hid (Qw.below ⟨1, rfl⟩ _)
  generalize fen1E s x = ev at *
  generalize fenB s x = fb at *
  clear h h0 h1
  go_enter Tryz.func52, Tryz.ntmps52
  go_wp2_with fail
  refine wp_region_held_drew (S := (fun W => W.cell? ⟨p0, 0, none⟩ = some (.pointer (some ⟨N, 0, none⟩)) ∧ W.cell? ⟨p1, 0, none⟩ = some (encS x) ∧ W.cell? ⟨N, 0, none⟩ = some (.map (some bn)) ∧ (Instr.lookup 51 (.map (some bn)) (encS x) false).run Tryz.prog W = .ok (.bool fb) W)) (by kernel_rfl) ?_ (fun hHeld => ?_)
  · (try dsimp only); exact HSH.out _ HNOW.out
  refine wpAnyH_take (i := 0) (oi := ⟨some 3, _, _, _, _, _⟩) (v := ?_) rfl (by kernel_rfl) (by kernel_rfl) (by kernel_rfl) (fun _ _ _ h => h) (Or.inl ⟨by rfl, ?_⟩) (by assumption) ?_; rotate_left
  · intro w hSw; (try dsimp only at hSw); go_simp; try with_reducible rfl
  try simp only [Act.put, setIfInBounds_toArray, set_cons_zero, set_cons_succ]
  refine wpAnyH_take (i := 1) (oi := ⟨some 4, _, _, _, _, _⟩) (v := ?_) rfl (by kernel_rfl) (by kernel_rfl) (by kernel_rfl) (fun _ _ _ h => h) (Or.inl ⟨by rfl, ?_⟩) (by assumption) ?_; rotate_left
  · intro w hSw; (try dsimp only at hSw); go_simp; try with_reducible rfl
  try simp only [Act.put, setIfInBounds_toArray, set_cons_zero, set_cons_succ]
  refine wpAnyH_take (i := 2) (oi := ⟨some 5, _, _, _, _, _⟩) (v := ?_) rfl (by kernel_rfl) (by kernel_rfl) (by kernel_rfl) (fun _ _ _ h => h) (Or.inl ⟨by rfl, ?_⟩) (by assumption) ?_; rotate_left
  · intro w hSw; (try dsimp only at hSw); go_simp; try with_reducible rfl
  try simp only [Act.put, setIfInBounds_toArray, set_cons_zero, set_cons_succ]
  refine wpAnyH_take (i := 3) (oi := ⟨some 6, _, _, _, _, _⟩) (v := ?_) rfl (by kernel_rfl) (by kernel_rfl) (by kernel_rfl) (fun _ _ _ h => h) (Or.inl ⟨by rfl, ?_⟩) (by assumption) ?_; rotate_left
  · intro w hSw; (try dsimp only at hSw); go_simp; try with_reducible rfl
  try simp only [Act.put, setIfInBounds_toArray, set_cons_zero, set_cons_succ]
  refine wpAnyH_take (i := 4) (oi := ⟨some 7, _, _, _, _, _⟩) (v := ?_) rfl (by kernel_rfl) (by kernel_rfl) (by kernel_rfl) (fun _ _ _ h => h) (Or.inl ⟨by rfl, ?_⟩) (by assumption) ?_; rotate_left
  · intro w hSw; (try dsimp only at hSw); go_simp; try with_reducible rfl
  try simp only [Act.put, setIfInBounds_toArray, set_cons_zero, set_cons_succ]
  refine wpAnyH_take (i := 5) (oi := ⟨some 8, _, _, _, _, _⟩) (v := ?_) rfl (by kernel_rfl) (by kernel_rfl) (by kernel_rfl) (fun _ _ _ h => h) (Or.inl ⟨by rfl, ?_⟩) (by assumption) ?_; rotate_left
  · intro w hSw; (try dsimp only at hSw); go_simp; try with_reducible rfl
  try simp only [Act.put, setIfInBounds_toArray, set_cons_zero, set_cons_succ]
  refine wpAnyH_ready (rs := [6]) (by kernel_rfl) (by simp) ?_
  refine AllReadyH.cons (o := ⟨some 9, _, _, _, _, _⟩) rfl (fun K hK => ?_) AllReadyH.nil
  go_simp
  refine (HU.out _).mono ?_
  rintro e w4 ⟨f4, rfl, ⟨fn4, cap4, rfl, hen4, hcl4⟩, b4⟩
  have hen5 := hen4 w4
  have HC5 := Lib.hid (hcl4 w4 (Below.refl _ _))
  clear hen4 hcl4
  have HNOW := Lib.hid (bnextK HNOW.out b4)
  go_wp2_with fail
  refine hK.out _ _ ?_ (fun hHeld => ?_)
  · (try dsimp only); exact HSH.out _ HNOW.out
  clear hK K
  try simp only [Act.put, setIfInBounds_toArray, set_cons_zero, set_cons_succ]
  refine wpAnyH_ready (rs := [7]) (by kernel_rfl) (by simp) ?_
  refine AllReadyH.cons (o := ⟨some 10, _, _, _, _, _⟩) rfl (fun K hK => ?_) AllReadyH.nil
  go_simp
  refine HC5.out.mono ?_
  rintro e w5 ⟨rfl, b5⟩
  clear hen5 HC5
  have HNOW := Lib.hid (bnextK HNOW.out b5)
  go_wp2_with fail
  refine hK.out _ _ ?_ (fun hHeld => ?_)
  · (try dsimp only); exact HSH.out _ HNOW.out
  clear hK K
  try simp only [Act.put, setIfInBounds_toArray, set_cons_zero, set_cons_succ]
  refine wpAnyH_take (i := 8) (oi := ⟨some 2, _, _, _, _, _⟩) (v := ?_) rfl (by kernel_rfl) (by kernel_rfl) (by kernel_rfl) (fun _ _ _ h => h) (Or.inl ⟨by rfl, ?_⟩) (by assumption) ?_; rotate_left
  · intro w hSw; (try dsimp only at hSw); go_simp; try with_reducible rfl
  try simp only [Act.put, setIfInBounds_toArray, set_cons_zero, set_cons_succ]
  refine wpAnyH_done (by kernel_rfl) ?_ _
  go_wp2_with fail
  go_ret
  exact ⟨rfl, HNOW.out⟩
theorem fence2_any (h : HoldM) (pv : Value) (x : Nm) (p : Nat) (w : World) (hp : w.cell? ⟨p, 0, none⟩ = some (encS x)) (hr : NmRow w pv h.path) (hl : h.path.length ≤ 1000) :
    Calls Tryz.prog 53 #[holdV h pv, .pointer (some ⟨p, 0, none⟩)] w fun e w' => e = .returned (.bool (onB x h)) ∧ Below w.heap.size w w' := by
  obtain ⟨pb, pc, pcs, rfl, _⟩ := id hr
  have hlt := cell_lt hp
  have hc := hr.rd.2
  have HC : Hid (∀ W, Below w.heap.size w W → Calls Tryz.prog 54 #[.slice (some ⟨pb, 0, none⟩) h.path.length pc, encS x] W fun e w' => e = .returned (.bool (onB x h)) ∧ W = w') := Lib.hid fun W hW => by
    have e : onB x h = decide (x ∈ h.path) := by unfold onB; by_cases h1 : x ∈ h.path <;> simp [h1]
    rw [e]
    exact contains_nm _ _ _ h.path x W w.heap.size (by omega) (hc.below hW)
  clear hr hc
  unfold holdV
  generalize onB x h = ob at *
  generalize h.path.length = pl at *
  go_enter Tryz.func53, Tryz.ntmps53
  go_wp2_with fail
  refine (HC.out _ (below_alloc _ _)).mono ?_
  rintro e w2 ⟨rfl, rfl⟩
  go_wp2_with fail
  go_ret
  exact ⟨rfl, below_alloc _ _⟩
theorem NetAt.fence {w w' : World} {N : Nat} {s : NS} {bn bl : Nat} {vh vs : Value} {x : Nm} (h : NetAt w N s bn bl vh vs) (hx : x ∈ s.nodes)
    (hm : MapL strK w' bn s.nodes (fun y => if y = x then some (.bool true) else nodesF s y)) (hg : w.grownBy w' (some bn)) : NetAt w' N (fenS s x) bn bl vh vs := by
  have hc : CK (fun _ => True) w w' := ck_map h.nodes hg
  refine ⟨hc _ _ _ trivial h.blk, hm.same (fun y hy => ?_), h.links.keep (hg.block _ h.links.lt (fun e => h.ne (by injection e with e; exact e.symm))), h.holds.ck hc trivial trivial, h.sents.ck hc trivial trivial trivial trivial trivial, h.ok.to rfl rfl rfl rfl, h.ne⟩
  unfold nodesF fenS
  dsimp only
  by_cases hy : y = x
  · subst hy; simp [hx]
  · by_cases hy2 : y ∈ s.nodes <;> simp [hy, hy2]
def FenceP (N : Nat) (s : NS) (bn bl : Nat) (vh vs : Value) (x : Nm) (w : World) (e : Ending) (w' : World) : Prop :=
  ∃ z, z = fenceE s x ∧ e = .returned (.int .i64 z) ∧ ((z ≠ 0 ∧ NetAt w' N s bn bl vh vs ∧ Below w.heap.size w w') ∨ (z = 0 ∧ (∃ vh', NetAt w' N (dropS (onB x) (fenS s x)) bn bl vh' vs ∧ ∀ k, vh'.ownBlock = some k → w.heap.size ≤ k) ∧ KeepL [N, bn, bl] w w'))
theorem oneE_zero {s : NS} {x : Nm} (h : oneE s x = 0) : namedB x = true ∧ x ∈ s.nodes := by
  unfold oneE at h
  split at h
  · split at h
    · exact ⟨by assumption, by assumption⟩
    · omega
  · omega
set_option maxRecDepth 100000 in
set_option maxHeartbeats 4000000 in
theorem Fence_any {w : World} {N : Nat} {s : NS} {bn bl : Nat} {vh vs : Value} (h : NetAt w N s bn bl vh vs) (hni : NI s) (x : Nm) (hx : x.length ≤ maxLen) :
    Calls Tryz.prog 28 #[.pointer (some ⟨N, 0, none⟩), encS x] w (FenceP N s bn bl vh vs x w) := by
  have hmf : ∀ (fn : Fn) (first cap : Array Value) (w : World), (Instr.makeFunc fn first cap).run Tryz.prog w = .ok (.func fn first cap) w := fun _ _ _ _ => rfl
  obtain ⟨w1, hw1⟩ : ∃ w1, w1 = (w.alloc (.cells #[.pointer (some ⟨N, 0, none⟩)] 24)).alloc (.cells #[encS x] 9) := ⟨_, rfl⟩
  obtain ⟨k0, k1⟩ := boxes2 w #[.pointer (some ⟨N, 0, none⟩)] #[encS x] 24 9
  have hb1 := alloc2_below w (.cells #[.pointer (some ⟨N, 0, none⟩)] 24) (.cells #[encS x] 9)
  rw [← hw1] at k0 k1 hb1
  have h1 := h.far hb1
  have HW1 := Lib.hid hw1; have HB1 := Lib.hid hb1; have H1 := Lib.hid h1; have H := Lib.hid h; have HNI := Lib.hid hni
  have HK0 := Lib.hid k0; have HK1 := Lib.hid k1
  have HO : Hid (∀ W, Below w1.heap.size w1 W → Calls Tryz.prog 51 #[.pointer (some ⟨N, 0, none⟩), encS x] W (CondP (oneE s x) W)) := Lib.hid fun W hW => one_any (h1.far hW) x hx
  have HSH : Hid (∀ W, Below w1.heap.size w1 W → W.cell? ⟨w.heap.size, 0, none⟩ = some (.pointer (some ⟨N, 0, none⟩)) ∧ W.cell? ⟨w.heap.size + 1, 0, none⟩ = some (encS x)) := Lib.hid fun W hW => ⟨by rw [(k0.past hW k0.lt).cell]; rfl, by rw [(k1.past hW k1.lt).cell]; rfl⟩
  have HA : Hid (∀ (W : World) (f1 : Value) (g : Nat), Below w1.heap.size w1 W → CondOK W f1 (oneE s x) → W.heap.size = g →
      Calls Tryz.prog 13 #[.pointer (some ⟨N, 0, none⟩), .slice (some ⟨g, 0, none⟩) 2 2] (W.alloc (.cells #[f1, .func (.func 52) #[] #[.pointer (some ⟨w.heap.size, 0, none⟩), .pointer (some ⟨w.heap.size + 1, 0, none⟩)]] 59))
        (AnsN (fenceE s x) (W.alloc (.cells #[f1, .func (.func 52) #[] #[.pointer (some ⟨w.heap.size, 0, none⟩), .pointer (some ⟨w.heap.size + 1, 0, none⟩)]] 59)))) := Lib.hid fun W f1 g hW q1 hg => by
    refine ask_made (h1.far hW) [(f1, oneE s x), (_, fen1E s x)] _ rfl 2 rfl (by omega) ?_ g hg
    intro y hy
    simp only [List.mem_cons, List.not_mem_nil, or_false] at hy
    rcases hy with rfl | rfl
    · exact q1
    · refine ⟨_, _, rfl, enters_of Tryz.func52 (by kernel_rfl) rfl _, fun W' hW' => ?_⟩
      have hB := bnextK hW hW'
      exact fence1_any (h1.far hB) x hx _ _ (HSH.out W' hB).1 (HSH.out W' hB).2
  have HNOW : Hid (Below w1.heap.size w1 w1.drew) := Lib.hid (Qw.below ⟨1, rfl⟩ _)
  obtain ⟨ev, hev⟩ : ∃ ev, ev = fenceE s x := ⟨_, rfl⟩
  have HEV := Lib.hid hev
  rw [← hev] at HA
  have HX := Lib.hid hx
  clear h h1 hw1 hb1 k0 k1 hev hni hx
  go_enter Tryz.func28, Tryz.ntmps28
  go_wp2_with fail
  rw [← HW1.out]
  clear HW1
  refine wp_region_held_drew (S := (fun W => W.cell? ⟨w.heap.size, 0, none⟩ = some (.pointer (some ⟨N, 0, none⟩)) ∧ W.cell? ⟨w.heap.size + 1, 0, none⟩ = some (encS x))) (by kernel_rfl) ?_ (fun hHeld => ?_)
  · (try dsimp only); first | exact HSH.out _ HNOW.out | exact HSH.out _ (bnextK HNOW.out (below_alloc _ _))
  refine wpAnyH_take (i := 0) (oi := ⟨some 6, _, _, _, _, _⟩) (v := ?_) rfl (by kernel_rfl) (by kernel_rfl) (by kernel_rfl) (fun _ _ _ h => h) (Or.inl ⟨by rfl, ?_⟩) (by assumption) ?_; rotate_left
  · intro w hSw; (try dsimp only at hSw); go_simp; try with_reducible rfl
  try simp only [Act.put, setIfInBounds_toArray, set_cons_zero, set_cons_succ]
  refine wpAnyH_take (i := 1) (oi := ⟨some 7, _, _, _, _, _⟩) (v := ?_) rfl (by kernel_rfl) (by kernel_rfl) (by kernel_rfl) (fun _ _ _ h => h) (Or.inl ⟨by rfl, ?_⟩) (by assumption) ?_; rotate_left
  · intro w hSw; (try dsimp only at hSw); go_simp; try with_reducible rfl
  try simp only [Act.put, setIfInBounds_toArray, set_cons_zero, set_cons_succ]
  refine wpAnyH_take (i := 2) (oi := ⟨some 8, _, _, _, _, _⟩) (v := ?_) rfl (by kernel_rfl) (by kernel_rfl) (by kernel_rfl) (fun _ _ _ h => h) (Or.inl ⟨by rfl, ?_⟩) (by assumption) ?_; rotate_left
  · intro w hSw; (try dsimp only at hSw); go_simp; try with_reducible rfl
  try simp only [Act.put, setIfInBounds_toArray, set_cons_zero, set_cons_succ]
  refine wpAnyH_take (i := 4) (oi := ⟨some 10, _, _, _, _, _⟩) (v := ?_) rfl (by kernel_rfl) (by kernel_rfl) (by kernel_rfl) (fun _ _ _ h => h) (Or.inl ⟨by rfl, ?_⟩) (by assumption) ?_; rotate_left
  · intro w hSw; (try dsimp only at hSw); go_simp; try with_reducible rfl
  try simp only [Act.put, setIfInBounds_toArray, set_cons_zero, set_cons_succ]
  refine wpAnyH_ready (rs := [3]) (by kernel_rfl) (by simp) ?_
  refine AllReadyH.cons (o := ⟨some 9, _, _, _, _, _⟩) rfl (fun K hK => ?_) AllReadyH.nil
  go_simp
  refine (HO.out _ HNOW.out).mono ?_
  rintro e w3 ⟨f3, rfl, k3, b3⟩
  obtain ⟨fn3, cap3, rfl, _⟩ := id k3
  have HNOW := Lib.hid (bnextK HNOW.out b3)
  go_wp2_with fail
  refine hK.out _ _ ?_ (fun hHeld => ?_)
  · (try dsimp only); first | exact HSH.out _ HNOW.out | exact HSH.out _ (bnextK HNOW.out (below_alloc _ _))
  clear hK K
  try simp only [Act.put, setIfInBounds_toArray, set_cons_zero, set_cons_succ]
  refine wpAnyH_ready (rs := [5]) (by kernel_rfl) (by simp) ?_
  refine AllReadyH.cons (o := ⟨some 11, _, _, _, _, _⟩) rfl (fun K hK => ?_) AllReadyH.nil
  go_simp
  refine hK.out _ _ ?_ (fun hHeld => ?_)
  · (try dsimp only); first | exact HSH.out _ HNOW.out | exact HSH.out _ (bnextK HNOW.out (below_alloc _ _))
  clear hK K
  try simp only [Act.put, setIfInBounds_toArray, set_cons_zero, set_cons_succ]
  refine wpAnyH_ready (rs := [6]) (by kernel_rfl) (by simp) ?_
  refine AllReadyH.cons (o := ⟨some 12, _, _, _, _, _⟩) rfl (fun K hK => ?_) AllReadyH.nil
  go_simp
  refine (HA.out _ _ _ HNOW.out k3 rfl).mono ?_
  rintro e w5 ⟨rfl, b5⟩
  have HNOW := Lib.hid (bnextK (bnextK HNOW.out (below_alloc _ _)) b5)
  go_wp2_with fail
  refine hK.out _ _ ?_ (fun hHeld => ?_)
  · (try dsimp only); first | exact HSH.out _ HNOW.out | exact HSH.out _ (bnextK HNOW.out (below_alloc _ _))
  clear hK K
  try simp only [Act.put, setIfInBounds_toArray, set_cons_zero, set_cons_succ]
  refine wpAnyH_take (i := 7) (oi := ⟨some 5, _, _, _, _, _⟩) (v := ?_) rfl (by kernel_rfl) (by kernel_rfl) (by kernel_rfl) (fun _ _ _ h => h) (Or.inl ⟨by rfl, ?_⟩) (by assumption) ?_; rotate_left
  · intro w hSw; (try dsimp only at hSw); go_simp; try with_reducible rfl
  try simp only [Act.put, setIfInBounds_toArray, set_cons_zero, set_cons_succ]
  refine wpAnyH_done (by kernel_rfl) ?_ _
  clear HSH HA HO b3 k3 b5
  have HB5 := Lib.hid (bnextK HB1.out HNOW.out)
  have HN5 := Lib.hid (H1.out.far HNOW.out)
  have HK05 := Lib.hid (HK0.out.past HNOW.out HK0.out.lt)
  have HK15 := Lib.hid (HK1.out.past HNOW.out HK1.out.lt)
  clear HNOW hHeld
  by_cases h0 : ev = 0
  · subst h0
    have hz := firstE2 HEV.out.symm
    have hmem := (oneE_zero hz.1).2
    have HMEM := Lib.hid hmem
    have c0 := HN5.out.blk.cell 0
    have d0 := HK05.out.cell 0
    have d1 := HK15.out.cell 0
    simp only [List.getElem?_toArray, List.getElem?_cons_zero] at c0 d0 d1
    clear hmem hz
    go_wp2_with fail
    refine wp_region_quiet_tail 5 (by kernel_rfl) (by kernel_rfl) ?_
    simp only [List.take_succ_cons, List.take_zero, List.drop_succ_cons, List.drop_zero]
    repeat (quiet_step (fail))
    refine wpQuiet_nil ?_
    intro _ hw'
    obtain ⟨nq, hw''⟩ := hw'
    subst hw''
    have hN7 := HN5.out.far (Qw.below (⟨nq, rfl⟩ : Qw w5 (w5.drewN nq)) w5.heap.size)
    obtain ⟨w6, hr6, hm6, hg6⟩ := hN7.nodes.store Tryz.underlying51 (x := x) HX.out (.bool true) (by have := hN7.ok.nn; omega)
    have hr6 : (Instr.mapUpdate 51 (.map (some bn)) (encS x) (.bool true)).run Tryz.prog (w5.drewN nq) = .ok () w6 := hr6
    rw [if_pos HMEM.out] at hm6
    have HN6 := Lib.hid (hN7.fence HMEM.out hm6 hg6)
    have hcm : CK (fun _ => True) w5 w6 := (CK.of_below (Qw.below (⟨nq, rfl⟩ : Qw w5 (w5.drewN nq)) _)).trans (ck_map hN7.nodes hg6)
    have HK06 := Lib.hid (hcm _ _ _ trivial HK05.out)
    have HK16 := Lib.hid (hcm _ _ _ trivial HK15.out)
    have HK6 : Hid (KeepL [bn] w w6) := Lib.hid ((KeepL.of_below (HB5.out.trans ((Qw.below (⟨nq, rfl⟩ : Qw w5 (w5.drewN nq)) w5.heap.size).mono HB5.out.size))).trans (KeepL.grown hg6 (fun k hk _ => by injection hk with hk; simp [hk])))
    have e0 := HK06.out.cell 0
    simp only [List.getElem?_toArray, List.getElem?_cons_zero] at e0
    have HDR := Lib.hid (drop_any HN6.out (HNI.out.held.to rfl rfl (fun _ _ => rfl)) HNI.out.hl 53 (w.heap.size + 1) (onB x) ⟨fun v W => enters_of Tryz.func53 (by kernel_rfl) rfl _ W, fun W hh pv hW hr hl => by
      have hk := HN6.out.links.ckL hW _ _ _ trivial HK16.out
      exact fence2_any hh pv x _ W (by rw [hk.cell]; rfl) hr hl⟩)
    clear hN7 hm6 hg6 hcm c0 d0 d1
    go_wp2_with fail
    refine HDR.out.mono ?_
    clear HDR
    rintro e w7 ⟨rfl, ⟨vh', hn7, hv7⟩, hk7⟩
    have HN7 := Lib.hid hn7; have HV7 := Lib.hid hv7; have HK7 := Lib.hid hk7
    clear hn7 hv7 hk7
    go_wp2_with fail
    go_ret
    exact ⟨_, HEV.out, rfl, .inr ⟨rfl, ⟨vh', HN7.out, fun k hk => Nat.le_trans HK6.out.size (HV7.out k hk)⟩, (HK6.out.sub (fun k hk => by simp at hk; simp [hk])).trans (HK7.out.sub (fun k hk => by simp at hk; rcases hk with rfl | rfl <;> simp))⟩⟩
  · have heb : (ev != 0) = true := by simpa using h0
    go_wp2_with fail
    go_ret
    exact ⟨_, HEV.out, rfl, .inl ⟨h0, HN5.out, HB5.out⟩⟩
def stk1E (s : NS) (a b : Nm) : Int := if pairOf a b ∈ s.pairs then 0 else 9
def stockE (s : NS) (a b : Nm) : Int := firstE [twoE a b, stk1E s a b]
theorem stockE_zero {s : NS} {a b : Nm} (h : stockE s a b = 0) : pairOf a b ∈ s.pairs := by
  have := (firstE2 h).2
  unfold stk1E at this
  split at this
  · assumption
  · omega
theorem fld_stock (x1 x2 x3 x4 x5 x6 x7 : Int) (w : World) : (Instr.field 66 (.agg #[.int .i64 x1, .int .i64 x2, .int .i64 x3, .int .i64 x4, .int .i64 x5, .int .i64 x6, .int .i64 x7]) 1).run Tryz.prog w = .ok (.agg #[.int .i64 x5, .int .i64 x6, .int .i64 x7]) w := by kernel_rfl
theorem keepL_setRow9 (w : World) (g : Nat) (cs : Array Value) : KeepL [g] w (w.setRow g cs) := ⟨rfl, rfl, rfl, by simp [World.setRow], fun k hk hL => setRow_other w g k cs (by simpa using hL)⟩
set_option maxRecDepth 100000 in
set_option maxHeartbeats 4000000 in
theorem stock1_any {w : World} {N : Nat} {s : NS} {bn bl : Nat} {vh vs : Value} (h : NetAt w N s bn bl vh vs) (a b : Nm) (ha : a.length ≤ maxLen) (hb : b.length ≤ maxLen) (p0 p1 p2 : Nat)
    (h0 : w.cell? ⟨p0, 0, none⟩ = some (.pointer (some ⟨N, 0, none⟩))) (h1 : w.cell? ⟨p1, 0, none⟩ = some (encS a)) (h2 : w.cell? ⟨p2, 0, none⟩ = some (encS b)) :
    Calls Tryz.prog 29 #[.pointer (some ⟨p0, 0, none⟩), .pointer (some ⟨p1, 0, none⟩), .pointer (some ⟨p2, 0, none⟩)] w (AnsN (stk1E s a b) w) := by
  have hpl := pairOf_len a b ha hb
  have HB := Lib.hid (fun W => between_any a b W)
  have HU : Hid (∀ (ok : Bool) w, ok = decide (pairOf a b ∈ s.pairs) → Calls Tryz.prog 14 #[.bool (!ok), .int .i64 9] w (CondP (stk1E s a b) w)) := Lib.hid fun ok w hm => unless_P _ 9 _ w (by
    subst hm
    unfold stk1E
    by_cases h1 : pairOf a b ∈ s.pairs <;> simp [h1])
  have HS0 : Hid (∀ W, Below w.heap.size w W → W.cell? ⟨p0, 0, none⟩ = some (.pointer (some ⟨N, 0, none⟩)) ∧ W.cell? ⟨p1, 0, none⟩ = some (encS a) ∧ W.cell? ⟨p2, 0, none⟩ = some (encS b) ∧ W.cell? ⟨N, 1, none⟩ = some (.map (some bl)) ∧
      (Instr.lookup 52 (.map (some bl)) (.agg #[encS (pairOf a b).1, encS (pairOf a b).2]) true).run Tryz.prog W = .ok (.tuple #[lkV (if pairOf a b ∈ s.pairs then s.lk (pairOf a b) else lk0), .bool (decide (pairOf a b ∈ s.pairs))]) W ∧ Below w.heap.size w W) := Lib.hid fun W hW => by
    have c1 := (h.far hW).blk.cell 1
    simp only [List.getElem?_toArray, List.getElem?_cons_succ, List.getElem?_cons_zero] at c1
    exact ⟨(hW.cell (p := ⟨p0, 0, none⟩) (cell_lt h0)).trans h0, (hW.cell (p := ⟨p1, 0, none⟩) (cell_lt h1)).trans h1, (hW.cell (p := ⟨p2, 0, none⟩) (cell_lt h2)).trans h2, c1, links_look (h.far hW) (pairOf a b) hpl true, hW⟩
  have HNOW : Hid (Below w.heap.size w w.drew) := Lib.hid (Qw.below ⟨1, rfl⟩ _)
  have hLK : ∃ q : LkV, q = if pairOf a b ∈ s.pairs then s.lk (pairOf a b) else lk0 := ⟨_, rfl⟩
  obtain ⟨lq, hlq⟩ := hLK
  rw [← hlq] at HS0
  clear hlq
  obtain ⟨x1, x2, x3, x4, x5, x6, x7⟩ := lq
  simp only [lkV] at HS0
  generalize stk1E s a b = ev at *
  obtain ⟨ok, hok⟩ : ∃ ok, ok = decide (pairOf a b ∈ s.pairs) := ⟨_, rfl⟩
  rw [← hok] at HS0
  have HU2 : Hid (∀ w, Calls Tryz.prog 14 #[.bool (!ok), .int .i64 9] w (CondP ev w)) := Lib.hid fun w => HU.out ok w hok
  generalize pairOf a b = q at *
  clear hok h h0 h1 h2 HU
  go_enter Tryz.func29, Tryz.ntmps29
  go_wp2_with fail
  refine wp_region_held_drew (S := (fun W => W.cell? ⟨p0, 0, none⟩ = some (.pointer (some ⟨N, 0, none⟩)) ∧ W.cell? ⟨p1, 0, none⟩ = some (encS a) ∧ W.cell? ⟨p2, 0, none⟩ = some (encS b) ∧ W.cell? ⟨N, 1, none⟩ = some (.map (some bl)) ∧ (Instr.lookup 52 (.map (some bl)) (.agg #[encS q.1, encS q.2]) true).run Tryz.prog W = .ok (.tuple #[.agg #[.int .i64 x1, .int .i64 x2, .int .i64 x3, .int .i64 x4, .int .i64 x5, .int .i64 x6, .int .i64 x7], .bool ok]) W ∧ Below w.heap.size w W)) (by kernel_rfl) ?_ (fun hHeld => ?_)
  · (try dsimp only); first | exact HS0.out _ HNOW.out | exact HS0.out _ (below_alloc_drew _ _) | exact HS0.out _ (bnextK HNOW.out (below_alloc _ _))
  refine wpAnyH_take (i := 0) (oi := ⟨some 7, _, _, _, _, _⟩) (v := ?_) rfl (by kernel_rfl) (by kernel_rfl) (by kernel_rfl) (fun _ _ _ h => h) (Or.inl ⟨by rfl, ?_⟩) (by assumption) ?_; rotate_left
  · intro w hSw; (try dsimp only at hSw); go_simp; try with_reducible rfl
  try simp only [Act.put, setIfInBounds_toArray, set_cons_zero, set_cons_succ]
  refine wpAnyH_take (i := 1) (oi := ⟨some 8, _, _, _, _, _⟩) (v := ?_) rfl (by kernel_rfl) (by kernel_rfl) (by kernel_rfl) (fun _ _ _ h => h) (Or.inl ⟨by rfl, ?_⟩) (by assumption) ?_; rotate_left
  · intro w hSw; (try dsimp only at hSw); go_simp; try with_reducible rfl
  try simp only [Act.put, setIfInBounds_toArray, set_cons_zero, set_cons_succ]
  refine wpAnyH_take (i := 2) (oi := ⟨some 9, _, _, _, _, _⟩) (v := ?_) rfl (by kernel_rfl) (by kernel_rfl) (by kernel_rfl) (fun _ _ _ h => h) (Or.inl ⟨by rfl, ?_⟩) (by assumption) ?_; rotate_left
  · intro w hSw; (try dsimp only at hSw); go_simp; try with_reducible rfl
  try simp only [Act.put, setIfInBounds_toArray, set_cons_zero, set_cons_succ]
  refine wpAnyH_take (i := 3) (oi := ⟨some 10, _, _, _, _, _⟩) (v := ?_) rfl (by kernel_rfl) (by kernel_rfl) (by kernel_rfl) (fun _ _ _ h => h) (Or.inl ⟨by rfl, ?_⟩) (by assumption) ?_; rotate_left
  · intro w hSw; (try dsimp only at hSw); go_simp; try with_reducible rfl
  try simp only [Act.put, setIfInBounds_toArray, set_cons_zero, set_cons_succ]
  refine wpAnyH_take (i := 4) (oi := ⟨some 11, _, _, _, _, _⟩) (v := ?_) rfl (by kernel_rfl) (by kernel_rfl) (by kernel_rfl) (fun _ _ _ h => h) (Or.inl ⟨by rfl, ?_⟩) (by assumption) ?_; rotate_left
  · intro w hSw; (try dsimp only at hSw); go_simp; try with_reducible rfl
  try simp only [Act.put, setIfInBounds_toArray, set_cons_zero, set_cons_succ]
  refine wpAnyH_take (i := 5) (oi := ⟨some 12, _, _, _, _, _⟩) (v := ?_) rfl (by kernel_rfl) (by kernel_rfl) (by kernel_rfl) (fun _ _ _ h => h) (Or.inl ⟨by rfl, ?_⟩) (by assumption) ?_; rotate_left
  · intro w hSw; (try dsimp only at hSw); go_simp; try with_reducible rfl
  try simp only [Act.put, setIfInBounds_toArray, set_cons_zero, set_cons_succ]
  refine wpAnyH_ready (rs := [6, 11]) (by kernel_rfl) (by simp) ?_
  refine AllReadyH.cons (o := ⟨some 13, _, _, _, _, _⟩) rfl (fun K hK => ?_) ?_
  · skip
    go_simp
    refine (HB.out _).mono ?_
    rintro e w3 ⟨rfl, b3⟩
    have HNOW := Lib.hid (bnextK HNOW.out b3)
    go_wp2_with fail
    refine hK.out _ _ ?_ (fun hHeld => ?_)
    · (try dsimp only); first | exact HS0.out _ HNOW.out | exact HS0.out _ (below_alloc_drew _ _) | exact HS0.out _ (bnextK HNOW.out (below_alloc _ _))
    clear hK K
    try simp only [Act.put, setIfInBounds_toArray, set_cons_zero, set_cons_succ]
    refine wpAnyH_take (i := 7) (oi := ⟨some 14, _, _, _, _, _⟩) (v := ?_) rfl (by kernel_rfl) (by kernel_rfl) (by kernel_rfl) (fun _ _ _ h => h) (Or.inl ⟨by rfl, ?_⟩) (by assumption) ?_; rotate_left
    · intro w hSw; (try dsimp only at hSw); go_simp; try with_reducible rfl
    try simp only [Act.put, setIfInBounds_toArray, set_cons_zero, set_cons_succ]
    refine wpAnyH_take (i := 8) (oi := ⟨some 6, _, _, _, _, _⟩) (v := ?_) rfl (by kernel_rfl) (by kernel_rfl) (by kernel_rfl) (fun _ _ _ h => h) (Or.inl ⟨by rfl, ?_⟩) (by assumption) ?_; rotate_left
    · intro w hSw; (try dsimp only at hSw); go_simp; try with_reducible rfl
    try simp only [Act.put, setIfInBounds_toArray, set_cons_zero, set_cons_succ]
    refine wpAnyH_take (i := 9) (oi := ⟨some 15, _, _, _, _, _⟩) (v := ?_) rfl (by kernel_rfl) (by kernel_rfl) (by kernel_rfl) (fun _ _ _ h => h) (Or.inl ⟨by rfl, ?_⟩) (by assumption) ?_; rotate_left
    · intro w hSw; (try dsimp only at hSw); go_simp; try with_reducible rfl
    try simp only [Act.put, setIfInBounds_toArray, set_cons_zero, set_cons_succ]
    refine wpAnyH_take (i := 10) (oi := ⟨some 16, _, _, _, _, _⟩) (v := ?_) rfl (by kernel_rfl) (by kernel_rfl) (by kernel_rfl) (fun _ _ _ h => h) (Or.inl ⟨by rfl, ?_⟩) (by assumption) ?_; rotate_left
    · intro w hSw; (try dsimp only at hSw); go_simp; try with_reducible rfl
    try simp only [Act.put, setIfInBounds_toArray, set_cons_zero, set_cons_succ]
    refine wpAnyH_ready (rs := [11]) (by kernel_rfl) (by simp) ?_
    refine AllReadyH.cons (o := ⟨some 4, _, _, _, _, _⟩) rfl (fun K hK => ?_) AllReadyH.nil
    go_simp
    refine hK.out _ _ ?_ (fun hHeld => ?_)
    · (try dsimp only); first | exact HS0.out _ HNOW.out | exact HS0.out _ (below_alloc_drew _ _) | exact HS0.out _ (bnextK HNOW.out (below_alloc _ _))
    clear hK K
    try simp only [Act.put, setIfInBounds_toArray, set_cons_zero, set_cons_succ]
    refine wpAnyH_ready (rs := [12]) (by kernel_rfl) (by simp) ?_
    refine AllReadyH.cons (o := ⟨none, _, _, _, _, _⟩) rfl (fun K hK => ?_) AllReadyH.nil
    refine step_store_row 66 _ _ rfl rfl _ #[.int .i64 x1, .int .i64 x2, .int .i64 x3, .int .i64 x4, .int .i64 x5, .int .i64 x6, .int .i64 x7] rfl rfl _ _ (Bk.new _ _ _) rfl rfl (by simp [Value.oneCell']) ?_
    rw [World.setRow_alloc_new]
    have HNOW := Lib.hid (bnextK HNOW.out (below_alloc w3 (.cells #[.int .i64 x1, .int .i64 x2, .int .i64 x3, .int .i64 x4, .int .i64 x5, .int .i64 x6, .int .i64 x7] 66)))
    refine hK.out _ _ ?_ (fun hHeld => ?_)
    · (try dsimp only); first | exact HS0.out _ HNOW.out | exact HS0.out _ (below_alloc_drew _ _) | exact HS0.out _ (bnextK HNOW.out (below_alloc _ _))
    clear hK K
    try simp only [Act.put]
    refine wpAnyH_take (i := 13) (oi := ⟨some 5, _, _, _, _, _⟩) (v := ?_) rfl (by kernel_rfl) (by kernel_rfl) (by kernel_rfl) (fun _ _ _ h => h) (Or.inl ⟨by rfl, ?_⟩) (by assumption) ?_; rotate_left
    · intro w hSw; (try dsimp only at hSw); go_simp; try with_reducible rfl
    try simp only [Act.put, setIfInBounds_toArray, set_cons_zero, set_cons_succ]
    refine wpAnyH_done (by kernel_rfl) ?_ _
    go_wp2_with fail
    refine (HU2.out _).mono ?_
    rintro e w4 ⟨f, rfl, ⟨fn, cap, rfl, hen, hcl⟩, hb4⟩
    have HC := Lib.hid (hcl w4 (Below.refl _ _)); have HB4 := Lib.hid (bnextK HNOW.out hb4)
    have hen1 := hen w4
    clear hen hcl hb4
    go_wp2_with fail
    refine HC.out.mono ?_
    clear HC hen1
    rintro e w5 ⟨rfl, hb5⟩
    have HB5 := Lib.hid hb5; clear hb5
    go_wp2_with fail
    go_ret
    exact ⟨rfl, bnextK HB4.out HB5.out⟩
  refine AllReadyH.cons (o := ⟨some 4, _, _, _, _, _⟩) rfl (fun K hK => ?_) AllReadyH.nil
  go_simp
  refine hK.out _ _ ?_ (fun hHeld => ?_)
  · (try dsimp only); first | exact HS0.out _ HNOW.out | exact HS0.out _ (below_alloc_drew _ _) | exact HS0.out _ (bnextK HNOW.out (below_alloc _ _))
  clear hK K
  try simp only [Act.put, setIfInBounds_toArray, set_cons_zero, set_cons_succ]
  refine wpAnyH_ready (rs := [6]) (by kernel_rfl) (by simp) ?_
  refine AllReadyH.cons (o := ⟨some 13, _, _, _, _, _⟩) rfl (fun K hK => ?_) AllReadyH.nil
  go_simp
  refine (HB.out _).mono ?_
  rintro e w3 ⟨rfl, b3⟩
  have KB := Lib.hid ((box_drew w _ _).past b3 (box_drew w _ _).lt)
  have HNOW := Lib.hid (bnextK (below_alloc_drew w _) b3)
  go_wp2_with fail
  refine hK.out _ _ ?_ (fun hHeld => ?_)
  · (try dsimp only); first | exact HS0.out _ HNOW.out | exact HS0.out _ (below_alloc_drew _ _) | exact HS0.out _ (bnextK HNOW.out (below_alloc _ _))
  clear hK K
  try simp only [Act.put, setIfInBounds_toArray, set_cons_zero, set_cons_succ]
  refine wpAnyH_take (i := 7) (oi := ⟨some 14, _, _, _, _, _⟩) (v := ?_) rfl (by kernel_rfl) (by kernel_rfl) (by kernel_rfl) (fun _ _ _ h => h) (Or.inl ⟨by rfl, ?_⟩) (by assumption) ?_; rotate_left
  · intro w hSw; (try dsimp only at hSw); go_simp; try with_reducible rfl
  try simp only [Act.put, setIfInBounds_toArray, set_cons_zero, set_cons_succ]
  refine wpAnyH_take (i := 8) (oi := ⟨some 6, _, _, _, _, _⟩) (v := ?_) rfl (by kernel_rfl) (by kernel_rfl) (by kernel_rfl) (fun _ _ _ h => h) (Or.inl ⟨by rfl, ?_⟩) (by assumption) ?_; rotate_left
  · intro w hSw; (try dsimp only at hSw); go_simp; try with_reducible rfl
  try simp only [Act.put, setIfInBounds_toArray, set_cons_zero, set_cons_succ]
  refine wpAnyH_take (i := 9) (oi := ⟨some 15, _, _, _, _, _⟩) (v := ?_) rfl (by kernel_rfl) (by kernel_rfl) (by kernel_rfl) (fun _ _ _ h => h) (Or.inl ⟨by rfl, ?_⟩) (by assumption) ?_; rotate_left
  · intro w hSw; (try dsimp only at hSw); go_simp; try with_reducible rfl
  try simp only [Act.put, setIfInBounds_toArray, set_cons_zero, set_cons_succ]
  refine wpAnyH_take (i := 10) (oi := ⟨some 16, _, _, _, _, _⟩) (v := ?_) rfl (by kernel_rfl) (by kernel_rfl) (by kernel_rfl) (fun _ _ _ h => h) (Or.inl ⟨by rfl, ?_⟩) (by assumption) ?_; rotate_left
  · intro w hSw; (try dsimp only at hSw); go_simp; try with_reducible rfl
  try simp only [Act.put, setIfInBounds_toArray, set_cons_zero, set_cons_succ]
  refine wpAnyH_ready (rs := [12]) (by kernel_rfl) (by simp) ?_
  refine AllReadyH.cons (o := ⟨none, _, _, _, _, _⟩) rfl (fun K hK => ?_) AllReadyH.nil
  refine step_store_row 66 _ _ rfl rfl w.heap.size #[.int .i64 x1, .int .i64 x2, .int .i64 x3, .int .i64 x4, .int .i64 x5, .int .i64 x6, .int .i64 x7] rfl rfl _ _ KB.out rfl rfl (by simp [Value.oneCell']) ?_
  have HNOW := Lib.hid (HNOW.out.trans (below_setRow (cs := #[.int .i64 x1, .int .i64 x2, .int .i64 x3, .int .i64 x4, .int .i64 x5, .int .i64 x6, .int .i64 x7]) (Nat.le_refl _)))
  refine hK.out _ _ ?_ (fun hHeld => ?_)
  · (try dsimp only); first | exact HS0.out _ HNOW.out | exact HS0.out _ (below_alloc_drew _ _) | exact HS0.out _ (bnextK HNOW.out (below_alloc _ _))
  clear hK K
  try simp only [Act.put]
  refine wpAnyH_take (i := 13) (oi := ⟨some 5, _, _, _, _, _⟩) (v := ?_) rfl (by kernel_rfl) (by kernel_rfl) (by kernel_rfl) (fun _ _ _ h => h) (Or.inl ⟨by rfl, ?_⟩) (by assumption) ?_; rotate_left
  · intro w hSw; (try dsimp only at hSw); go_simp; try with_reducible rfl
  try simp only [Act.put, setIfInBounds_toArray, set_cons_zero, set_cons_succ]
  refine wpAnyH_done (by kernel_rfl) ?_ _
  go_wp2_with fail
  refine (HU2.out _).mono ?_
  rintro e w4 ⟨f, rfl, ⟨fn, cap, rfl, hen, hcl⟩, hb4⟩
  have HC := Lib.hid (hcl w4 (Below.refl _ _)); have HB4 := Lib.hid (bnextK HNOW.out hb4)
  have hen1 := hen w4
  clear hen hcl hb4
  go_wp2_with fail
  refine HC.out.mono ?_
  clear HC hen1
  rintro e w5 ⟨rfl, hb5⟩
  have HB5 := Lib.hid hb5; clear hb5
  go_wp2_with fail
  go_ret
  exact ⟨rfl, bnextK HB4.out HB5.out⟩
def StockP (s : NS) (a b : Nm) (w : World) (e : Ending) (w' : World) : Prop :=
  (∃ f h sp z : Int, e = .returned (.tuple #[.agg #[.int .i64 f, .int .i64 h, .int .i64 sp], .int .i64 z]) ∧ z = stockE s a b ∧ (z ≠ 0 → f = 0 ∧ h = 0 ∧ sp = 0) ∧ (z = 0 → f = (s.lk (pairOf a b)).free ∧ h = (s.lk (pairOf a b)).held ∧ sp = (s.lk (pairOf a b)).spent)) ∧ Below w.heap.size w w'
set_option maxRecDepth 100000 in
set_option maxHeartbeats 4000000 in
theorem Stock_any {w : World} {N : Nat} {s : NS} {bn bl : Nat} {vh vs : Value} (h : NetAt w N s bn bl vh vs) (a b : Nm) (ha : a.length ≤ maxLen) (hb : b.length ≤ maxLen) :
    Calls Tryz.prog 10 #[.pointer (some ⟨N, 0, none⟩), encS a, encS b] w (StockP s a b w) := by
  have hmf : ∀ (fn : Fn) (first cap : Array Value) (w : World), (Instr.makeFunc fn first cap).run Tryz.prog w = .ok (.func fn first cap) w := fun _ _ _ _ => rfl
  obtain ⟨w1, hw1⟩ : ∃ w1, w1 = (((w.alloc (.cells #[.pointer (some ⟨N, 0, none⟩)] 24)).alloc (.cells #[encS a] 9)).alloc (.cells #[encS b] 9)).alloc (.cells #[.int .i64 0, .int .i64 0, .int .i64 0] 45) := ⟨_, rfl⟩
  obtain ⟨k0, k1, k2, k3⟩ := boxes4 w #[.pointer (some ⟨N, 0, none⟩)] #[encS a] #[encS b] #[.int .i64 0, .int .i64 0, .int .i64 0] 24 9 9 45
  have hb1 : Below w.heap.size w w1 := by rw [hw1]; exact bnextK (alloc3_below w _ _ _) (below_alloc _ _)
  rw [← hw1] at k0 k1 k2 k3
  have h1 := h.far hb1
  have HW1 := Lib.hid hw1; have HB1 := Lib.hid hb1; have H1 := Lib.hid h1
  have HK3 := Lib.hid k3
  have hpl := pairOf_len a b ha hb
  have HB := Lib.hid (fun W => between_any a b W)
  have HT := Lib.hid (fun W => twoNames_any a b W)
  have HSH : Hid (∀ W, KeepL [w.heap.size + 1 + 1 + 1] w1 W → W.cell? ⟨w.heap.size, 0, none⟩ = some (.pointer (some ⟨N, 0, none⟩)) ∧ W.cell? ⟨w.heap.size + 1, 0, none⟩ = some (encS a) ∧ W.cell? ⟨w.heap.size + 1 + 1, 0, none⟩ = some (encS b) ∧ W.cell? ⟨N, 1, none⟩ = some (.map (some bl)) ∧
      (Instr.lookup 52 (.map (some bl)) (.agg #[encS (pairOf a b).1, encS (pairOf a b).2]) false).run Tryz.prog W = .ok (lkV (if pairOf a b ∈ s.pairs then s.lk (pairOf a b) else lk0)) W) := Lib.hid fun W hW => by
    have hb : Below w.heap.size w W := hb1.trans (hW.below hb1.size (fun k hk => by simp only [List.mem_singleton] at hk; omega))
    have c1 := (h.far hb).blk.cell 1
    simp only [List.getElem?_toArray, List.getElem?_cons_succ, List.getElem?_cons_zero] at c1
    exact ⟨by rw [(k0.keepL hW (by simp only [List.mem_singleton]; omega)).cell]; rfl, by rw [(k1.keepL hW (by simp only [List.mem_singleton]; omega)).cell]; rfl, by rw [(k2.keepL hW (by simp only [List.mem_singleton]; omega)).cell]; rfl, c1, links_look (h.far hb) (pairOf a b) hpl false⟩
  have HA : Hid (∀ (W : World) (f1 : Value) (g : Nat), Below w1.heap.size w1 W → CondOK W f1 (twoE a b) → W.heap.size = g →
      Calls Tryz.prog 13 #[.pointer (some ⟨N, 0, none⟩), .slice (some ⟨g, 0, none⟩) 2 2] (W.alloc (.cells #[f1, .func (.func 29) #[] #[.pointer (some ⟨w.heap.size, 0, none⟩), .pointer (some ⟨w.heap.size + 1, 0, none⟩), .pointer (some ⟨w.heap.size + 1 + 1, 0, none⟩)]] 59))
        (AnsN (stockE s a b) (W.alloc (.cells #[f1, .func (.func 29) #[] #[.pointer (some ⟨w.heap.size, 0, none⟩), .pointer (some ⟨w.heap.size + 1, 0, none⟩), .pointer (some ⟨w.heap.size + 1 + 1, 0, none⟩)]] 59)))) := Lib.hid fun W f1 g hW q1 hg => by
    refine ask_made (h1.far hW) [(f1, twoE a b), (_, stk1E s a b)] _ rfl 2 rfl (by omega) ?_ g hg
    intro y hy
    simp only [List.mem_cons, List.not_mem_nil, or_false] at hy
    rcases hy with rfl | rfl
    · exact q1
    · refine ⟨_, _, rfl, enters_of Tryz.func29 (by kernel_rfl) rfl _, fun W' hW' => ?_⟩
      have hB := bnextK hW hW'
      have hs := HSH.out W' (KeepL.of_below hB)
      exact stock1_any (h1.far hB) a b ha hb _ _ _ hs.1 hs.2.1 hs.2.2.1
  have HNOW : Hid (Below w1.heap.size w1 w1.drew) := Lib.hid (Qw.below ⟨1, rfl⟩ _)
  obtain ⟨ev, hev⟩ : ∃ ev, ev = stockE s a b := ⟨_, rfl⟩
  have HEV := Lib.hid hev
  rw [← hev] at HA
  have HQ : Hid (ev = 0 → (if pairOf a b ∈ s.pairs then s.lk (pairOf a b) else lk0) = s.lk (pairOf a b)) := Lib.hid fun e => if_pos (stockE_zero (hev.symm.trans e))
  have hLK : ∃ q : LkV, q = if pairOf a b ∈ s.pairs then s.lk (pairOf a b) else lk0 := ⟨_, rfl⟩
  obtain ⟨lq, hlq⟩ := hLK
  rw [← hlq] at HSH HQ
  clear hlq h h1 hw1 hb1 k0 k1 k2 k3 hev ha hb hpl H1
  obtain ⟨x1, x2, x3, x4, x5, x6, x7⟩ := lq
  simp only [lkV] at HSH
  obtain ⟨q, hq⟩ : ∃ q, q = pairOf a b := ⟨_, rfl⟩
  have HQQ := Lib.hid hq
  rw [← hq] at HB HSH
  clear hq
  go_enter Tryz.func10, Tryz.ntmps10
  go_wp2_with fail
  rw [← HW1.out]
  clear HW1
  refine wp_region_held_drew (S := (fun W => W.cell? ⟨w.heap.size, 0, none⟩ = some (.pointer (some ⟨N, 0, none⟩)) ∧ W.cell? ⟨w.heap.size + 1, 0, none⟩ = some (encS a) ∧ W.cell? ⟨w.heap.size + 1 + 1, 0, none⟩ = some (encS b) ∧ W.cell? ⟨N, 1, none⟩ = some (.map (some bl)) ∧ (Instr.lookup 52 (.map (some bl)) (.agg #[encS q.1, encS q.2]) false).run Tryz.prog W = .ok (.agg #[.int .i64 x1, .int .i64 x2, .int .i64 x3, .int .i64 x4, .int .i64 x5, .int .i64 x6, .int .i64 x7]) W)) (by kernel_rfl) ?_ (fun hHeld => ?_)
  · (try dsimp only); first | exact HSH.out _ (KeepL.of_below HNOW.out) | exact HSH.out _ (KeepL.of_below (bnextK HNOW.out (below_alloc _ _))) | exact HSH.out _ HW9.out
  refine wpAnyH_take (i := 0) (oi := ⟨some 9, _, _, _, _, _⟩) (v := ?_) rfl (by kernel_rfl) (by kernel_rfl) (by kernel_rfl) (fun _ _ _ h => h) (Or.inl ⟨by rfl, ?_⟩) (by assumption) ?_; rotate_left
  · intro w hSw; (try dsimp only at hSw); go_simp; try with_reducible rfl
  try simp only [Act.put, setIfInBounds_toArray, set_cons_zero, set_cons_succ]
  refine wpAnyH_take (i := 1) (oi := ⟨some 10, _, _, _, _, _⟩) (v := ?_) rfl (by kernel_rfl) (by kernel_rfl) (by kernel_rfl) (fun _ _ _ h => h) (Or.inl ⟨by rfl, ?_⟩) (by assumption) ?_; rotate_left
  · intro w hSw; (try dsimp only at hSw); go_simp; try with_reducible rfl
  try simp only [Act.put, setIfInBounds_toArray, set_cons_zero, set_cons_succ]
  refine wpAnyH_take (i := 2) (oi := ⟨some 11, _, _, _, _, _⟩) (v := ?_) rfl (by kernel_rfl) (by kernel_rfl) (by kernel_rfl) (fun _ _ _ h => h) (Or.inl ⟨by rfl, ?_⟩) (by assumption) ?_; rotate_left
  · intro w hSw; (try dsimp only at hSw); go_simp; try with_reducible rfl
  try simp only [Act.put, setIfInBounds_toArray, set_cons_zero, set_cons_succ]
  refine wpAnyH_take (i := 4) (oi := ⟨some 13, _, _, _, _, _⟩) (v := ?_) rfl (by kernel_rfl) (by kernel_rfl) (by kernel_rfl) (fun _ _ _ h => h) (Or.inl ⟨by rfl, ?_⟩) (by assumption) ?_; rotate_left
  · intro w hSw; (try dsimp only at hSw); go_simp; try with_reducible rfl
  try simp only [Act.put, setIfInBounds_toArray, set_cons_zero, set_cons_succ]
  refine wpAnyH_ready (rs := [3]) (by kernel_rfl) (by simp) ?_
  refine AllReadyH.cons (o := ⟨some 12, _, _, _, _, _⟩) rfl (fun K hK => ?_) AllReadyH.nil
  go_simp
  refine (HT.out _).mono ?_
  rintro e w3 ⟨f3, rfl, k3, b3⟩
  obtain ⟨fn3, cap3, rfl, _⟩ := id k3
  have HNOW := Lib.hid (bnextK HNOW.out b3)
  go_wp2_with fail
  refine hK.out _ _ ?_ (fun hHeld => ?_)
  · (try dsimp only); first | exact HSH.out _ (KeepL.of_below HNOW.out) | exact HSH.out _ (KeepL.of_below (bnextK HNOW.out (below_alloc _ _))) | exact HSH.out _ HW9.out
  clear hK K
  try simp only [Act.put, setIfInBounds_toArray, set_cons_zero, set_cons_succ]
  refine wpAnyH_ready (rs := [5]) (by kernel_rfl) (by simp) ?_
  refine AllReadyH.cons (o := ⟨some 14, _, _, _, _, _⟩) rfl (fun K hK => ?_) AllReadyH.nil
  go_simp
  refine hK.out _ _ ?_ (fun hHeld => ?_)
  · (try dsimp only); first | exact HSH.out _ (KeepL.of_below HNOW.out) | exact HSH.out _ (KeepL.of_below (bnextK HNOW.out (below_alloc _ _))) | exact HSH.out _ HW9.out
  clear hK K
  try simp only [Act.put, setIfInBounds_toArray, set_cons_zero, set_cons_succ]
  refine wpAnyH_ready (rs := [6]) (by kernel_rfl) (by simp) ?_
  refine AllReadyH.cons (o := ⟨some 15, _, _, _, _, _⟩) rfl (fun K hK => ?_) AllReadyH.nil
  go_simp
  refine (HA.out _ _ _ HNOW.out k3 rfl).mono ?_
  rintro e w5 ⟨rfl, b5⟩
  have HNOW := Lib.hid (bnextK (bnextK HNOW.out (below_alloc _ _)) b5)
  go_wp2_with fail
  refine hK.out _ _ ?_ (fun hHeld => ?_)
  · (try dsimp only); first | exact HSH.out _ (KeepL.of_below HNOW.out) | exact HSH.out _ (KeepL.of_below (bnextK HNOW.out (below_alloc _ _))) | exact HSH.out _ HW9.out
  clear hK K
  try simp only [Act.put, setIfInBounds_toArray, set_cons_zero, set_cons_succ]
  refine wpAnyH_take (i := 7) (oi := ⟨some 8, _, _, _, _, _⟩) (v := ?_) rfl (by kernel_rfl) (by kernel_rfl) (by kernel_rfl) (fun _ _ _ h => h) (Or.inl ⟨by rfl, ?_⟩) (by assumption) ?_; rotate_left
  · intro w hSw; (try dsimp only at hSw); go_simp; try with_reducible rfl
  try simp only [Act.put, setIfInBounds_toArray, set_cons_zero, set_cons_succ]
  refine wpAnyH_done (by kernel_rfl) ?_ _
  clear HA HT b3 k3 b5 hHeld
  have HB5 := Lib.hid (bnextK HB1.out HNOW.out)
  by_cases h0 : ev = 0
  · subst h0
    obtain ⟨d0, d1, d2, n1, hl5⟩ := HSH.out _ (KeepL.of_below HNOW.out)
    go_wp2_with fail
    have HNOW : Hid (Below w1.heap.size w1 w5.drew) := Lib.hid (bnextK HNOW.out (Qw.below ⟨1, rfl⟩ _))
    refine wp_region_held_drew (S := (fun W => W.cell? ⟨w.heap.size, 0, none⟩ = some (.pointer (some ⟨N, 0, none⟩)) ∧ W.cell? ⟨w.heap.size + 1, 0, none⟩ = some (encS a) ∧ W.cell? ⟨w.heap.size + 1 + 1, 0, none⟩ = some (encS b) ∧ W.cell? ⟨N, 1, none⟩ = some (.map (some bl)) ∧ (Instr.lookup 52 (.map (some bl)) (.agg #[encS q.1, encS q.2]) false).run Tryz.prog W = .ok (.agg #[.int .i64 x1, .int .i64 x2, .int .i64 x3, .int .i64 x4, .int .i64 x5, .int .i64 x6, .int .i64 x7]) W)) (by kernel_rfl) ?_ (fun hHeld => ?_)
    · (try dsimp only); first | exact HSH.out _ (KeepL.of_below HNOW.out) | exact HSH.out _ (KeepL.of_below (bnextK HNOW.out (below_alloc _ _))) | exact HSH.out _ HW9.out
    refine wpAnyH_take (i := 0) (oi := ⟨some 20, _, _, _, _, _⟩) (v := ?_) rfl (by kernel_rfl) (by kernel_rfl) (by kernel_rfl) (fun _ _ _ h => h) (Or.inl ⟨by rfl, ?_⟩) (by assumption) ?_; rotate_left
    · intro w hSw; (try dsimp only at hSw); go_simp; try with_reducible rfl
    try simp only [Act.put, setIfInBounds_toArray, set_cons_zero, set_cons_succ]
    refine wpAnyH_take (i := 1) (oi := ⟨some 21, _, _, _, _, _⟩) (v := ?_) rfl (by kernel_rfl) (by kernel_rfl) (by kernel_rfl) (fun _ _ _ h => h) (Or.inl ⟨by rfl, ?_⟩) (by assumption) ?_; rotate_left
    · intro w hSw; (try dsimp only at hSw); go_simp; try with_reducible rfl
    try simp only [Act.put, setIfInBounds_toArray, set_cons_zero, set_cons_succ]
    refine wpAnyH_take (i := 2) (oi := ⟨some 22, _, _, _, _, _⟩) (v := ?_) rfl (by kernel_rfl) (by kernel_rfl) (by kernel_rfl) (fun _ _ _ h => h) (Or.inl ⟨by rfl, ?_⟩) (by assumption) ?_; rotate_left
    · intro w hSw; (try dsimp only at hSw); go_simp; try with_reducible rfl
    try simp only [Act.put, setIfInBounds_toArray, set_cons_zero, set_cons_succ]
    refine wpAnyH_take (i := 3) (oi := ⟨some 23, _, _, _, _, _⟩) (v := ?_) rfl (by kernel_rfl) (by kernel_rfl) (by kernel_rfl) (fun _ _ _ h => h) (Or.inl ⟨by rfl, ?_⟩) (by assumption) ?_; rotate_left
    · intro w hSw; (try dsimp only at hSw); go_simp; try with_reducible rfl
    try simp only [Act.put, setIfInBounds_toArray, set_cons_zero, set_cons_succ]
    refine wpAnyH_take (i := 4) (oi := ⟨some 24, _, _, _, _, _⟩) (v := ?_) rfl (by kernel_rfl) (by kernel_rfl) (by kernel_rfl) (fun _ _ _ h => h) (Or.inl ⟨by rfl, ?_⟩) (by assumption) ?_; rotate_left
    · intro w hSw; (try dsimp only at hSw); go_simp; try with_reducible rfl
    try simp only [Act.put, setIfInBounds_toArray, set_cons_zero, set_cons_succ]
    refine wpAnyH_take (i := 5) (oi := ⟨some 25, _, _, _, _, _⟩) (v := ?_) rfl (by kernel_rfl) (by kernel_rfl) (by kernel_rfl) (fun _ _ _ h => h) (Or.inl ⟨by rfl, ?_⟩) (by assumption) ?_; rotate_left
    · intro w hSw; (try dsimp only at hSw); go_simp; try with_reducible rfl
    try simp only [Act.put, setIfInBounds_toArray, set_cons_zero, set_cons_succ]
    refine wpAnyH_ready (rs := [6]) (by kernel_rfl) (by simp) ?_
    refine AllReadyH.cons (o := ⟨some 26, _, _, _, _, _⟩) rfl (fun K hK => ?_) AllReadyH.nil
    go_simp
    refine (HB.out _).mono ?_
    rintro e w8 ⟨rfl, b8⟩
    have HNOW := Lib.hid (bnextK HNOW.out b8)
    go_wp2_with fail
    refine hK.out _ _ ?_ (fun hHeld => ?_)
    · (try dsimp only); first | exact HSH.out _ (KeepL.of_below HNOW.out) | exact HSH.out _ (KeepL.of_below (bnextK HNOW.out (below_alloc _ _))) | exact HSH.out _ HW9.out
    clear hK K
    try simp only [Act.put, setIfInBounds_toArray, set_cons_zero, set_cons_succ]
    refine wpAnyH_take (i := 7) (oi := ⟨some 27, _, _, _, _, _⟩) (v := ?_) rfl (by kernel_rfl) (by kernel_rfl) (by kernel_rfl) (fun _ _ _ h => h) (Or.inl ⟨by rfl, ?_⟩) (by assumption) ?_; rotate_left
    · intro w hSw; (try dsimp only at hSw); go_simp; try with_reducible rfl
    try simp only [Act.put, setIfInBounds_toArray, set_cons_zero, set_cons_succ]
    refine wpAnyH_take (i := 8) (oi := ⟨some 28, _, _, _, _, _⟩) (v := .agg #[.int .i64 x5, .int .i64 x6, .int .i64 x7]) rfl (by kernel_rfl) (by kernel_rfl) (by kernel_rfl) (fun _ _ _ h => h) (Or.inl ⟨by rfl, ?_⟩) (by assumption) ?_
    · (intro w hSw; (try dsimp only at hSw); have hfd := fld_stock x1 x2 x3 x4 x5 x6 x7 w; go_simp; done)
    try simp only [Act.put, setIfInBounds_toArray, set_cons_zero, set_cons_succ]
    refine wpAnyH_ready (rs := [9]) (by kernel_rfl) (by simp) ?_
    refine AllReadyH.cons (o := ⟨none, _, _, _, _, _⟩) rfl (fun K hK => ?_) AllReadyH.nil
    have hkr := HK3.out.past HNOW.out HK3.out.lt
    obtain ⟨w9, hw9⟩ : ∃ z, z = w8.setRow (w.heap.size + 1 + 1 + 1) #[.int .i64 x5, .int .i64 x6, .int .i64 x7] := ⟨_, rfl⟩
    have HK9 : Hid (Bk w9 (w.heap.size + 1 + 1 + 1) #[.int .i64 x5, .int .i64 x6, .int .i64 x7] 45) := Lib.hid (by rw [hw9]; exact hkr.setRow _)
    have HB9 : Hid (Below w.heap.size w w9) := Lib.hid (by rw [hw9]; exact (bnextK HB1.out HNOW.out).trans (below_setRow (by omega)))
    have HW9 : Hid (KeepL [w.heap.size + 1 + 1 + 1] w1 w9) := Lib.hid (by rw [hw9]; exact (KeepL.of_below HNOW.out).trans (keepL_setRow9 _ _ _))
    refine step_store_row 45 _ _ rfl rfl _ #[.int .i64 x5, .int .i64 x6, .int .i64 x7] rfl rfl _ _ hkr rfl rfl (by simp [Value.oneCell']) ?_
    rw [← hw9]
    clear hw9 hkr
    refine hK.out _ _ ?_ (fun hHeld => ?_)
    · (try dsimp only); first | exact HSH.out _ (KeepL.of_below HNOW.out) | exact HSH.out _ (KeepL.of_below (bnextK HNOW.out (below_alloc _ _))) | exact HSH.out _ HW9.out
    clear hK K
    try simp only [Act.put]
    refine wpAnyH_take (i := 10) (oi := ⟨some 7, _, _, _, _, _⟩) (v := ?_) rfl (by kernel_rfl) (by kernel_rfl) (by kernel_rfl) (fun _ _ _ h => h) (Or.inl ⟨by rfl, ?_⟩) (by assumption) ?_; rotate_left
    · intro w hSw; (try dsimp only at hSw); go_simp; try with_reducible rfl
    try simp only [Act.put, setIfInBounds_toArray, set_cons_zero, set_cons_succ]
    refine wpAnyH_done (by kernel_rfl) ?_ _
    have y0 := HK9.out.cell 0; have y1 := HK9.out.cell 1; have y2 := HK9.out.cell 2
    simp only [List.getElem?_toArray, List.getElem?_cons_succ, List.getElem?_cons_zero] at y0 y1 y2
    go_wp2_with fail
    refine bodyPost_ret (a := Act.mk _ _) (v := .tuple #[.agg #[.int .i64 x5, .int .i64 x6, .int .i64 x7], .int .i64 0]) (by simp [results, Tryz.results10, go_sem, y0, y1, y2]) rfl ?_
    refine ⟨⟨x5, x6, x7, 0, rfl, HEV.out, fun h => absurd rfl h, fun _ => ?_⟩, HB9.out⟩
    rw [← HQ.out (by simp)]
    exact ⟨rfl, rfl, rfl⟩
  · have heb : (ev != 0) = true := by simpa using h0
    have hkr := HK3.out.past HNOW.out HK3.out.lt
    have f0 := hkr.froz 0; have f1 := hkr.froz 1; have f2 := hkr.froz 2
    have z0 := hkr.cell 0; have z1 := hkr.cell 1; have z2 := hkr.cell 2
    simp only [List.getElem?_toArray, List.getElem?_cons_succ, List.getElem?_cons_zero] at z0 z1 z2
    have HKR := Lib.hid hkr
    clear hkr
    go_wp2_with fail
    obtain ⟨w9, hw9⟩ : ∃ z, z = ((w5.setCell ⟨w.heap.size + 1 + 1 + 1, 0, none⟩ (.int .i64 0)).setCell ⟨w.heap.size + 1 + 1 + 1, 1, none⟩ (.int .i64 0)).setCell ⟨w.heap.size + 1 + 1 + 1, 2, none⟩ (.int .i64 0) := ⟨_, rfl⟩
    have hk9 : Bk w9 (w.heap.size + 1 + 1 + 1) #[.int .i64 0, .int .i64 0, .int .i64 0] 45 := by
      rw [hw9]; exact (((HKR.out.set 0 _).set 1 _).set 2 _)
    have hb9 : Below w.heap.size w w9 := by
      rw [hw9]
      exact ((HB5.out.setCell (p := ⟨_, 0, none⟩) (by show w.heap.size ≤ w.heap.size + 1 + 1 + 1; omega) _).setCell (p := ⟨_, 1, none⟩) (by show w.heap.size ≤ w.heap.size + 1 + 1 + 1; omega) _).setCell (p := ⟨_, 2, none⟩) (by show w.heap.size ≤ w.heap.size + 1 + 1 + 1; omega) _
    have y0 := hk9.cell 0; have y1 := hk9.cell 1; have y2 := hk9.cell 2
    simp only [List.getElem?_toArray, List.getElem?_cons_succ, List.getElem?_cons_zero] at y0 y1 y2
    rw [← hw9]
    refine bodyPost_ret (a := Act.mk _ _) (v := .tuple #[.agg #[.int .i64 0, .int .i64 0, .int .i64 0], .int .i64 ev]) (by simp [results, Tryz.results10, go_sem, y0, y1, y2]) rfl ?_
    exact ⟨⟨0, 0, 0, ev, rfl, HEV.out, fun _ => ⟨rfl, rfl, rfl⟩, fun e => absurd e h0⟩, hb9⟩
theorem Now_any {w : World} {N : Nat} {s : NS} {bn bl : Nat} {vh vs : Value} (h : NetAt w N s bn bl vh vs) :
    Calls Tryz.prog 8 #[.pointer (some ⟨N, 0, none⟩)] w fun e w' => e = .returned (.int .i64 s.now) ∧ w = w' := by
  have n0 := h.blk.cell 0; have n2 := h.blk.cell 2
  simp only [List.getElem?_toArray, List.getElem?_cons_succ, List.getElem?_cons_zero] at n0 n2
  have HV := Lib.hid (valid_any N _ w n0 rfl)
  clear h n0
  go_enter Tryz.func8, Tryz.ntmps8
  go_wp2_with fail
  refine HV.out.mono ?_
  clear HV
  rintro e w2 ⟨rfl, rfl⟩
  go_wp2_with fail
  go_ret
  exact ⟨rfl, rfl⟩
def tilE (s : NS) (til : Int) : Int := if til ≤ s.now ∨ 1099511627776 < til then 3 else 0
def hfullE (s : NS) : Int := if s.holds.length = 64 then 12 else 0
def resXE (s : NS) (til : Int) : Int := firstE [tilE s til, hfullE s]
def resE (s : NS) (a b : Nm) (bits til : Int) : Int := firstE [endsE s a b, amtE bits, resXE s til]
/-- The boxes of Reserve. -/
structure RvBk (h0 N : Nat) (til : Int) (W : World) : Prop where
  b0 : Bk W h0 #[.pointer (some ⟨N, 0, none⟩)] 24
  b1 : Bk W (h0 + 1) #[.int .i64 til] 2
abbrev RvBox (h0 N : Nat) (til : Int) (W : World) : Prop := W.cell? ⟨h0, 0, none⟩ = some (.pointer (some ⟨N, 0, none⟩)) ∧ W.cell? ⟨h0 + 1, 0, none⟩ = some (.int .i64 til)
theorem RvBk.cells {h0 N : Nat} {til : Int} {W : World} (h : RvBk h0 N til W) : RvBox h0 N til W := ⟨by rw [h.b0.cell]; rfl, by rw [h.b1.cell]; rfl⟩
theorem RvBk.ck {h0 N : Nat} {til : Int} {W W' : World} {T : TypeId → Prop} (h : RvBk h0 N til W) (hc : CK T W W') (t0 : T 24) (t1 : T 2) : RvBk h0 N til W' := ⟨hc _ _ _ t0 h.b0, hc _ _ _ t1 h.b1⟩
theorem RvBk.far {h0 N : Nat} {til : Int} {W W' : World} (h : RvBk h0 N til W) (hb : Below W.heap.size W W') : RvBk h0 N til W' := h.ck (T := fun _ => True) (.of_below hb) trivial trivial
set_option maxRecDepth 100000 in
set_option maxHeartbeats 4000000 in
theorem reserve1_any {w : World} {N : Nat} {s : NS} {bn bl : Nat} {vh vs : Value} (h : NetAt w N s bn bl vh vs) (til : Int) (p0 : Nat) (hbx : RvBk p0 N til w) :
    Calls Tryz.prog 43 #[.pointer (some ⟨p0, 0, none⟩), .pointer (some ⟨p0 + 1, 0, none⟩)] w (AnsN (resXE s til) w) := by
  have HU1 : Hid (∀ (z : Bool) W, (z = true ↔ (til ≤ s.now ∨ 1099511627776 < til)) → Calls Tryz.prog 14 #[.bool z, .int .i64 3] W (CondP (tilE s til) W)) := Lib.hid fun z W hz => unless_P _ 3 _ W (by
    unfold tilE
    by_cases hl : (til ≤ s.now ∨ 1099511627776 < til)
    · rw [if_pos hl, if_pos (hz.2 hl)]
    · rw [if_neg hl, if_neg (fun h => hl (hz.1 h))])
  have HU2 : Hid (∀ (z : Bool) W, z = ((s.holds.length : Int) == 64) → Calls Tryz.prog 14 #[.bool z, .int .i64 12] W (CondP (hfullE s) W)) := Lib.hid fun z W hz => unless_P _ 12 _ W (by
    subst hz
    unfold hfullE
    by_cases hl : s.holds.length = 64
    · rw [if_pos hl, hl]; rfl
    · rw [if_neg hl, if_neg (by simp; omega)])
  have HA : Hid (∀ (W : World) (f1 f2 : Value) (g : Nat), Below w.heap.size w W → CondOK W f1 (tilE s til) → CondOK W f2 (hfullE s) → W.heap.size = g →
      Calls Tryz.prog 13 #[.pointer (some ⟨N, 0, none⟩), .slice (some ⟨g, 0, none⟩) 2 2] (W.alloc (.cells #[f1, f2] 59)) (AnsN (resXE s til) (W.alloc (.cells #[f1, f2] 59)))) := Lib.hid fun W f1 f2 g hW k1 k2 hg => by
    refine ask_made (h.far hW) [(f1, tilE s til), (f2, hfullE s)] _ rfl 2 rfl (by omega) ?_ g hg
    intro x hx
    simp only [List.mem_cons, List.not_mem_nil, or_false] at hx
    rcases hx with rfl | rfl
    · exact k1
    · exact k2
  obtain ⟨As, cs, hvs, hcs⟩ := h.holds.form
  have HSH : Hid (∀ W, Below w.heap.size w W → W.cell? ⟨p0, 0, none⟩ = some (.pointer (some ⟨N, 0, none⟩)) ∧ W.cell? ⟨p0 + 1, 0, none⟩ = some (.int .i64 til) ∧ W.cell? ⟨N, 2, none⟩ = some (.int .i64 s.now) ∧ W.cell? ⟨N, 3, none⟩ = some (.slice As s.holds.length cs)) := Lib.hid fun W hW =>
    ⟨(hbx.far hW).cells.1, (hbx.far hW).cells.2, by rw [(h.far hW).blk.cell]; rfl, by rw [(h.far hW).blk.cell, ← hvs]; rfl⟩
  have HNOW : Hid (Below w.heap.size w w.drew) := Lib.hid (Qw.below ⟨1, rfl⟩ _)
  generalize resXE s til = ev at *
  generalize tilE s til = e1 at *
  generalize hfullE s = e2 at *
  generalize s.holds.length = ln at *
  generalize s.now = now at *
  clear h hbx
  go_enter Tryz.func43, Tryz.ntmps43
  go_wp2_with fail
  by_cases g1 : til ≤ now
  · have hb1 : decide (til ≤ now) = true := by simp; omega
    refine wp_region_held_drew (S := (fun W => W.cell? ⟨p0, 0, none⟩ = some (.pointer (some ⟨N, 0, none⟩)) ∧ W.cell? ⟨p0 + 1, 0, none⟩ = some (.int .i64 til) ∧ W.cell? ⟨N, 2, none⟩ = some (.int .i64 now) ∧ W.cell? ⟨N, 3, none⟩ = some (.slice As ln cs))) (by kernel_rfl) ?_ (fun hHeld => ?_)
    · (try dsimp only); first | exact HSH.out _ HNOW.out | exact HSH.out _ (bnextK HNOW.out (below_alloc _ _))
    refine wpAnyH_take (i := 0) (oi := ⟨some 3, _, _, _, _, _⟩) (v := ?_) rfl (by kernel_rfl) (by kernel_rfl) (by kernel_rfl) (fun _ _ _ h => h) (Or.inl ⟨by rfl, ?_⟩) (by assumption) ?_; rotate_left
    · intro w hSw; (try dsimp only at hSw); go_simp; try with_reducible rfl
    try simp only [Act.put, setIfInBounds_toArray, set_cons_zero, set_cons_succ]
    refine wpAnyH_take (i := 1) (oi := ⟨some 4, _, _, _, _, _⟩) (v := ?_) rfl (by kernel_rfl) (by kernel_rfl) (by kernel_rfl) (fun _ _ _ h => h) (Or.inl ⟨by rfl, ?_⟩) (by assumption) ?_; rotate_left
    · intro w hSw; (try dsimp only at hSw); go_simp; try with_reducible rfl
    try simp only [Act.put, setIfInBounds_toArray, set_cons_zero, set_cons_succ]
    refine wpAnyH_take (i := 2) (oi := ⟨some 5, _, _, _, _, _⟩) (v := ?_) rfl (by kernel_rfl) (by kernel_rfl) (by kernel_rfl) (fun _ _ _ h => h) (Or.inl ⟨by rfl, ?_⟩) (by assumption) ?_; rotate_left
    · intro w hSw; (try dsimp only at hSw); go_simp; try with_reducible rfl
    try simp only [Act.put, setIfInBounds_toArray, set_cons_zero, set_cons_succ]
    refine wpAnyH_take (i := 3) (oi := ⟨some 6, _, _, _, _, _⟩) (v := ?_) rfl (by kernel_rfl) (by kernel_rfl) (by kernel_rfl) (fun _ _ _ h => h) (Or.inl ⟨by rfl, ?_⟩) (by assumption) ?_; rotate_left
    · intro w hSw; (try dsimp only at hSw); go_simp; try with_reducible rfl
    try simp only [Act.put, setIfInBounds_toArray, set_cons_zero, set_cons_succ]
    refine wpAnyH_take (i := 4) (oi := ⟨some 7, _, _, _, _, _⟩) (v := ?_) rfl (by kernel_rfl) (by kernel_rfl) (by kernel_rfl) (fun _ _ _ h => h) (Or.inl ⟨by rfl, ?_⟩) (by assumption) ?_; rotate_left
    · intro w hSw; (try dsimp only at hSw); go_simp; try with_reducible rfl
    try simp only [Act.put, setIfInBounds_toArray, set_cons_zero, set_cons_succ]
    refine wpAnyH_take (i := 5) (oi := ⟨some 8, _, _, _, _, _⟩) (v := ?_) rfl (by kernel_rfl) (by kernel_rfl) (by kernel_rfl) (fun _ _ _ h => h) (Or.inl ⟨by rfl, ?_⟩) (by assumption) ?_; rotate_left
    · intro w hSw; (try dsimp only at hSw); go_simp; try with_reducible rfl
    try simp only [Act.put, setIfInBounds_toArray, set_cons_zero, set_cons_succ]
    refine wpAnyH_take (i := 6) (oi := ⟨some 9, _, _, _, _, _⟩) (v := ?_) rfl (by kernel_rfl) (by kernel_rfl) (by kernel_rfl) (fun _ _ _ h => h) (Or.inl ⟨by rfl, ?_⟩) (by assumption) ?_; rotate_left
    · intro w hSw; (try dsimp only at hSw); go_simp; try with_reducible rfl
    try simp only [Act.put, setIfInBounds_toArray, set_cons_zero, set_cons_succ]
    refine wpAnyH_take (i := 7) (oi := ⟨some 10, _, _, _, _, _⟩) (v := ?_) rfl (by kernel_rfl) (by kernel_rfl) (by kernel_rfl) (fun _ _ _ h => h) (Or.inl ⟨by rfl, ?_⟩) (by assumption) ?_; rotate_left
    · intro w hSw; (try dsimp only at hSw); go_simp; try with_reducible rfl
    try simp only [Act.put, setIfInBounds_toArray, set_cons_zero, set_cons_succ]
    refine wpAnyH_take (i := 8) (oi := ⟨some 11, _, _, _, _, _⟩) (v := undef) rfl (by kernel_rfl) (by kernel_rfl) (by kernel_rfl) (fun _ _ _ h => h) (Or.inr ⟨by rfl, rfl⟩) (by assumption) ?_
    try simp only [Act.put, setIfInBounds_toArray, set_cons_zero, set_cons_succ]
    refine wpAnyH_take (i := 9) (oi := ⟨some 12, _, _, _, _, _⟩) (v := undef) rfl (by kernel_rfl) (by kernel_rfl) (by kernel_rfl) (fun _ _ _ h => h) (Or.inr ⟨by rfl, rfl⟩) (by assumption) ?_
    try simp only [Act.put, setIfInBounds_toArray, set_cons_zero, set_cons_succ]
    refine wpAnyH_take (i := 10) (oi := ⟨some 13, _, _, _, _, _⟩) (v := ?_) rfl (by kernel_rfl) (by kernel_rfl) (by kernel_rfl) (fun _ _ _ h => h) (Or.inl ⟨by rfl, ?_⟩) (by assumption) ?_; rotate_left
    · intro w hSw; (try dsimp only at hSw); go_simp; try with_reducible rfl
    try simp only [Act.put, setIfInBounds_toArray, set_cons_zero, set_cons_succ]
    refine wpAnyH_take (i := 12) (oi := ⟨some 15, _, _, _, _, _⟩) (v := ?_) rfl (by kernel_rfl) (by kernel_rfl) (by kernel_rfl) (fun _ _ _ h => h) (Or.inl ⟨by rfl, ?_⟩) (by assumption) ?_; rotate_left
    · intro w hSw; (try dsimp only at hSw); go_simp; try with_reducible rfl
    try simp only [Act.put, setIfInBounds_toArray, set_cons_zero, set_cons_succ]
    refine wpAnyH_take (i := 13) (oi := ⟨some 16, _, _, _, _, _⟩) (v := ?_) rfl (by kernel_rfl) (by kernel_rfl) (by kernel_rfl) (fun _ _ _ h => h) (Or.inl ⟨by rfl, ?_⟩) (by assumption) ?_; rotate_left
    · intro w hSw; (try dsimp only at hSw); go_simp; try with_reducible rfl
    try simp only [Act.put, setIfInBounds_toArray, set_cons_zero, set_cons_succ]
    refine wpAnyH_take (i := 14) (oi := ⟨some 17, _, _, _, _, _⟩) (v := ?_) rfl (by kernel_rfl) (by kernel_rfl) (by kernel_rfl) (fun _ _ _ h => h) (Or.inl ⟨by rfl, ?_⟩) (by assumption) ?_; rotate_left
    · intro w hSw; (try dsimp only at hSw); go_simp; try with_reducible rfl
    try simp only [Act.put, setIfInBounds_toArray, set_cons_zero, set_cons_succ]
    refine wpAnyH_take (i := 15) (oi := ⟨some 18, _, _, _, _, _⟩) (v := ?_) rfl (by kernel_rfl) (by kernel_rfl) (by kernel_rfl) (fun _ _ _ h => h) (Or.inl ⟨by rfl, ?_⟩) (by assumption) ?_; rotate_left
    · intro w hSw; (try dsimp only at hSw); go_simp; try with_reducible rfl
    try simp only [Act.put, setIfInBounds_toArray, set_cons_zero, set_cons_succ]
    refine wpAnyH_take (i := 16) (oi := ⟨some 19, _, _, _, _, _⟩) (v := ?_) rfl (by kernel_rfl) (by kernel_rfl) (by kernel_rfl) (fun _ _ _ h => h) (Or.inl ⟨by rfl, ?_⟩) (by assumption) ?_; rotate_left
    · intro w hSw; (try dsimp only at hSw); go_simp; try with_reducible rfl
    try simp only [Act.put, setIfInBounds_toArray, set_cons_zero, set_cons_succ]
    refine wpAnyH_take (i := 17) (oi := ⟨some 20, _, _, _, _, _⟩) (v := ?_) rfl (by kernel_rfl) (by kernel_rfl) (by kernel_rfl) (fun _ _ _ h => h) (Or.inl ⟨by rfl, ?_⟩) (by assumption) ?_; rotate_left
    · intro w hSw; (try dsimp only at hSw); go_simp; try with_reducible rfl
    try simp only [Act.put, setIfInBounds_toArray, set_cons_zero, set_cons_succ]
    refine wpAnyH_ready (rs := [11]) (by kernel_rfl) (by simp) ?_
    refine AllReadyH.cons (o := ⟨some 14, _, _, _, _, _⟩) rfl (fun K hK => ?_) AllReadyH.nil
    go_simp
    refine (HU1.out _ _ (by simp; omega)).mono ?_
    rintro e w3 ⟨f3, rfl, k3, b3⟩
    obtain ⟨fn3, cap3, rfl, _⟩ := id k3
    have HNOW := Lib.hid (bnextK HNOW.out b3)
    go_wp2_with fail
    refine hK.out _ _ ?_ (fun hHeld => ?_)
    · (try dsimp only); first | exact HSH.out _ HNOW.out | exact HSH.out _ (bnextK HNOW.out (below_alloc _ _))
    clear hK K
    try simp only [Act.put, setIfInBounds_toArray, set_cons_zero, set_cons_succ]
    refine wpAnyH_ready (rs := [18]) (by kernel_rfl) (by simp) ?_
    refine AllReadyH.cons (o := ⟨some 21, _, _, _, _, _⟩) rfl (fun K hK => ?_) AllReadyH.nil
    go_simp
    refine (HU2.out _ _ rfl).mono ?_
    rintro e w4 ⟨f4, rfl, k4, b4⟩
    obtain ⟨fn4, cap4, rfl, _⟩ := id k4
    have k3 := CondOK.far k3 b4
    have HNOW := Lib.hid (bnextK HNOW.out b4)
    go_wp2_with fail
    refine hK.out _ _ ?_ (fun hHeld => ?_)
    · (try dsimp only); first | exact HSH.out _ HNOW.out | exact HSH.out _ (bnextK HNOW.out (below_alloc _ _))
    clear hK K
    try simp only [Act.put, setIfInBounds_toArray, set_cons_zero, set_cons_succ]
    refine wpAnyH_ready (rs := [19]) (by kernel_rfl) (by simp) ?_
    refine AllReadyH.cons (o := ⟨some 22, _, _, _, _, _⟩) rfl (fun K hK => ?_) AllReadyH.nil
    go_simp
    refine hK.out _ _ ?_ (fun hHeld => ?_)
    · (try dsimp only); first | exact HSH.out _ HNOW.out | exact HSH.out _ (bnextK HNOW.out (below_alloc _ _))
    clear hK K
    try simp only [Act.put, setIfInBounds_toArray, set_cons_zero, set_cons_succ]
    refine wpAnyH_ready (rs := [20]) (by kernel_rfl) (by simp) ?_
    refine AllReadyH.cons (o := ⟨some 23, _, _, _, _, _⟩) rfl (fun K hK => ?_) AllReadyH.nil
    go_simp
    refine (HA.out _ _ _ _ HNOW.out k3 k4 rfl).mono ?_
    rintro e w5 ⟨rfl, b5⟩
    have HNOW := Lib.hid (bnextK (bnextK HNOW.out (below_alloc _ _)) b5)
    go_wp2_with fail
    refine hK.out _ _ ?_ (fun hHeld => ?_)
    · (try dsimp only); first | exact HSH.out _ HNOW.out | exact HSH.out _ (bnextK HNOW.out (below_alloc _ _))
    clear hK K
    try simp only [Act.put, setIfInBounds_toArray, set_cons_zero, set_cons_succ]
    refine wpAnyH_take (i := 21) (oi := ⟨some 2, _, _, _, _, _⟩) (v := ?_) rfl (by kernel_rfl) (by kernel_rfl) (by kernel_rfl) (fun _ _ _ h => h) (Or.inl ⟨by rfl, ?_⟩) (by assumption) ?_; rotate_left
    · intro w hSw; (try dsimp only at hSw); go_simp; try with_reducible rfl
    try simp only [Act.put, setIfInBounds_toArray, set_cons_zero, set_cons_succ]
    refine wpAnyH_done (by kernel_rfl) ?_ _
    go_wp2_with fail
    go_ret
    exact ⟨rfl, HNOW.out⟩
  · have hb1 : decide (til ≤ now) = false := by simp; omega
    refine wp_region_held_drew (S := (fun W => W.cell? ⟨p0, 0, none⟩ = some (.pointer (some ⟨N, 0, none⟩)) ∧ W.cell? ⟨p0 + 1, 0, none⟩ = some (.int .i64 til) ∧ W.cell? ⟨N, 2, none⟩ = some (.int .i64 now) ∧ W.cell? ⟨N, 3, none⟩ = some (.slice As ln cs))) (by kernel_rfl) ?_ (fun hHeld => ?_)
    · (try dsimp only); first | exact HSH.out _ HNOW.out | exact HSH.out _ (bnextK HNOW.out (below_alloc _ _))
    refine wpAnyH_take (i := 0) (oi := ⟨some 3, _, _, _, _, _⟩) (v := ?_) rfl (by kernel_rfl) (by kernel_rfl) (by kernel_rfl) (fun _ _ _ h => h) (Or.inl ⟨by rfl, ?_⟩) (by assumption) ?_; rotate_left
    · intro w hSw; (try dsimp only at hSw); go_simp; try with_reducible rfl
    try simp only [Act.put, setIfInBounds_toArray, set_cons_zero, set_cons_succ]
    refine wpAnyH_take (i := 1) (oi := ⟨some 4, _, _, _, _, _⟩) (v := ?_) rfl (by kernel_rfl) (by kernel_rfl) (by kernel_rfl) (fun _ _ _ h => h) (Or.inl ⟨by rfl, ?_⟩) (by assumption) ?_; rotate_left
    · intro w hSw; (try dsimp only at hSw); go_simp; try with_reducible rfl
    try simp only [Act.put, setIfInBounds_toArray, set_cons_zero, set_cons_succ]
    refine wpAnyH_take (i := 2) (oi := ⟨some 5, _, _, _, _, _⟩) (v := ?_) rfl (by kernel_rfl) (by kernel_rfl) (by kernel_rfl) (fun _ _ _ h => h) (Or.inl ⟨by rfl, ?_⟩) (by assumption) ?_; rotate_left
    · intro w hSw; (try dsimp only at hSw); go_simp; try with_reducible rfl
    try simp only [Act.put, setIfInBounds_toArray, set_cons_zero, set_cons_succ]
    refine wpAnyH_take (i := 3) (oi := ⟨some 6, _, _, _, _, _⟩) (v := ?_) rfl (by kernel_rfl) (by kernel_rfl) (by kernel_rfl) (fun _ _ _ h => h) (Or.inl ⟨by rfl, ?_⟩) (by assumption) ?_; rotate_left
    · intro w hSw; (try dsimp only at hSw); go_simp; try with_reducible rfl
    try simp only [Act.put, setIfInBounds_toArray, set_cons_zero, set_cons_succ]
    refine wpAnyH_take (i := 4) (oi := ⟨some 7, _, _, _, _, _⟩) (v := ?_) rfl (by kernel_rfl) (by kernel_rfl) (by kernel_rfl) (fun _ _ _ h => h) (Or.inl ⟨by rfl, ?_⟩) (by assumption) ?_; rotate_left
    · intro w hSw; (try dsimp only at hSw); go_simp; try with_reducible rfl
    try simp only [Act.put, setIfInBounds_toArray, set_cons_zero, set_cons_succ]
    refine wpAnyH_take (i := 5) (oi := ⟨some 8, _, _, _, _, _⟩) (v := ?_) rfl (by kernel_rfl) (by kernel_rfl) (by kernel_rfl) (fun _ _ _ h => h) (Or.inl ⟨by rfl, ?_⟩) (by assumption) ?_; rotate_left
    · intro w hSw; (try dsimp only at hSw); go_simp; try with_reducible rfl
    try simp only [Act.put, setIfInBounds_toArray, set_cons_zero, set_cons_succ]
    refine wpAnyH_take (i := 6) (oi := ⟨some 9, _, _, _, _, _⟩) (v := ?_) rfl (by kernel_rfl) (by kernel_rfl) (by kernel_rfl) (fun _ _ _ h => h) (Or.inl ⟨by rfl, ?_⟩) (by assumption) ?_; rotate_left
    · intro w hSw; (try dsimp only at hSw); go_simp; try with_reducible rfl
    try simp only [Act.put, setIfInBounds_toArray, set_cons_zero, set_cons_succ]
    refine wpAnyH_take (i := 7) (oi := ⟨some 10, _, _, _, _, _⟩) (v := ?_) rfl (by kernel_rfl) (by kernel_rfl) (by kernel_rfl) (fun _ _ _ h => h) (Or.inl ⟨by rfl, ?_⟩) (by assumption) ?_; rotate_left
    · intro w hSw; (try dsimp only at hSw); go_simp; try with_reducible rfl
    try simp only [Act.put, setIfInBounds_toArray, set_cons_zero, set_cons_succ]
    refine wpAnyH_take (i := 8) (oi := ⟨some 11, _, _, _, _, _⟩) (v := ?_) rfl (by kernel_rfl) (by kernel_rfl) (by kernel_rfl) (fun _ _ _ h => h) (Or.inl ⟨by rfl, ?_⟩) (by assumption) ?_; rotate_left
    · intro w hSw; (try dsimp only at hSw); go_simp; try with_reducible rfl
    try simp only [Act.put, setIfInBounds_toArray, set_cons_zero, set_cons_succ]
    refine wpAnyH_take (i := 9) (oi := ⟨some 12, _, _, _, _, _⟩) (v := ?_) rfl (by kernel_rfl) (by kernel_rfl) (by kernel_rfl) (fun _ _ _ h => h) (Or.inl ⟨by rfl, ?_⟩) (by assumption) ?_; rotate_left
    · intro w hSw; (try dsimp only at hSw); go_simp; try with_reducible rfl
    try simp only [Act.put, setIfInBounds_toArray, set_cons_zero, set_cons_succ]
    refine wpAnyH_take (i := 10) (oi := ⟨some 13, _, _, _, _, _⟩) (v := ?_) rfl (by kernel_rfl) (by kernel_rfl) (by kernel_rfl) (fun _ _ _ h => h) (Or.inl ⟨by rfl, ?_⟩) (by assumption) ?_; rotate_left
    · intro w hSw; (try dsimp only at hSw); go_simp; try with_reducible rfl
    try simp only [Act.put, setIfInBounds_toArray, set_cons_zero, set_cons_succ]
    refine wpAnyH_take (i := 12) (oi := ⟨some 15, _, _, _, _, _⟩) (v := ?_) rfl (by kernel_rfl) (by kernel_rfl) (by kernel_rfl) (fun _ _ _ h => h) (Or.inl ⟨by rfl, ?_⟩) (by assumption) ?_; rotate_left
    · intro w hSw; (try dsimp only at hSw); go_simp; try with_reducible rfl
    try simp only [Act.put, setIfInBounds_toArray, set_cons_zero, set_cons_succ]
    refine wpAnyH_take (i := 13) (oi := ⟨some 16, _, _, _, _, _⟩) (v := ?_) rfl (by kernel_rfl) (by kernel_rfl) (by kernel_rfl) (fun _ _ _ h => h) (Or.inl ⟨by rfl, ?_⟩) (by assumption) ?_; rotate_left
    · intro w hSw; (try dsimp only at hSw); go_simp; try with_reducible rfl
    try simp only [Act.put, setIfInBounds_toArray, set_cons_zero, set_cons_succ]
    refine wpAnyH_take (i := 14) (oi := ⟨some 17, _, _, _, _, _⟩) (v := ?_) rfl (by kernel_rfl) (by kernel_rfl) (by kernel_rfl) (fun _ _ _ h => h) (Or.inl ⟨by rfl, ?_⟩) (by assumption) ?_; rotate_left
    · intro w hSw; (try dsimp only at hSw); go_simp; try with_reducible rfl
    try simp only [Act.put, setIfInBounds_toArray, set_cons_zero, set_cons_succ]
    refine wpAnyH_take (i := 15) (oi := ⟨some 18, _, _, _, _, _⟩) (v := ?_) rfl (by kernel_rfl) (by kernel_rfl) (by kernel_rfl) (fun _ _ _ h => h) (Or.inl ⟨by rfl, ?_⟩) (by assumption) ?_; rotate_left
    · intro w hSw; (try dsimp only at hSw); go_simp; try with_reducible rfl
    try simp only [Act.put, setIfInBounds_toArray, set_cons_zero, set_cons_succ]
    refine wpAnyH_take (i := 16) (oi := ⟨some 19, _, _, _, _, _⟩) (v := ?_) rfl (by kernel_rfl) (by kernel_rfl) (by kernel_rfl) (fun _ _ _ h => h) (Or.inl ⟨by rfl, ?_⟩) (by assumption) ?_; rotate_left
    · intro w hSw; (try dsimp only at hSw); go_simp; try with_reducible rfl
    try simp only [Act.put, setIfInBounds_toArray, set_cons_zero, set_cons_succ]
    refine wpAnyH_take (i := 17) (oi := ⟨some 20, _, _, _, _, _⟩) (v := ?_) rfl (by kernel_rfl) (by kernel_rfl) (by kernel_rfl) (fun _ _ _ h => h) (Or.inl ⟨by rfl, ?_⟩) (by assumption) ?_; rotate_left
    · intro w hSw; (try dsimp only at hSw); go_simp; try with_reducible rfl
    try simp only [Act.put, setIfInBounds_toArray, set_cons_zero, set_cons_succ]
    refine wpAnyH_ready (rs := [11]) (by kernel_rfl) (by simp) ?_
    refine AllReadyH.cons (o := ⟨some 14, _, _, _, _, _⟩) rfl (fun K hK => ?_) AllReadyH.nil
    go_simp
    refine (HU1.out _ _ (by simp; omega)).mono ?_
    rintro e w3 ⟨f3, rfl, k3, b3⟩
    obtain ⟨fn3, cap3, rfl, _⟩ := id k3
    have HNOW := Lib.hid (bnextK HNOW.out b3)
    go_wp2_with fail
    refine hK.out _ _ ?_ (fun hHeld => ?_)
    · (try dsimp only); first | exact HSH.out _ HNOW.out | exact HSH.out _ (bnextK HNOW.out (below_alloc _ _))
    clear hK K
    try simp only [Act.put, setIfInBounds_toArray, set_cons_zero, set_cons_succ]
    refine wpAnyH_ready (rs := [18]) (by kernel_rfl) (by simp) ?_
    refine AllReadyH.cons (o := ⟨some 21, _, _, _, _, _⟩) rfl (fun K hK => ?_) AllReadyH.nil
    go_simp
    refine (HU2.out _ _ rfl).mono ?_
    rintro e w4 ⟨f4, rfl, k4, b4⟩
    obtain ⟨fn4, cap4, rfl, _⟩ := id k4
    have k3 := CondOK.far k3 b4
    have HNOW := Lib.hid (bnextK HNOW.out b4)
    go_wp2_with fail
    refine hK.out _ _ ?_ (fun hHeld => ?_)
    · (try dsimp only); first | exact HSH.out _ HNOW.out | exact HSH.out _ (bnextK HNOW.out (below_alloc _ _))
    clear hK K
    try simp only [Act.put, setIfInBounds_toArray, set_cons_zero, set_cons_succ]
    refine wpAnyH_ready (rs := [19]) (by kernel_rfl) (by simp) ?_
    refine AllReadyH.cons (o := ⟨some 22, _, _, _, _, _⟩) rfl (fun K hK => ?_) AllReadyH.nil
    go_simp
    refine hK.out _ _ ?_ (fun hHeld => ?_)
    · (try dsimp only); first | exact HSH.out _ HNOW.out | exact HSH.out _ (bnextK HNOW.out (below_alloc _ _))
    clear hK K
    try simp only [Act.put, setIfInBounds_toArray, set_cons_zero, set_cons_succ]
    refine wpAnyH_ready (rs := [20]) (by kernel_rfl) (by simp) ?_
    refine AllReadyH.cons (o := ⟨some 23, _, _, _, _, _⟩) rfl (fun K hK => ?_) AllReadyH.nil
    go_simp
    refine (HA.out _ _ _ _ HNOW.out k3 k4 rfl).mono ?_
    rintro e w5 ⟨rfl, b5⟩
    have HNOW := Lib.hid (bnextK (bnextK HNOW.out (below_alloc _ _)) b5)
    go_wp2_with fail
    refine hK.out _ _ ?_ (fun hHeld => ?_)
    · (try dsimp only); first | exact HSH.out _ HNOW.out | exact HSH.out _ (bnextK HNOW.out (below_alloc _ _))
    clear hK K
    try simp only [Act.put, setIfInBounds_toArray, set_cons_zero, set_cons_succ]
    refine wpAnyH_take (i := 21) (oi := ⟨some 2, _, _, _, _, _⟩) (v := ?_) rfl (by kernel_rfl) (by kernel_rfl) (by kernel_rfl) (fun _ _ _ h => h) (Or.inl ⟨by rfl, ?_⟩) (by assumption) ?_; rotate_left
    · intro w hSw; (try dsimp only at hSw); go_simp; try with_reducible rfl
    try simp only [Act.put, setIfInBounds_toArray, set_cons_zero, set_cons_succ]
    refine wpAnyH_done (by kernel_rfl) ?_ _
    go_wp2_with fail
    go_ret
    exact ⟨rfl, HNOW.out⟩
/-- What Reserve hands back and leaves. -/
def ReserveP (N : Nat) (s : NS) (bn bl : Nat) (vh vs : Value) (a b : Nm) (bits til : Int) (w : World) (e : Ending) (w' : World) : Prop :=
  ∃ id z : Int, e = .returned (.tuple #[.int .i64 id, .int .i64 z]) ∧
    ((z ≠ 0 ∧ (z = resE s a b bits til ∨ (resE s a b bits til = 0 ∧ z = 21 ∧ pathsG s bits a b 1 = [])) ∧ id = 0 ∧ NetAt w' N s bn bl vh vs ∧ Below w.heap.size w w') ∨
    (z = 0 ∧ resE s a b bits til = 0 ∧ id = wrap64 (s.last + 1) ∧ ∃ p l, pathsG s bits a b 1 = p :: l ∧ GoodN s bits a b (nmP s p) ∧ (∃ vh', NetAt w' N (resS s bits til (nmP s p) (wrap64 (s.last + 1))) bn bl vh' vs ∧ ∀ k, vh'.ownBlock = some k → vh.ownBlock = some k ∨ w.heap.size ≤ k) ∧ KeepL (N :: bl :: vh.ownBlock.toList) w w'))
theorem resE_zero {s : NS} {a b : Nm} {bits til : Int} (h : resE s a b bits til = 0) : endsE s a b = 0 ∧ amtE bits = 0 ∧ s.holds.length ≠ 64 := by
  obtain ⟨h1, h2, h3⟩ := firstE3 h
  refine ⟨h1, h2, fun e => ?_⟩
  have := (firstE2 h3).2
  unfold hfullE at this
  rw [if_pos e] at this
  omega
/-- The last number given changes. -/
theorem NetAt.last_to {w w' : World} {N : Nat} {s : NS} {bn bl : Nat} {vh vs : Value} {z : Int} (h : NetAt w N s bn bl vh vs) (hw : w' = w.setCell ⟨N, 4, none⟩ (.int .i64 z)) : NetAt w' N { s with last := z } bn bl vh vs := by
  subst hw
  have hc2 : CK (fun t => t ≠ 56) w (w.setCell ⟨N, 4, none⟩ (.int .i64 z)) := CK.setCell h.blk
  have hmap : ∀ {b : Nat} {k : TypeId} {κ : Type} {K : KeyT k κ} {ks : List κ} {f : κ → Option Value}, MapL K w b ks f → MapL K (w.setCell ⟨N, 4, none⟩ (.int .i64 z)) b ks f := fun {b k κ K ks f} m => by
    refine m.keep (Below.heap_setCell _ _ _ _ (fun e => ?_))
    have e' : b = N := e
    subst e'
    exact m.noBk h.blk
  refine ⟨?_, hmap h.nodes, hmap h.links, h.holds.ck hc2 (by decide) (by decide), h.sents.ck hc2 (by decide) (by decide) (by decide) (by decide) (by decide), h.ok.to rfl rfl rfl rfl, h.ne⟩
  have := h.blk.set 4 (.int .i64 z)
  exact this
/-- A hold more, and the field that says where they lie. -/
theorem NetAt.hold_to {w w' : World} {N : Nat} {s : NS} {bn bl : Nat} {vh vh' vs : Value} {x : HoldM} {vals : List Value} (h : NetAt w N s bn bl vh vs) (ho : w.ownsRow 0 79 4 vh s.holds.length vals) (hg : w.grownBy w' vh.ownBlock) (hs : HoldsAt w' vh' (s.holds ++ [x])) :
    NetAt (w'.setCell ⟨N, 3, none⟩ vh') N { s with holds := s.holds ++ [x] } bn bl vh' vs := by
  have hc := CK.grown_row ho hg
  have hN := hc _ _ _ (by decide) h.blk
  have hc2 : CK (fun t => t ≠ 56) w' (w'.setCell ⟨N, 3, none⟩ vh') := CK.setCell hN
  have hmap : ∀ {b : Nat} {k : TypeId} {κ : Type} {K : KeyT k κ} {ks : List κ} {f : κ → Option Value}, MapL K w b ks f → MapL K (w'.setCell ⟨N, 3, none⟩ vh') b ks f := fun {b k κ K ks f} m => by
    have m1 : MapL K w' b ks f := m.keep (hg.block b m.lt (fun e => by
      obtain ⟨cs, hb⟩ := ownBlock_cells ho e.symm
      exact m.noBk hb))
    refine m1.keep (Below.heap_setCell _ _ _ _ (fun e => ?_))
    have e' : b = N := e
    subst e'
    exact m1.noBk hN
  refine ⟨?_, hmap h.nodes, hmap h.links, hs.ck hc2 (by decide) (by decide), (h.sents.ck hc (by decide) (by decide) (by decide) (by decide) (by decide)).ck hc2 (by decide) (by decide) (by decide) (by decide) (by decide), h.ok.to rfl rfl rfl rfl, h.ne⟩
  have := hN.set 3 vh'
  exact this
set_option maxRecDepth 100000 in
set_option maxHeartbeats 1000000 in
theorem Reserve_any {w : World} {N : Nat} {s : NS} {bn bl : Nat} {vh vs : Value} (h : NetAt w N s bn bl vh vs) (hni : NI s) (a b : Nm) (bits til : Int) (ha : a.length ≤ maxLen) (hb : b.length ≤ maxLen) :
    Calls Tryz.prog 24 #[.pointer (some ⟨N, 0, none⟩), encS a, encS b, .int .i64 bits, .int .i64 til] w (ReserveP N s bn bl vh vs a b bits til w) := by
  have hmf : ∀ (fn : Fn) (first cap : Array Value) (w : World), (Instr.makeFunc fn first cap).run Tryz.prog w = .ok (.func fn first cap) w := fun _ _ _ _ => rfl
  obtain ⟨w1, hw1⟩ : ∃ w1, w1 = (w.alloc (.cells #[.pointer (some ⟨N, 0, none⟩)] 24)).alloc (.cells #[.int .i64 til] 2) := ⟨_, rfl⟩
  obtain ⟨k0, k1⟩ := boxes2 w #[.pointer (some ⟨N, 0, none⟩)] #[.int .i64 til] 24 2
  have hb1 := alloc2_below w (.cells #[.pointer (some ⟨N, 0, none⟩)] 24) (.cells #[.int .i64 til] 2)
  rw [← hw1] at k0 k1 hb1
  have h1 := h.far hb1
  have HW1 := Lib.hid hw1; have HB1 := Lib.hid hb1; have H1 := Lib.hid h1; have H := Lib.hid h; have HNI := Lib.hid hni
  have HBX : Hid (RvBk w.heap.size N til w1) := Lib.hid ⟨k0, k1⟩
  have HE : Hid (∀ W, Below w1.heap.size w1 W → Calls Tryz.prog 41 #[.pointer (some ⟨N, 0, none⟩), encS a, encS b] W (CondP (endsE s a b) W)) := Lib.hid fun W hW => ends_any (h1.far hW) a b ha hb
  have HM := Lib.hid (fun W => amount_any bits W)
  have HA : Hid (∀ (W : World) (f1 f2 : Value) (g : Nat), Below w1.heap.size w1 W → CondOK W f1 (endsE s a b) → CondOK W f2 (amtE bits) → W.heap.size = g →
      Calls Tryz.prog 13 #[.pointer (some ⟨N, 0, none⟩), .slice (some ⟨g, 0, none⟩) 3 3] (W.alloc (.cells #[f1, f2, .func (.func 43) #[] #[.pointer (some ⟨w.heap.size, 0, none⟩), .pointer (some ⟨w.heap.size + 1, 0, none⟩)]] 59))
        (AnsN (resE s a b bits til) (W.alloc (.cells #[f1, f2, .func (.func 43) #[] #[.pointer (some ⟨w.heap.size, 0, none⟩), .pointer (some ⟨w.heap.size + 1, 0, none⟩)]] 59)))) := Lib.hid fun W f1 f2 g hW q1 q2 hg => by
    refine ask_made (h1.far hW) [(f1, endsE s a b), (f2, amtE bits), (_, resXE s til)] _ rfl 3 rfl (by omega) ?_ g hg
    intro y hy
    simp only [List.mem_cons, List.not_mem_nil, or_false] at hy
    rcases hy with rfl | rfl | rfl
    · exact q1
    · exact q2
    · refine ⟨_, _, rfl, enters_of Tryz.func43 (by kernel_rfl) rfl _, fun W' hW' => ?_⟩
      exact reserve1_any (h1.far (bnextK hW hW')) til _ (HBX.out.far (bnextK hW hW'))
  have HSH : Hid (∀ W, Below w1.heap.size w1 W → RvBox w.heap.size N til W) := Lib.hid fun W hW => (HBX.out.far hW).cells
  obtain ⟨ev, hev⟩ : ∃ ev, ev = resE s a b bits til := ⟨_, rfl⟩
  have HEV := Lib.hid hev
  rw [← hev] at HA
  obtain ⟨hA, hc, rfl, hhc⟩ := h.holds.form
  have HNOW : Hid (Below w1.heap.size w1 w1.drew) := Lib.hid (Qw.below ⟨1, rfl⟩ _)
  clear h h1 hw1 hb1 k0 k1 hev hni ha hb
  go_enter Tryz.func24, Tryz.ntmps24
  go_wp2_with fail
  rw [← HW1.out]
  clear HW1
  refine wp_region_held_drew (S := (fun W => RvBox w.heap.size N til W)) (by kernel_rfl) ?_ (fun hHeld => ?_)
  · (try dsimp only); first | exact HSH.out _ HNOW.out | exact HSH.out _ (bnextK HNOW.out (below_alloc _ _))
  refine wpAnyH_take (i := 0) (oi := ⟨some 14, _, _, _, _, _⟩) (v := ?_) rfl (by kernel_rfl) (by kernel_rfl) (by kernel_rfl) (fun _ _ _ h => h) (Or.inl ⟨by rfl, ?_⟩) (by assumption) ?_; rotate_left
  · intro w hSw; (try dsimp only at hSw); go_simp; try with_reducible rfl
  try simp only [Act.put, setIfInBounds_toArray, set_cons_zero, set_cons_succ]
  refine wpAnyH_take (i := 1) (oi := ⟨some 15, _, _, _, _, _⟩) (v := ?_) rfl (by kernel_rfl) (by kernel_rfl) (by kernel_rfl) (fun _ _ _ h => h) (Or.inl ⟨by rfl, ?_⟩) (by assumption) ?_; rotate_left
  · intro w hSw; (try dsimp only at hSw); go_simp; try with_reducible rfl
  try simp only [Act.put, setIfInBounds_toArray, set_cons_zero, set_cons_succ]
  refine wpAnyH_take (i := 2) (oi := ⟨some 16, _, _, _, _, _⟩) (v := ?_) rfl (by kernel_rfl) (by kernel_rfl) (by kernel_rfl) (fun _ _ _ h => h) (Or.inl ⟨by rfl, ?_⟩) (by assumption) ?_; rotate_left
  · intro w hSw; (try dsimp only at hSw); go_simp; try with_reducible rfl
  try simp only [Act.put, setIfInBounds_toArray, set_cons_zero, set_cons_succ]
  refine wpAnyH_take (i := 3) (oi := ⟨some 17, _, _, _, _, _⟩) (v := ?_) rfl (by kernel_rfl) (by kernel_rfl) (by kernel_rfl) (fun _ _ _ h => h) (Or.inl ⟨by rfl, ?_⟩) (by assumption) ?_; rotate_left
  · intro w hSw; (try dsimp only at hSw); go_simp; try with_reducible rfl
  try simp only [Act.put, setIfInBounds_toArray, set_cons_zero, set_cons_succ]
  refine wpAnyH_take (i := 5) (oi := ⟨some 19, _, _, _, _, _⟩) (v := ?_) rfl (by kernel_rfl) (by kernel_rfl) (by kernel_rfl) (fun _ _ _ h => h) (Or.inl ⟨by rfl, ?_⟩) (by assumption) ?_; rotate_left
  · intro w hSw; (try dsimp only at hSw); go_simp; try with_reducible rfl
  try simp only [Act.put, setIfInBounds_toArray, set_cons_zero, set_cons_succ]
  refine wpAnyH_take (i := 7) (oi := ⟨some 21, _, _, _, _, _⟩) (v := ?_) rfl (by kernel_rfl) (by kernel_rfl) (by kernel_rfl) (fun _ _ _ h => h) (Or.inl ⟨by rfl, ?_⟩) (by assumption) ?_; rotate_left
  · intro w hSw; (try dsimp only at hSw); go_simp; try with_reducible rfl
  try simp only [Act.put, setIfInBounds_toArray, set_cons_zero, set_cons_succ]
  refine wpAnyH_ready (rs := [4]) (by kernel_rfl) (by simp) ?_
  refine AllReadyH.cons (o := ⟨some 18, _, _, _, _, _⟩) rfl (fun K hK => ?_) AllReadyH.nil
  go_simp
  refine (HE.out _ HNOW.out).mono ?_
  rintro e w3 ⟨f3, rfl, k3, b3⟩
  obtain ⟨fn3, cap3, rfl, _⟩ := id k3
  have HNOW := Lib.hid (bnextK HNOW.out b3)
  go_wp2_with fail
  refine hK.out _ _ ?_ (fun hHeld => ?_)
  · (try dsimp only); first | exact HSH.out _ HNOW.out | exact HSH.out _ (bnextK HNOW.out (below_alloc _ _))
  clear hK K
  try simp only [Act.put, setIfInBounds_toArray, set_cons_zero, set_cons_succ]
  refine wpAnyH_ready (rs := [6]) (by kernel_rfl) (by simp) ?_
  refine AllReadyH.cons (o := ⟨some 20, _, _, _, _, _⟩) rfl (fun K hK => ?_) AllReadyH.nil
  go_simp
  refine (HM.out _).mono ?_
  rintro e w4 ⟨f4, rfl, k4, b4⟩
  obtain ⟨fn4, cap4, rfl, _⟩ := id k4
  have k3 := CondOK.far k3 b4
  have HNOW := Lib.hid (bnextK HNOW.out b4)
  go_wp2_with fail
  refine hK.out _ _ ?_ (fun hHeld => ?_)
  · (try dsimp only); first | exact HSH.out _ HNOW.out | exact HSH.out _ (bnextK HNOW.out (below_alloc _ _))
  clear hK K
  try simp only [Act.put, setIfInBounds_toArray, set_cons_zero, set_cons_succ]
  refine wpAnyH_ready (rs := [8]) (by kernel_rfl) (by simp) ?_
  refine AllReadyH.cons (o := ⟨some 22, _, _, _, _, _⟩) rfl (fun K hK => ?_) AllReadyH.nil
  go_simp
  refine hK.out _ _ ?_ (fun hHeld => ?_)
  · (try dsimp only); first | exact HSH.out _ HNOW.out | exact HSH.out _ (bnextK HNOW.out (below_alloc _ _))
  clear hK K
  try simp only [Act.put, setIfInBounds_toArray, set_cons_zero, set_cons_succ]
  refine wpAnyH_ready (rs := [9]) (by kernel_rfl) (by simp) ?_
  refine AllReadyH.cons (o := ⟨some 23, _, _, _, _, _⟩) rfl (fun K hK => ?_) AllReadyH.nil
  go_simp
  refine (HA.out _ _ _ _ HNOW.out k3 k4 rfl).mono ?_
  rintro e w5 ⟨rfl, b5⟩
  have HNOW := Lib.hid (bnextK (bnextK HNOW.out (below_alloc _ _)) b5)
  go_wp2_with fail
  refine hK.out _ _ ?_ (fun hHeld => ?_)
  · (try dsimp only); first | exact HSH.out _ HNOW.out | exact HSH.out _ (bnextK HNOW.out (below_alloc _ _))
  clear hK K
  try simp only [Act.put, setIfInBounds_toArray, set_cons_zero, set_cons_succ]
  refine wpAnyH_take (i := 10) (oi := ⟨some 12, _, _, _, _, _⟩) (v := ?_) rfl (by kernel_rfl) (by kernel_rfl) (by kernel_rfl) (fun _ _ _ h => h) (Or.inl ⟨by rfl, ?_⟩) (by assumption) ?_; rotate_left
  · intro w hSw; (try dsimp only at hSw); go_simp; try with_reducible rfl
  try simp only [Act.put, setIfInBounds_toArray, set_cons_zero, set_cons_succ]
  refine wpAnyH_done (by kernel_rfl) ?_ _
  clear HSH HA HE HM b3 b4 k3 k4 b5 hHeld hmf
  have HB5 := Lib.hid (bnextK HB1.out HNOW.out)
  have HN5 := Lib.hid (H1.out.far HNOW.out)
  have HBX5 := Lib.hid (HBX.out.far HNOW.out)
  clear HNOW HBX H1 HB1
  by_cases h0 : ev = 0
  · subst h0
    obtain ⟨e1, e2, e3⟩ := resE_zero HEV.out.symm
    obtain ⟨_, _, hab, hma, hmb, _, _⟩ := endsE_zero e1
    have hbt := amtE_zero e2
    have hbits1 := hbt.1; have hbits2 := hbt.2
    have HFULL := Lib.hid e3
    have HG := Lib.hid (graph_any HN5.out bits (by have := List.length_pos_of_mem hma; omega))
    have HOK := Lib.hid H.out.ok
    obtain ⟨d0, d1⟩ := HBX5.out.cells
    clear e1 e2 e3 hbt
    go_wp2_with fail
    refine HG.out.mono ?_
    clear HG
    rintro e w6 ⟨G, rfl, hgx, hb6⟩
    have HC := Lib.hid (choose_names hgx HOK.out a b hma hmb hab 1 (by omega) (by omega))
    have HB6 := Lib.hid hb6
    clear hgx hb6
    go_wp2_with fail
    refine HC.out.mono ?_
    clear HC
    rintro e w7 ⟨⟨v, rfl, h1, h2⟩, hb7⟩
    have HB7 := Lib.hid (bnextK HB6.out hb7)
    clear HB6 hb7 d0 d1
    by_cases hp : pathsG s bits a b 1 = []
    · obtain rfl := h1 hp
      have hq := eql_nil_rows
      clear h1 h2
      go_wp2_with fail
      refine bodyPost_ret (a := Act.mk _ _) (results_tmp2 rfl _ _ _) rfl ?_
      exact ⟨0, 21, rfl, .inl ⟨by decide, .inr ⟨HEV.out.symm, rfl, hp⟩, rfl, HN5.out.far HB7.out, bnextK HB5.out HB7.out⟩⟩
    · obtain ⟨g, cap, cur, rfl, hcap, _, hbk, hrows⟩ := (h2 hp).slice hp
      obtain ⟨p, l, hpl⟩ : ∃ p l, pathsG s bits a b 1 = p :: l := by
        cases hq : pathsG s bits a b 1 with
        | nil => exact absurd hq hp
        | cons p l => exact ⟨p, l, rfl⟩
      obtain ⟨u, hu, hrow⟩ := hrows 0 p (by rw [hpl]; rfl)
      have hgood : GoodN s bits a b (nmP s p) := (pathsN HOK.out hma hmb hab hp).2.1 _ (by rw [hpl]; simp)
      have hnr := hrow.names
      have HGOOD := Lib.hid hgood; have HNR := Lib.hid hnr; have HPL := Lib.hid hpl
      have HGU : Hid (Bk w7 g cur 28 ∧ cur[0]? = some u) := Lib.hid ⟨hbk, hu⟩
      have hq := eql_some_rows g
      obtain ⟨P, hP⟩ : ∃ P, P = nmP s p := ⟨_, rfl⟩
      have HP := Lib.hid hP
      rw [← hP] at HGOOD HNR
      obtain ⟨ub, uc, ucs, rfl, huc, _⟩ := id hnr
      rw [← hP] at HNR
      rw [← hP] at HGU
      rw [hpl] at hcap ⊢
      have hpos : 0 < (p :: l).length := by simp
      generalize (p :: l).length = ln at *
      have hpos' : (0 : Int) < (ln : Int) := by omega
      have HN7 := Lib.hid (HN5.out.far HB7.out)
      have HBX7 := Lib.hid (HBX5.out.far HB7.out)
      have HBW7 := Lib.hid (bnextK HB5.out HB7.out)
      have hres := res_ok (til := til) (id := wrap64 (s.last + 1)) HOK.out HNI.out HGOOD.out hbits1 hbits2 HFULL.out
      have HRES := Lib.hid hres
      have hP16 : P.length ≤ 16 := Nat.le_trans (nodup_sub_len HGOOD.out.nodup HGOOD.out.mem) HOK.out.nn
      have HP16 := Lib.hid hP16
      have HDR : Hid (Below w7.heap.size w7 w7.drew) := Lib.hid (Qw.below ⟨1, rfl⟩ _)
      have hmok : NSOK (moveG s P (-bits) bits 0) := hres.1.to rfl rfl rfl rfl
      have HMV := Lib.hid (move_any (HN7.out.far HDR.out) P (.slice (some ⟨ub, 0, none⟩) P.length uc) (HNR.out.far HDR.out) (-bits) bits 0 (by have := HGOOD.out.len; omega) (by omega) HGOOD.out.nodup (fun i hi => (HGOOD.out.link i hi).1) hmok (by omega) (by omega) (by omega))
      have HS7 : Hid (∀ W, Below w7.heap.size w7 W → RvBox w.heap.size N til W ∧ W.cell? ⟨g, 0, none⟩ = some (.slice (some ⟨ub, 0, none⟩) P.length uc)) := Lib.hid fun W hW => ⟨(HBX7.out.far hW).cells, by rw [(HGU.out.1.past hW HGU.out.1.lt).cell]; exact HGU.out.2⟩
      have hwn : IntKind.i64.wrap (-bits) = -bits := by rw [IntKind.wrap_i64]; omega
      clear h1 h2 hbk hrows hrow hu hgood hnr hpl hP hres hmok huc hP16 hp
      go_wp2_with fail
      refine wp_region_held_drew (S := (fun W => RvBox w.heap.size N til W ∧ W.cell? ⟨g, 0, none⟩ = some (.slice (some ⟨ub, 0, none⟩) P.length uc))) (by kernel_rfl) ?_ (fun hHeld => ?_)
      · (try dsimp only); first | exact HS8.out | exact HS7.out _ HDR.out
      refine wpAnyH_take (i := 0) (oi := ⟨some 35, _, _, _, _, _⟩) (v := ?_) rfl (by kernel_rfl) (by kernel_rfl) (by kernel_rfl) (fun _ _ _ h => h) (Or.inl ⟨by rfl, ?_⟩) (by assumption) ?_; rotate_left
      · intro w hSw; (try dsimp only at hSw); go_simp; try with_reducible rfl
      try simp only [Act.put, setIfInBounds_toArray, set_cons_zero, set_cons_succ]
      refine wpAnyH_take (i := 1) (oi := ⟨some 36, _, _, _, _, _⟩) (v := ?_) rfl (by kernel_rfl) (by kernel_rfl) (by kernel_rfl) (fun _ _ _ h => h) (Or.inl ⟨by rfl, ?_⟩) (by assumption) ?_; rotate_left
      · intro w hSw; (try dsimp only at hSw); go_simp; try with_reducible rfl
      try simp only [Act.put, setIfInBounds_toArray, set_cons_zero, set_cons_succ]
      refine wpAnyH_take (i := 2) (oi := ⟨some 37, _, _, _, _, _⟩) (v := ?_) rfl (by kernel_rfl) (by kernel_rfl) (by kernel_rfl) (fun _ _ _ h => h) (Or.inl ⟨by rfl, ?_⟩) (by assumption) ?_; rotate_left
      · intro w hSw; (try dsimp only at hSw); go_simp; try with_reducible rfl
      try simp only [Act.put, setIfInBounds_toArray, set_cons_zero, set_cons_succ]
      refine wpAnyH_take (i := 3) (oi := ⟨some 38, _, _, _, _, _⟩) (v := ?_) rfl (by kernel_rfl) (by kernel_rfl) (by kernel_rfl) (fun _ _ _ h => h) (Or.inl ⟨by rfl, ?_⟩) (by assumption) ?_; rotate_left
      · intro w hSw; (try dsimp only at hSw); go_simp; try with_reducible rfl
      try simp only [Act.put, setIfInBounds_toArray, set_cons_zero, set_cons_succ]
      refine wpAnyH_take (i := 4) (oi := ⟨some 39, _, _, _, _, _⟩) (v := ?_) rfl (by kernel_rfl) (by kernel_rfl) (by kernel_rfl) (fun _ _ _ h => h) (Or.inl ⟨by rfl, ?_⟩) (by assumption) ?_; rotate_left
      · intro w hSw; (try dsimp only at hSw); go_simp; try with_reducible rfl
      try simp only [Act.put, setIfInBounds_toArray, set_cons_zero, set_cons_succ]
      refine wpAnyH_take (i := 5) (oi := ⟨some 40, _, _, _, _, _⟩) (v := ?_) rfl (by kernel_rfl) (by kernel_rfl) (by kernel_rfl) (fun _ _ _ h => h) (Or.inl ⟨by rfl, ?_⟩) (by assumption) ?_; rotate_left
      · intro w hSw; (try dsimp only at hSw); go_simp; try with_reducible rfl
      try simp only [Act.put, setIfInBounds_toArray, set_cons_zero, set_cons_succ]
      refine wpAnyH_take (i := 6) (oi := ⟨some 41, _, _, _, _, _⟩) (v := ?_) rfl (by kernel_rfl) (by kernel_rfl) (by kernel_rfl) (fun _ _ _ h => h) (Or.inl ⟨by rfl, ?_⟩) (by assumption) ?_; rotate_left
      · intro w hSw; (try dsimp only at hSw); go_simp; try with_reducible rfl
      try simp only [Act.put, setIfInBounds_toArray, set_cons_zero, set_cons_succ]
      refine wpAnyH_ready (rs := [7]) (by kernel_rfl) (by simp) ?_
      refine AllReadyH.cons (o := ⟨some 42, _, _, _, _, _⟩) rfl (fun K hK => ?_) AllReadyH.nil
      go_simp
      (with_reducible refine HMV.out.mono ?_)
      clear HMV
      rintro e w8 ⟨rfl, hn8, hk8⟩
      have HN8 := Lib.hid hn8
      have HCK := Lib.hid ((CK.of_below (T := fun _ => True) HDR.out).trans ((HN7.out.far HDR.out).links.ckL hk8))
      have HBX8 := Lib.hid (HBX7.out.ck HCK.out trivial trivial)
      have HGU8 := Lib.hid (HCK.out _ _ _ trivial HGU.out.1)
      have HNR8 := Lib.hid (HNR.out.ck HCK.out trivial)
      have HKW8 : Hid (KeepL [bl] w w8) := Lib.hid ((KeepL.of_below (bnextK HBW7.out HDR.out)).trans hk8)
      have HS8 : Hid (RvBox w.heap.size N til w8 ∧ w8.cell? ⟨g, 0, none⟩ = some (.slice (some ⟨ub, 0, none⟩) P.length uc)) := Lib.hid ⟨HBX8.out.cells, by rw [HGU8.out.cell]; exact HGU.out.2⟩
      clear hn8 hk8
      go_wp2_with fail
      refine hK.out _ _ ?_ (fun hHeld => ?_)
      · (try dsimp only); first | exact HS8.out | exact HS7.out _ HDR.out
      clear hK K
      try simp only [Act.put, setIfInBounds_toArray, set_cons_zero, set_cons_succ]
      refine wpAnyH_done (by kernel_rfl) ?_ _
      clear hHeld HS7
      obtain ⟨d0, d1⟩ := HBX8.out.cells
      have n4 := HN8.out.blk.cell 4
      have nf := HN8.out.blk.froz 4
      simp only [List.getElem?_toArray, List.getElem?_cons_succ, List.getElem?_cons_zero] at n4
      rw [(moveG_same s P (-bits) bits 0).2.2.2.2.1] at n4
      go_wp2_with fail
      obtain ⟨L, hL⟩ : ∃ L, L = wrap64 (s.last + 1) := ⟨_, rfl⟩
      have HL := Lib.hid hL
      try rw [← hL]
      try rw [show wrap64 (s.last + 1) = L from hL.symm]
      obtain ⟨w9, hw9⟩ : ∃ z, z = w8.setCell ⟨N, 4, none⟩ (.int .i64 L) := ⟨_, rfl⟩
      have HN9 := Lib.hid (HN8.out.last_to hw9)
      have HCK9 : Hid (CK (fun t => t ≠ 56) w8 w9) := Lib.hid (by rw [hw9]; exact CK.setCell HN8.out.blk)
      have HKW9 : Hid (KeepL [N, bl] w w9) := Lib.hid (by
        rw [hw9]
        exact (HKW8.out.sub (fun k hk => by rw [List.mem_singleton] at hk; simp [hk])).trans ((KeepL.set _ _ _ _).sub (fun k hk => by rw [List.mem_singleton] at hk; simp [hk])))
      rw [← hw9]
      clear hw9 hL n4 nf d0 d1
      have HBX9 := Lib.hid (HBX8.out.ck HCK9.out (by decide) (by decide))
      have HGU9 := Lib.hid (HCK9.out _ _ _ (by decide) HGU8.out)
      have HNR9 := Lib.hid (HNR8.out.ck HCK9.out (by decide))
      have HDR9 : Hid (Below w9.heap.size w9 w9.drew) := Lib.hid (Qw.below ⟨1, rfl⟩ _)
      have hho : HoldsAt w9.drew (.slice hA s.holds.length hc) s.holds := by
        have := HN9.out.holds.ck (T := fun _ => True) (CK.of_below HDR9.out) trivial trivial
        have e : ({ moveG s P (-bits) bits 0 with last := L } : NS).holds = s.holds := (moveG_same s P (-bits) bits 0).2.2.2.2.2.1
        rw [e] at this
        exact this
      obtain ⟨vals, hov, hvv⟩ := hho
      have HOV := Lib.hid hov; have HVV := Lib.hid hvv
      have HN9D := Lib.hid (HN9.out.far HDR9.out)
      have HBXD := Lib.hid (HBX9.out.far HDR9.out)
      have HGUD := Lib.hid (HGU9.out.past HDR9.out HGU9.out.lt)
      have HNRD := Lib.hid (HNR9.out.far HDR9.out)
      have HKWD := Lib.hid (HKW9.out.trans (KeepL.of_below HDR9.out))
      have HS9 : Hid (∀ W, Below w9.heap.size w9 W → (RvBox w.heap.size N til W ∧ W.cell? ⟨g, 0, none⟩ = some (.slice (some ⟨ub, 0, none⟩) P.length uc) ∧ W.cell? ⟨N, 4, none⟩ = some (.int .i64 L))) := Lib.hid fun W hW => ⟨(HBX9.out.far hW).cells, by rw [(HGU9.out.past hW HGU9.out.lt).cell]; exact HGU.out.2, by rw [(HN9.out.far hW).blk.cell]; rfl⟩
      have HN3 : Hid (∀ W, Below w9.heap.size w9 W → W.cell? ⟨N, 3, none⟩ = some (.slice hA s.holds.length hc)) := Lib.hid fun W hW => by
        rw [(HN9.out.far hW).blk.cell]
        rfl
      have hhl := HNI.out.hl
      have hsz9 := HKW9.out.size
      clear hov hvv
      go_wp2_with fail
      refine wp_region_held_drew (S := (fun W => RvBox w.heap.size N til W ∧ W.cell? ⟨g, 0, none⟩ = some (.slice (some ⟨ub, 0, none⟩) P.length uc) ∧ W.cell? ⟨N, 4, none⟩ = some (.int .i64 L))) (by kernel_rfl) ?_ (fun hHeld => ?_)
      · (try dsimp only); first | exact HSY.out | exact HSX.out | exact HS9.out _ HDR9.out | exact HS9.out _ (below_alloc_drew _ _)
      refine wpAnyH_take (i := 0) (oi := ⟨some 50, _, _, _, _, _⟩) (v := ?_) rfl (by kernel_rfl) (by kernel_rfl) (by kernel_rfl) (fun _ _ _ h => h) (Or.inl ⟨by rfl, ?_⟩) (by assumption) ?_; rotate_left
      · intro w hSw; (try dsimp only at hSw); go_simp; try with_reducible rfl
      try simp only [Act.put, setIfInBounds_toArray, set_cons_zero, set_cons_succ]
      refine wpAnyH_take (i := 1) (oi := ⟨some 51, _, _, _, _, _⟩) (v := ?_) rfl (by kernel_rfl) (by kernel_rfl) (by kernel_rfl) (fun _ _ _ h => h) (Or.inl ⟨by rfl, ?_⟩) (by assumption) ?_; rotate_left
      · intro w hSw; (try dsimp only at hSw); go_simp; try with_reducible rfl
      try simp only [Act.put, setIfInBounds_toArray, set_cons_zero, set_cons_succ]
      refine wpAnyH_take (i := 2) (oi := ⟨some 52, _, _, _, _, _⟩) (v := ?_) rfl (by kernel_rfl) (by kernel_rfl) (by kernel_rfl) (fun _ _ _ h => h) (Or.inl ⟨by rfl, ?_⟩) (by assumption) ?_; rotate_left
      · intro w hSw; (try dsimp only at hSw); go_simp; try with_reducible rfl
      try simp only [Act.put, setIfInBounds_toArray, set_cons_zero, set_cons_succ]
      refine wpAnyH_take (i := 3) (oi := ⟨some 53, _, _, _, _, _⟩) (v := ?_) rfl (by kernel_rfl) (by kernel_rfl) (by kernel_rfl) (fun _ _ _ h => h) (Or.inl ⟨by rfl, ?_⟩) (by assumption) ?_; rotate_left
      · intro w hSw; (try dsimp only at hSw); go_simp; try with_reducible rfl
      try simp only [Act.put, setIfInBounds_toArray, set_cons_zero, set_cons_succ]
      refine wpAnyH_take (i := 5) (oi := ⟨some 55, _, _, _, _, _⟩) (v := ?_) rfl (by kernel_rfl) (by kernel_rfl) (by kernel_rfl) (fun _ _ _ h => h) (Or.inl ⟨by rfl, ?_⟩) (by assumption) ?_; rotate_left
      · intro w hSw; (try dsimp only at hSw); go_simp; try with_reducible rfl
      try simp only [Act.put, setIfInBounds_toArray, set_cons_zero, set_cons_succ]
      refine wpAnyH_take (i := 6) (oi := ⟨some 56, _, _, _, _, _⟩) (v := ?_) rfl (by kernel_rfl) (by kernel_rfl) (by kernel_rfl) (fun _ _ _ h => h) (Or.inl ⟨by rfl, ?_⟩) (by assumption) ?_; rotate_left
      · intro w hSw; (try dsimp only at hSw); go_simp; try with_reducible rfl
      try simp only [Act.put, setIfInBounds_toArray, set_cons_zero, set_cons_succ]
      refine wpAnyH_take (i := 7) (oi := ⟨some 57, _, _, _, _, _⟩) (v := ?_) rfl (by kernel_rfl) (by kernel_rfl) (by kernel_rfl) (fun _ _ _ h => h) (Or.inl ⟨by rfl, ?_⟩) (by assumption) ?_; rotate_left
      · intro w hSw; (try dsimp only at hSw); go_simp; try with_reducible rfl
      try simp only [Act.put, setIfInBounds_toArray, set_cons_zero, set_cons_succ]
      refine wpAnyH_take (i := 8) (oi := ⟨some 58, _, _, _, _, _⟩) (v := ?_) rfl (by kernel_rfl) (by kernel_rfl) (by kernel_rfl) (fun _ _ _ h => h) (Or.inl ⟨by rfl, ?_⟩) (by assumption) ?_; rotate_left
      · intro w hSw; (try dsimp only at hSw); go_simp; try with_reducible rfl
      try simp only [Act.put, setIfInBounds_toArray, set_cons_zero, set_cons_succ]
      refine wpAnyH_take (i := 9) (oi := ⟨some 59, _, _, _, _, _⟩) (v := ?_) rfl (by kernel_rfl) (by kernel_rfl) (by kernel_rfl) (fun _ _ _ h => h) (Or.inl ⟨by rfl, ?_⟩) (by assumption) ?_; rotate_left
      · intro w hSw; (try dsimp only at hSw); go_simp; try with_reducible rfl
      try simp only [Act.put, setIfInBounds_toArray, set_cons_zero, set_cons_succ]
      refine wpAnyH_take (i := 10) (oi := ⟨some 60, _, _, _, _, _⟩) (v := ?_) rfl (by kernel_rfl) (by kernel_rfl) (by kernel_rfl) (fun _ _ _ h => h) (Or.inl ⟨by rfl, ?_⟩) (by assumption) ?_; rotate_left
      · intro w hSw; (try dsimp only at hSw); go_simp; try with_reducible rfl
      try simp only [Act.put, setIfInBounds_toArray, set_cons_zero, set_cons_succ]
      refine wpAnyH_take (i := 11) (oi := ⟨some 61, _, _, _, _, _⟩) (v := ?_) rfl (by kernel_rfl) (by kernel_rfl) (by kernel_rfl) (fun _ _ _ h => h) (Or.inl ⟨by rfl, ?_⟩) (by assumption) ?_; rotate_left
      · intro w hSw; (try dsimp only at hSw); go_simp; try with_reducible rfl
      try simp only [Act.put, setIfInBounds_toArray, set_cons_zero, set_cons_succ]
      refine wpAnyH_take (i := 12) (oi := ⟨some 62, _, _, _, _, _⟩) (v := ?_) rfl (by kernel_rfl) (by kernel_rfl) (by kernel_rfl) (fun _ _ _ h => h) (Or.inl ⟨by rfl, ?_⟩) (by assumption) ?_; rotate_left
      · intro w hSw; (try dsimp only at hSw); go_simp; try with_reducible rfl
      try simp only [Act.put, setIfInBounds_toArray, set_cons_zero, set_cons_succ]
      refine wpAnyH_take (i := 13) (oi := ⟨some 63, _, _, _, _, _⟩) (v := ?_) rfl (by kernel_rfl) (by kernel_rfl) (by kernel_rfl) (fun _ _ _ h => h) (Or.inl ⟨by rfl, ?_⟩) (by assumption) ?_; rotate_left
      · intro w hSw; (try dsimp only at hSw); go_simp; try with_reducible rfl
      try simp only [Act.put, setIfInBounds_toArray, set_cons_zero, set_cons_succ]
      refine wpAnyH_take (i := 14) (oi := ⟨some 64, _, _, _, _, _⟩) (v := ?_) rfl (by kernel_rfl) (by kernel_rfl) (by kernel_rfl) (fun _ _ _ h => h) (Or.inl ⟨by rfl, ?_⟩) (by assumption) ?_; rotate_left
      · intro w hSw; (try dsimp only at hSw); go_simp; try with_reducible rfl
      try simp only [Act.put, setIfInBounds_toArray, set_cons_zero, set_cons_succ]
      refine wpAnyH_ready (rs := [4, 15]) (by kernel_rfl) (by simp) ?_
      refine AllReadyH.cons (o := ⟨some 54, _, _, _, _, _⟩) rfl (fun K hK => ?_) ?_
      · skip
        have n3 := HN3.out _ HDR9.out
        go_simp
        refine hK.out _ _ ?_ (fun hHeld => ?_)
        · (try dsimp only); first | exact HSY.out | exact HSX.out | exact HS9.out _ HDR9.out | exact HS9.out _ (below_alloc_drew _ _)
        clear hK K
        try simp only [Act.put, setIfInBounds_toArray, set_cons_zero, set_cons_succ]
        refine wpAnyH_ready (rs := [15]) (by kernel_rfl) (by simp) ?_
        refine AllReadyH.cons (o := ⟨some 65, _, _, _, _, _⟩) rfl (fun K hK => ?_) AllReadyH.nil
        go_simp
        refine hK.out _ _ ?_ (fun hHeld => ?_)
        · (try dsimp only); first | exact HSY.out | exact HSX.out | exact HS9.out _ HDR9.out | exact HS9.out _ (below_alloc_drew _ _)
        clear hK K
        try simp only [Act.put, setIfInBounds_toArray, set_cons_zero, set_cons_succ]
        refine wpAnyH_ready (rs := [16]) (by kernel_rfl) (by simp) ?_
        refine AllReadyH.cons (o := ⟨some 66, _, _, _, _, _⟩) rfl (fun K hK => ?_) AllReadyH.nil
        refine step_pushS (wa := w9.drew) (us := #[.int .i64 L, .slice (some ⟨ub, 0, none⟩) P.length uc, .int .i64 bits, .int .i64 til]) (tu := 79) elB_hold _ _ rfl rfl 0 s.holds.length vals rfl HOV.out rfl rfl (hold_cells _ _ _ _ _ _) (by omega) (by decide) (Nat.zero_le _) ?_
        intro v9 wx hown9 hb9 hg9 hlies
        obtain ⟨A9, d9, rfl, hd9⟩ := own_form hown9
        have HCX := Lib.hid (CK.grown_row HOV.out hg9)
        have hkb9 := HCX.out _ _ _ (by decide) HN9D.out.blk
        have q3 := hkb9.cell 3
        have qf := hkb9.froz 3
        simp only [List.getElem?_toArray, List.getElem?_cons_succ, List.getElem?_cons_zero] at q3
        have HNX : Hid (NetAt (wx.setCell ⟨N, 3, none⟩ (.slice A9 (s.holds.length + 1) d9)) N (resS s bits til P L) bn bl (.slice A9 (s.holds.length + 1) d9) vs) := Lib.hid (by
          have e : ({ moveG s P (-bits) bits 0 with last := L } : NS).holds = s.holds := (moveG_same s P (-bits) bits 0).2.2.2.2.2.1
          have hpush := HoldsB.push (x := ⟨L, P, bits, til⟩) HOV.out HVV.out HNRD.out hown9 hg9
          have := HN9D.out.hold_to (x := ⟨L, P, bits, til⟩) (by rw [e]; exact HOV.out) hg9 (by rw [e]; exact hpush.at0)
          rw [e] at this
          exact this)
        have HSX : Hid (RvBox w.heap.size N til wx ∧ wx.cell? ⟨g, 0, none⟩ = some (.slice (some ⟨ub, 0, none⟩) P.length uc) ∧ wx.cell? ⟨N, 4, none⟩ = some (.int .i64 L)) := Lib.hid ⟨(HBXD.out.ck HCX.out (by decide) (by decide)).cells, by rw [(HCX.out _ _ _ (by decide) HGUD.out).cell]; exact HGU.out.2, by rw [hkb9.cell]; rfl⟩
        have hcs := CK.setCell (o := 3) (u := .slice A9 (s.holds.length + 1) d9) hkb9
        have HSY : Hid (RvBox w.heap.size N til (wx.setCell ⟨N, 3, none⟩ (.slice A9 (s.holds.length + 1) d9)) ∧ (wx.setCell ⟨N, 3, none⟩ (.slice A9 (s.holds.length + 1) d9)).cell? ⟨g, 0, none⟩ = some (.slice (some ⟨ub, 0, none⟩) P.length uc) ∧ (wx.setCell ⟨N, 3, none⟩ (.slice A9 (s.holds.length + 1) d9)).cell? ⟨N, 4, none⟩ = some (.int .i64 L)) := Lib.hid ⟨((HBXD.out.ck HCX.out (by decide) (by decide)).ck hcs (by decide) (by decide)).cells, by rw [(hcs _ _ _ (by decide) (HCX.out _ _ _ (by decide) HGUD.out)).cell]; exact HGU.out.2, by rw [HNX.out.blk.cell]; rfl⟩
        have HLX := Lib.hid (lies_new hlies (w0 := w.heap.size) (by have := HKWD.out.size; omega))
        have HKX : Hid (KeepL (N :: bl :: (Value.slice hA s.holds.length hc).ownBlock.toList) w (wx.setCell ⟨N, 3, none⟩ (.slice A9 (s.holds.length + 1) d9))) := Lib.hid (by
          refine ((HKWD.out.sub (fun k hk => ?_)).trans (KeepL.grown hg9 (fun k hk _ => ?_))).trans ((KeepL.set _ _ _ _).sub (fun k hk => ?_))
          · simp only [List.mem_cons, List.not_mem_nil, or_false] at hk
            rcases hk with rfl | rfl
            · exact List.mem_cons_self
            · exact List.mem_cons_of_mem _ List.mem_cons_self
          · exact List.mem_cons_of_mem _ (List.mem_cons_of_mem _ (by rw [Option.mem_toList]; exact hk))
          · rw [List.mem_singleton] at hk; subst hk; exact List.mem_cons_self)
        clear hown9 hb9 hg9 hkb9 hlies hcs
        refine hK.out _ _ ?_ (fun hHeld => ?_)
        · (try dsimp only); first | exact HSY.out | exact HSX.out | exact HS9.out _ HDR9.out | exact HS9.out _ (below_alloc_drew _ _)
        clear hK K
        try simp only [Act.put, setIfInBounds_toArray, set_cons_zero, set_cons_succ]
        refine wpAnyH_take (i := 17) (oi := ⟨some 67, _, _, _, _, _⟩) (v := ?_) rfl (by kernel_rfl) (by kernel_rfl) (by kernel_rfl) (fun _ _ _ h => h) (Or.inl ⟨by rfl, ?_⟩) (by assumption) ?_; rotate_left
        · intro w hSw; (try dsimp only at hSw); go_simp; try with_reducible rfl
        try simp only [Act.put, setIfInBounds_toArray, set_cons_zero, set_cons_succ]
        refine wpAnyH_take (i := 18) (oi := ⟨some 68, _, _, _, _, _⟩) (v := ?_) rfl (by kernel_rfl) (by kernel_rfl) (by kernel_rfl) (fun _ _ _ h => h) (Or.inl ⟨by rfl, ?_⟩) (by assumption) ?_; rotate_left
        · intro w hSw; (try dsimp only at hSw); go_simp; try with_reducible rfl
        try simp only [Act.put, setIfInBounds_toArray, set_cons_zero, set_cons_succ]
        refine wpAnyH_ready (rs := [19]) (by kernel_rfl) (by simp) ?_
        refine AllReadyH.cons (o := ⟨none, _, _, _, _, _⟩) rfl (fun K hK => ?_) AllReadyH.nil
        go_simp
        refine hK.out _ _ ?_ (fun hHeld => ?_)
        · (try dsimp only); first | exact HSY.out | exact HSX.out | exact HS9.out _ HDR9.out | exact HS9.out _ (below_alloc_drew _ _)
        clear hK K
        try simp only [Act.put]
        refine wpAnyH_done (by kernel_rfl) ?_ _
        obtain ⟨⟨d0, d1⟩, _, n4⟩ := HSY.out
        go_wp2_with fail
        refine bodyPost_ret (a := Act.mk _ _) (results_tmp2 rfl _ _ _) rfl ?_
        exact ⟨L, 0, rfl, .inr ⟨rfl, HEV.out.symm, HL.out, p, l, HPL.out, by rw [← HP.out]; exact HGOOD.out, ⟨_, by rw [← HP.out, ← HL.out]; exact HNX.out, HLX.out⟩, HKX.out⟩⟩
      refine AllReadyH.cons (o := ⟨some 65, _, _, _, _, _⟩) rfl (fun K hK => ?_) AllReadyH.nil
      go_simp
      refine hK.out _ _ ?_ (fun hHeld => ?_)
      · (try dsimp only); first | exact HSY.out | exact HSX.out | exact HS9.out _ HDR9.out | exact HS9.out _ (below_alloc_drew _ _)
      clear hK K
      try simp only [Act.put, setIfInBounds_toArray, set_cons_zero, set_cons_succ]
      refine wpAnyH_ready (rs := [4]) (by kernel_rfl) (by simp) ?_
      refine AllReadyH.cons (o := ⟨some 54, _, _, _, _, _⟩) rfl (fun K hK => ?_) AllReadyH.nil
      have n3 := HN3.out _ (below_alloc_drew w9 (.cells #[.int .i64 L, .slice (some ⟨ub, 0, none⟩) P.length uc, .int .i64 bits, .int .i64 til] 79))
      go_simp
      refine hK.out _ _ ?_ (fun hHeld => ?_)
      · (try dsimp only); first | exact HSY.out | exact HSX.out | exact HS9.out _ HDR9.out | exact HS9.out _ (below_alloc_drew _ _)
      clear hK K
      try simp only [Act.put, setIfInBounds_toArray, set_cons_zero, set_cons_succ]
      refine wpAnyH_ready (rs := [16]) (by kernel_rfl) (by simp) ?_
      refine AllReadyH.cons (o := ⟨some 66, _, _, _, _, _⟩) rfl (fun K hK => ?_) AllReadyH.nil
      refine step_pushS (wa := w9.drew) (us := #[.int .i64 L, .slice (some ⟨ub, 0, none⟩) P.length uc, .int .i64 bits, .int .i64 til]) (tu := 79) elB_hold _ _ rfl rfl 0 s.holds.length vals rfl HOV.out rfl rfl (hold_cells _ _ _ _ _ _) (by omega) (by decide) (Nat.zero_le _) ?_
      intro v9 wx hown9 hb9 hg9 hlies
      obtain ⟨A9, d9, rfl, hd9⟩ := own_form hown9
      have HCX := Lib.hid (CK.grown_row HOV.out hg9)
      have hkb9 := HCX.out _ _ _ (by decide) HN9D.out.blk
      have q3 := hkb9.cell 3
      have qf := hkb9.froz 3
      simp only [List.getElem?_toArray, List.getElem?_cons_succ, List.getElem?_cons_zero] at q3
      have HNX : Hid (NetAt (wx.setCell ⟨N, 3, none⟩ (.slice A9 (s.holds.length + 1) d9)) N (resS s bits til P L) bn bl (.slice A9 (s.holds.length + 1) d9) vs) := Lib.hid (by
        have e : ({ moveG s P (-bits) bits 0 with last := L } : NS).holds = s.holds := (moveG_same s P (-bits) bits 0).2.2.2.2.2.1
        have hpush := HoldsB.push (x := ⟨L, P, bits, til⟩) HOV.out HVV.out HNRD.out hown9 hg9
        have := HN9D.out.hold_to (x := ⟨L, P, bits, til⟩) (by rw [e]; exact HOV.out) hg9 (by rw [e]; exact hpush.at0)
        rw [e] at this
        exact this)
      have HSX : Hid (RvBox w.heap.size N til wx ∧ wx.cell? ⟨g, 0, none⟩ = some (.slice (some ⟨ub, 0, none⟩) P.length uc) ∧ wx.cell? ⟨N, 4, none⟩ = some (.int .i64 L)) := Lib.hid ⟨(HBXD.out.ck HCX.out (by decide) (by decide)).cells, by rw [(HCX.out _ _ _ (by decide) HGUD.out).cell]; exact HGU.out.2, by rw [hkb9.cell]; rfl⟩
      have hcs := CK.setCell (o := 3) (u := .slice A9 (s.holds.length + 1) d9) hkb9
      have HSY : Hid (RvBox w.heap.size N til (wx.setCell ⟨N, 3, none⟩ (.slice A9 (s.holds.length + 1) d9)) ∧ (wx.setCell ⟨N, 3, none⟩ (.slice A9 (s.holds.length + 1) d9)).cell? ⟨g, 0, none⟩ = some (.slice (some ⟨ub, 0, none⟩) P.length uc) ∧ (wx.setCell ⟨N, 3, none⟩ (.slice A9 (s.holds.length + 1) d9)).cell? ⟨N, 4, none⟩ = some (.int .i64 L)) := Lib.hid ⟨((HBXD.out.ck HCX.out (by decide) (by decide)).ck hcs (by decide) (by decide)).cells, by rw [(hcs _ _ _ (by decide) (HCX.out _ _ _ (by decide) HGUD.out)).cell]; exact HGU.out.2, by rw [HNX.out.blk.cell]; rfl⟩
      have HLX := Lib.hid (lies_new hlies (w0 := w.heap.size) (by have := HKWD.out.size; omega))
      have HKX : Hid (KeepL (N :: bl :: (Value.slice hA s.holds.length hc).ownBlock.toList) w (wx.setCell ⟨N, 3, none⟩ (.slice A9 (s.holds.length + 1) d9))) := Lib.hid (by
        refine ((HKWD.out.sub (fun k hk => ?_)).trans (KeepL.grown hg9 (fun k hk _ => ?_))).trans ((KeepL.set _ _ _ _).sub (fun k hk => ?_))
        · simp only [List.mem_cons, List.not_mem_nil, or_false] at hk
          rcases hk with rfl | rfl
          · exact List.mem_cons_self
          · exact List.mem_cons_of_mem _ List.mem_cons_self
        · exact List.mem_cons_of_mem _ (List.mem_cons_of_mem _ (by rw [Option.mem_toList]; exact hk))
        · rw [List.mem_singleton] at hk; subst hk; exact List.mem_cons_self)
      clear hown9 hb9 hg9 hkb9 hlies hcs
      refine hK.out _ _ ?_ (fun hHeld => ?_)
      · (try dsimp only); first | exact HSY.out | exact HSX.out | exact HS9.out _ HDR9.out | exact HS9.out _ (below_alloc_drew _ _)
      clear hK K
      try simp only [Act.put, setIfInBounds_toArray, set_cons_zero, set_cons_succ]
      refine wpAnyH_take (i := 17) (oi := ⟨some 67, _, _, _, _, _⟩) (v := ?_) rfl (by kernel_rfl) (by kernel_rfl) (by kernel_rfl) (fun _ _ _ h => h) (Or.inl ⟨by rfl, ?_⟩) (by assumption) ?_; rotate_left
      · intro w hSw; (try dsimp only at hSw); go_simp; try with_reducible rfl
      try simp only [Act.put, setIfInBounds_toArray, set_cons_zero, set_cons_succ]
      refine wpAnyH_take (i := 18) (oi := ⟨some 68, _, _, _, _, _⟩) (v := ?_) rfl (by kernel_rfl) (by kernel_rfl) (by kernel_rfl) (fun _ _ _ h => h) (Or.inl ⟨by rfl, ?_⟩) (by assumption) ?_; rotate_left
      · intro w hSw; (try dsimp only at hSw); go_simp; try with_reducible rfl
      try simp only [Act.put, setIfInBounds_toArray, set_cons_zero, set_cons_succ]
      refine wpAnyH_ready (rs := [19]) (by kernel_rfl) (by simp) ?_
      refine AllReadyH.cons (o := ⟨none, _, _, _, _, _⟩) rfl (fun K hK => ?_) AllReadyH.nil
      go_simp
      refine hK.out _ _ ?_ (fun hHeld => ?_)
      · (try dsimp only); first | exact HSY.out | exact HSX.out | exact HS9.out _ HDR9.out | exact HS9.out _ (below_alloc_drew _ _)
      clear hK K
      try simp only [Act.put]
      refine wpAnyH_done (by kernel_rfl) ?_ _
      obtain ⟨⟨d0, d1⟩, _, n4⟩ := HSY.out
      go_wp2_with fail
      refine bodyPost_ret (a := Act.mk _ _) (results_tmp2 rfl _ _ _) rfl ?_
      exact ⟨L, 0, rfl, .inr ⟨rfl, HEV.out.symm, HL.out, p, l, HPL.out, by rw [← HP.out]; exact HGOOD.out, ⟨_, by rw [← HP.out, ← HL.out]; exact HNX.out, HLX.out⟩, HKX.out⟩⟩
  · have heb : (ev != 0) = true := by simpa using h0
    go_wp2_with fail
    refine bodyPost_ret (a := Act.mk _ _) (results_tmp2 rfl _ _ _) rfl ?_
    exact ⟨0, ev, rfl, .inl ⟨h0, .inl HEV.out, rfl, HN5.out, HB5.out⟩⟩
set_option maxRecDepth 100000 in
theorem clone_hold (A : Option Addr) (n c : Nat) (vals : List Value) (w : World) (hn : n ≤ 1000) (h : Rd w w.heap.size 4 A n vals) (h1 : ∀ u ∈ vals, u.oneCell' = true) :
    Calls Tryz.prog 55 #[.slice A n c] w fun e w' => ∃ A' c', e = .returned (.slice A' n c') ∧ n ≤ c' ∧ w'.ownsRow w.heap.size 79 4 (.slice A' n c') n vals ∧ Below w.heap.size w w' := by
  have H := Lib.hid h; clear h
  have HONE := Lib.hid h1; clear h1
  obtain ⟨i0, hi0, hz0, hz1, hz2⟩ := info_parts info_hold
  have HI0 := Lib.hid hi0; have HZ0 := Lib.hid hz0; have HZ1 := Lib.hid hz1; have HZ2 := Lib.hid hz2
  clear hi0 hz0 hz1 hz2
  have q : ∀ (w : World) (a : Option Addr) (n c n' c' : Nat), (binOp .eql 53 (.slice a n c) (.slice none n' c')).run Tryz.prog w = .ok (.bool a.isNone) w := fun w a n c n' c' => Lib.run_eql_slice_nil w _ _ a n c n' c' Tryz.underlying53
  cases A with
  | none =>
    have hn0 : n = 0 := by
      rcases Nat.eq_zero_or_pos n with h | h
      · exact h
      · obtain ⟨_, _, h1, _⟩ := H.out.2 h; cases h1
    subst hn0
    have hl : vals = [] := by have := H.out.1; simpa using this
    subst hl
    clear H HONE
    go_enter Tryz.func55, Tryz.ntmps55
    go_wp2_with fail
    go_ret
    exact ⟨none, 0, rfl, Nat.le_refl _, World.ownsRow_nil _ _ _ _, Below.refl _ _⟩
  | some a =>
    go_enter Tryz.func55, Tryz.ntmps55
    go_wp2_with (at_builtin; refine wpList_append_rd _ rfl (.tmp 5) (.tmp 6) _ rfl w.heap.size 79 i0 _ 4 48 Tryz.underlying53 HI0.out HZ0.out HZ1.out HZ2.out rfl (by decide) _ 0 [] rfl (World.ownsRow_made w #[] 0 (Nat.le_refl _) (by simp [maxLen]) (by simp)) _ (some a) n c vals rfl (H.out.alloc (Nat.le_refl _) _) HONE.out (by unfold maxLen; omega) (by omega) (by simp) ?_; intro v1 w1 hown1 hg1)
    rw [Nat.zero_add, List.nil_append] at hown1
    obtain ⟨A', c', rfl, hc⟩ := own_form hown1
    go_ret
    exact ⟨A', c', rfl, hc, hown1, (((Below.refl _ _).alloc (Nat.le_refl _) _).grown hg1 (by simp) (fun g hg => by cases hg; exact Nat.le_refl _))⟩
theorem HoldsB.at {w : World} {base : Nat} {A : Option Addr} {n c : Nat} {l : List HoldM} (h : HoldsB w base (.slice A n c) l) {i : Nat} {x : HoldM} (hx : l[i]? = some x) : ∃ g pv, A = some ⟨g, 0, none⟩ ∧ base ≤ g ∧ (∃ cs, Bk w g cs 79 ∧ cs[i * 4]? = some (.int .i64 x.id) ∧ cs[i * 4 + 1]? = some pv ∧ cs[i * 4 + 2]? = some (.int .i64 x.bits) ∧ cs[i * 4 + 3]? = some (.int .i64 x.til)) ∧ NmRow w pv x.path := by
  obtain ⟨vals, h1, h2⟩ := h
  obtain ⟨pv, q0, q1, q2, q3, q4⟩ := h2 i x hx
  have hi : i < l.length := (List.getElem?_eq_some_iff.1 hx).1
  rcases h1.2 with ⟨_, e⟩ | ⟨g, cap, cur, e, hg, hh, hcap, _, _, htk⟩
  · omega
  · injection e with e1 e2 e3
    have hc : ∀ (j : Nat) (u : Value), vals[j]? = some u → cur[j]? = some u := fun j u hu => by
      have hj : j < l.length * 4 := by
        have := (List.getElem?_eq_some_iff.1 hu).1
        have := h1.1
        omega
      rw [← hu, ← htk, List.getElem?_take, if_pos hj, Array.getElem?_toList]
    exact ⟨g, pv, e1, hg, ⟨cur, hh, hc _ _ q0, hc _ _ q1, hc _ _ q2, hc _ _ q3⟩, q4⟩
/-- One path written anew. -/
theorem HoldsB.put {w : World} {base g n c : Nat} {l : List HoldM} (h : HoldsB w base (.slice (some ⟨g, 0, none⟩) n c) l) {i : Nat} {x : HoldM} (hx : l[i]? = some x) {pv : Value} (hp : NmRow w pv x.path) : HoldsB (w.setCell ⟨g, i * 4 + 1, none⟩ pv) base (.slice (some ⟨g, 0, none⟩) n c) l := by
  obtain ⟨vals, h1, h2⟩ := h
  have hi : i < l.length := (List.getElem?_eq_some_iff.1 hx).1
  rcases h1.2 with ⟨e, _⟩ | ⟨g', cap, cur, e, hg, hh, hcap, hmx, hsz, htk⟩
  · cases e
  · injection e with e1 e2 e3
    injection e1 with e1
    injection e1 with e1 _ _
    subst e1
    have hbk : Bk w g cur 79 := hh
    have hck := CK.setCell (o := i * 4 + 1) (u := pv) hbk
    have hlv : vals.length = l.length * 4 := h1.1
    refine ⟨vals.set (i * 4 + 1) pv, ⟨by rw [List.length_set]; exact hlv, .inr ⟨g, cap, cur.setIfInBounds (i * 4 + 1) pv, by rw [e2, e3], hg, hbk.set _ _, hcap, hmx, by rw [Array.size_setIfInBounds]; exact hsz, ?_⟩⟩, fun j y hy => ?_⟩
    · rw [Array.toList_setIfInBounds, ← htk]
      rw [List.take_set]
    · obtain ⟨pv', q0, q1, q2, q3, q4⟩ := h2 j y hy
      have hne : ∀ o, (i ≠ j ∨ o ≠ 1) → o < 4 → (vals.set (i * 4 + 1) pv)[j * 4 + o]? = vals[j * 4 + o]? := fun o ho ho4 => by
        rw [List.getElem?_set_ne (by omega)]
      have z0 := hne 0 (.inr (by omega)) (by omega); have z2 := hne 2 (.inr (by omega)) (by omega); have z3 := hne 3 (.inr (by omega)) (by omega)
      rw [Nat.add_zero] at z0
      by_cases hij : i = j
      · subst hij
        obtain rfl : x = y := by rw [hx] at hy; injection hy
        refine ⟨pv, z0.trans q0, ?_, z2.trans q2, z3.trans q3, hp.ck hck (by decide)⟩
        rw [List.getElem?_set_self (by omega)]
      · exact ⟨pv', z0.trans q0, (hne 1 (.inl hij) (by omega)).trans q1, z2.trans q2, z3.trans q3, q4.ck hck (by decide)⟩
def HoldsP (l : List HoldM) (w : World) (e : Ending) (w' : World) : Prop := (∃ A c, e = .returned (.slice A l.length c) ∧ l.length ≤ c ∧ HoldsB w' w.heap.size (.slice A l.length c) l) ∧ Below w.heap.size w w'
set_option maxRecDepth 100000 in
set_option maxHeartbeats 4000000 in
theorem Holds_any {w : World} {N : Nat} {s : NS} {bn bl : Nat} {vh vs : Value} (h : NetAt w N s bn bl vh vs) (hni : NI s) :
    Calls Tryz.prog 30 #[.pointer (some ⟨N, 0, none⟩)] w (HoldsP s.holds w) := by
  obtain ⟨A, c, vals, rfl, hrd, hone, hvl, hvv⟩ := h.holds.rd
  have n0 := h.blk.cell 0; have n3 := h.blk.cell 3
  simp only [List.getElem?_toArray, List.getElem?_cons_succ, List.getElem?_cons_zero] at n0 n3
  have HV := Lib.hid (valid_any N _ w n0 rfl)
  have HCL := Lib.hid (clone_hold A s.holds.length c vals w (by have := hni.hl; omega) hrd hone)
  have HEACH : Hid (∀ x ∈ s.holds, 2 ≤ x.path.length ∧ x.path.length ≤ 16) := Lib.hid fun x hx => ⟨(hni.held.each x hx).len, (hni.held.each x hx).len16 h.ok⟩
  have HVV := Lib.hid hvv
  have HB0 : Hid (∀ W A' c', Below w.heap.size w W → W.ownsRow w.heap.size 79 4 (.slice A' s.holds.length c') s.holds.length vals → HoldsB W w.heap.size (.slice A' s.holds.length c') s.holds) := Lib.hid fun W A' c' hW ho => ⟨vals, ho, fun i x hx => by
    obtain ⟨pv, q0, q1, q2, q3, q4⟩ := hvv i x hx
    exact ⟨pv, q0, q1, q2, q3, q4.far hW⟩⟩
  have hl64 := hni.hl
  generalize hL : s.holds = L at *
  clear h hni hrd hone hvl hvv n0 HVV
  obtain ⟨ln, hln⟩ : ∃ ln, ln = L.length := ⟨_, rfl⟩
  have HLN := Lib.hid hln
  unfold HoldsP
  rw [← hln] at HCL HB0 n3 hl64 ⊢
  clear hln hL
  go_enter Tryz.func30, Tryz.ntmps30
  go_wp2_with fail
  refine HV.out.mono ?_
  clear HV
  rintro e w2 ⟨rfl, rfl⟩
  go_wp2_with fail
  refine HCL.out.mono ?_
  clear HCL
  rintro e w2 ⟨A2, c2, rfl, hc2, ho2, hb2⟩
  have HI0 : Hid (HoldsB w2 w.heap.size (.slice A2 ln c2) L ∧ Below w.heap.size w w2) := Lib.hid ⟨HB0.out w2 A2 c2 hb2 ho2, hb2⟩
  clear ho2 hb2 n3 HB0
  go_wp2_with fail
  go_loopw [4, 15] (fun _ i wr => ∃ k : Nat, k ≤ ln ∧ i = .int .i64 k ∧ HoldsB wr w.heap.size (.slice A2 ln c2) L ∧ Below w.heap.size w wr) (fun _ i _ => ln - (intOf i).toNat)
  case atStart => exact ⟨0, Nat.zero_le _, rfl, HI0.out⟩
  case round =>
    obtain ⟨k, hk, rfl, ho, hb⟩ := hrel
    obtain ⟨wi, rfl⟩ : ∃ z : World, z = wr := ⟨_, rfl⟩
    have HO := Lib.hid ho; have HB := Lib.hid hb
    clear ho hb HI0
    by_cases hlt : k < ln
    · have hki : (k : Int) < (ln : Int) := by omega
      obtain ⟨x, hx⟩ : ∃ x, L[k]? = some x := ⟨_, List.getElem?_eq_getElem (by rw [← HLN.out]; exact hlt)⟩
      have HX := Lib.hid hx
      obtain ⟨g, pv, rfl, hbg, ⟨cs, hbk, _, q1, _⟩, hrow⟩ := HO.out.at hx
      have HBK := Lib.hid hbk; have HBG := Lib.hid hbg
      have c1 := hbk.cell (k * 4 + 1)
      rw [q1] at c1
      obtain ⟨pb, pc, pcs, rfl, _⟩ := id hrow
      obtain ⟨e1, hrd⟩ := hrow.rd
      have hxl := HEACH.out x (List.mem_of_getElem? hx)
      have HXL := Lib.hid hxl
      have HCS := Lib.hid (clone_nm (some ⟨pb, 0, none⟩) x.path.length pc x.path wi (by omega) hrd)
      clear hx hbk q1 hrow hrd e1 hxl hbg
      generalize x.path.length = pl at *
      go_wp2_with fail
      refine HCS.out.mono ?_
      clear HCS
      rintro e w5 ⟨A5, c5, rfl, hc5, ho5, hb5⟩
      have HNR : Hid (NmRow w5 (.slice A5 pl c5) x.path) := Lib.hid (NmRow.own ho5 (fun e => by have := ho5.1; have := HXL.out; rw [e] at *; simp at *; omega))
      have HBK5 := Lib.hid (HBK.out.past hb5 HBK.out.lt)
      have HO5 : Hid (HoldsB w5 w.heap.size (.slice (some ⟨g, 0, none⟩) ln c2) L) := Lib.hid (HO.out.ck (T := fun _ => True) (.of_below hb5) trivial trivial)
      have HB5 := Lib.hid (bnextK HB.out hb5)
      have hcell5 : ∃ u, w5.cell? ⟨g, k * 4 + 1, none⟩ = some u := by
        obtain ⟨g', pv', e1, _, ⟨cs', hbk', _, q1', _⟩, _⟩ := HO5.out.at HX.out
        injection e1 with e1
        injection e1 with e1 _ _
        subst e1
        exact ⟨pv', by rw [hbk'.cell]; exact q1'⟩
      obtain ⟨u5, hu5⟩ := hcell5
      have hf5 := HBK5.out.froz (k * 4 + 1)
      clear ho5 hb5 c1
      go_wp2_with fail
      have HO6 := Lib.hid (HO5.out.put HX.out HNR.out)
      have HB6 : Hid (Below w.heap.size w (w5.setCell ⟨g, k * 4 + 1, none⟩ (.slice A5 pl c5))) := Lib.hid (HB5.out.setCell (p := ⟨g, k * 4 + 1, none⟩) HBG.out _)
      go_roundw
      case rel => exact ⟨k + 1, by omega, by go_num, HO6.out, HB6.out⟩
      case measure => simp [intOf]; omega
    · have hki : ¬ (k : Int) < (ln : Int) := by omega
      obtain rfl : k = ln := by omega
      go_wp2_with fail
      go_ret
      exact ⟨⟨_, _, rfl, hc2, HO.out⟩, HB.out⟩
end Go.Proofs.YtblilfbhohnbgaaGreat
