/- The contract of Link: the closure. Conditions: as each statement says. -/
import Derived.Test.YtghjlbbalngdhaaGreatDoorNet26
import Derived.Laws.Tables
import Derived.Deep.WholeRow
import Derived.Deep.DeepCutAuto
namespace Go.Proofs.YtghjlbbalngdhaaGreatDoor
open Go.RowKit
set_option linter.unusedVariables false
set_option linter.unusedSimpArgs false
def link1E (s : NS) (a b : Nm) : Int := if pairOf a b ∈ s.pairs then 10 else if s.pairs.length = 40 then 12 else 0
theorem pairOf_len (a b : Nm) (ha : a.length ≤ maxLen) (hb : b.length ≤ maxLen) : (pairOf a b).1.length ≤ maxLen ∧ (pairOf a b).2.length ≤ maxLen := by
  unfold pairOf; split
  · exact ⟨ha, hb⟩
  · exact ⟨hb, ha⟩
theorem below_alloc_drew (w : World) (o : Obj) : Below w.heap.size w (w.alloc o).drew := bnextK (below_alloc w o) (Qw.below ⟨1, rfl⟩ _)
theorem box_drew (w : World) (cs : Array Value) (t : TypeId) : Bk (w.alloc (.cells cs t)).drew w.heap.size cs t := Bk.new w cs t
theorem step_store_row {ops : Array Oper} {o : Oper} {a : Act} {w : World} {K : Act → World → Prop} {Q : Exit → Act → World → Prop} {E : Prop} (ty : TypeId) (x y : Operand) (hgd : o.guard = none) (ho : o.op = .store ty x y)
    (g : Nat) (cells : Array Value) (hx : a.eval x = .pointer (some ⟨g, 0, none⟩)) (hy : a.eval y = .agg cells)
    (t : TypeId) (old : Array Value) (hg : Bk w g old t) (hi : (Tryz.prog.info? ty).map (·.size) = some cells.size)
    (hold : old.size = cells.size) (h1 : cells.all (·.oneCell') = true)
    (h : K (a.put o.dst undef) (w.setRow g cells)) : if Region.wanted o (yielded ops a.tmps) = true then o.wp Tryz.prog a w K Q else E := by
  rw [if_pos (by simp [Region.wanted, hgd])]
  exact wp_store_row ty x y ho g cells hx hy t old hg hi hold h1 h
theorem below_setRow {w : World} {B g : Nat} {cs : Array Value} (hB : B ≤ g) : Below B w (w.setRow g cs) :=
  ⟨rfl, rfl, rfl, by simp [World.setRow], fun k hk => by simp only [World.setRow, Array.getElem?_modify]; rw [if_neg (by omega)]⟩
theorem size_drewN (w : World) (k : Nat) : (w.drewN k).heap.size = w.heap.size := rfl
set_option maxRecDepth 100000 in
set_option maxHeartbeats 4000000 in
theorem link1_any {w : World} {N : Nat} {s : NS} {bn bl : Nat} {vh vs : Value} (h : NetAt w N s bn bl vh vs) (a b : Nm) (ha : a.length ≤ maxLen) (hb : b.length ≤ maxLen) (p0 p1 p2 : Nat)
    (h0 : w.cell? ⟨p0, 0, none⟩ = some (.pointer (some ⟨N, 0, none⟩))) (h1 : w.cell? ⟨p1, 0, none⟩ = some (encS a)) (h2 : w.cell? ⟨p2, 0, none⟩ = some (encS b)) :
    Calls Tryz.prog 35 #[.pointer (some ⟨p0, 0, none⟩), .pointer (some ⟨p1, 0, none⟩), .pointer (some ⟨p2, 0, none⟩)] w (AnsN (link1E s a b) w) := by
  have hpl := pairOf_len a b ha hb
  have HB := Lib.hid (fun W => between_any a b W)
  have HU : Hid (∀ w, pairOf a b ∉ s.pairs → Calls Tryz.prog 29 #[.bool ((s.pairs.length : Int) == 40), .int .i64 12] w (CondP (link1E s a b) w)) := Lib.hid fun w hm => unless_P _ 12 _ w (by
    unfold link1E
    rw [if_neg hm]
    by_cases h1 : s.pairs.length = 40
    · rw [if_pos h1, h1]; rfl
    · rw [if_neg h1, if_neg (by simp; omega)])
  have HE : Hid (pairOf a b ∈ s.pairs → link1E s a b = 10) := Lib.hid fun hm => by unfold link1E; rw [if_pos hm]
  have HS0 : Hid (∀ W, Below w.heap.size w W → W.cell? ⟨p0, 0, none⟩ = some (.pointer (some ⟨N, 0, none⟩)) ∧ W.cell? ⟨p1, 0, none⟩ = some (encS a) ∧ W.cell? ⟨p2, 0, none⟩ = some (encS b) ∧ W.cell? ⟨N, 1, none⟩ = some (.map (some bl)) ∧
      (Instr.lookup 24 (.map (some bl)) (.agg #[encS (pairOf a b).1, encS (pairOf a b).2]) true).run Tryz.prog W = .ok (.tuple #[lkV (if pairOf a b ∈ s.pairs then s.lk (pairOf a b) else lk0), .bool (decide (pairOf a b ∈ s.pairs))]) W ∧ Below w.heap.size w W) := Lib.hid fun W hW => by
    have c1 := (h.far hW).blk.cell 1
    simp only [List.getElem?_toArray, List.getElem?_cons_succ, List.getElem?_cons_zero] at c1
    exact ⟨(hW.cell (p := ⟨p0, 0, none⟩) (cell_lt h0)).trans h0, (hW.cell (p := ⟨p1, 0, none⟩) (cell_lt h1)).trans h1, (hW.cell (p := ⟨p2, 0, none⟩) (cell_lt h2)).trans h2, c1, links_look (h.far hW) (pairOf a b) hpl true, hW⟩
  have HL : Hid (∀ W, Below w.heap.size w W → W.cell? ⟨p0, 0, none⟩ = some (.pointer (some ⟨N, 0, none⟩)) ∧ W.cell? ⟨N, 1, none⟩ = some (.map (some bl)) ∧ (Builtin.len_ #[24] 3 #[.map (some bl)]).run Tryz.prog W = .ok (.int .i64 s.pairs.length) W) := Lib.hid fun W hW =>
    ⟨(HS0.out W hW).1, (HS0.out W hW).2.2.2.1, (h.far hW).links.len Tryz.underlying24 _⟩
  have HNOW : Hid (Below w.heap.size w w.drew) := Lib.hid (Qw.below ⟨1, rfl⟩ _)
  have hLK : ∃ q : LkV, q = if pairOf a b ∈ s.pairs then s.lk (pairOf a b) else lk0 := ⟨_, rfl⟩
  obtain ⟨lq, hlq⟩ := hLK
  rw [← hlq] at HS0
  clear hlq
  obtain ⟨x1, x2, x3, x4, x5, x6, x7⟩ := lq
  simp only [lkV] at HS0
  generalize link1E s a b = ev at *
  generalize s.pairs.length = ln at *
  generalize hpq : pairOf a b = q at *
  clear hpq h h0 h1 h2
  by_cases hm : q ∈ s.pairs
  · rw [decide_eq_true hm] at HS0
    go_enter Tryz.func35, Tryz.ntmps35
    go_wp2_with fail
    refine wp_region_held_drew (S := (fun W => W.cell? ⟨p0, 0, none⟩ = some (.pointer (some ⟨N, 0, none⟩)) ∧ W.cell? ⟨p1, 0, none⟩ = some (encS a) ∧ W.cell? ⟨p2, 0, none⟩ = some (encS b) ∧ W.cell? ⟨N, 1, none⟩ = some (.map (some bl)) ∧ (Instr.lookup 24 (.map (some bl)) (.agg #[encS q.1, encS q.2]) true).run Tryz.prog W = .ok (.tuple #[.agg #[.int .i64 x1, .int .i64 x2, .int .i64 x3, .int .i64 x4, .int .i64 x5, .int .i64 x6, .int .i64 x7], .bool true]) W ∧ Below w.heap.size w W)) (by kernel_rfl) ?_ (fun hHeld => ?_)
    · (try dsimp only); first | exact HS0.out _ HNOW.out | exact HS0.out _ (below_alloc_drew _ _) | exact HS0.out _ (bnextK HNOW.out (below_alloc _ _))
    refine wpAnyH_take (i := 0) (oi := ⟨some 7, _, _, _, _, _⟩) (v := ?_) rfl (by kernel_rfl) (by kernel_rfl) (by kernel_rfl) (fun _ _ _ h => h) (Or.inl ⟨by rfl, ?_⟩) (by assumption) ?_
    rotate_left
    · (intro w hSw; (try dsimp only at hSw); go_simp; try with_reducible rfl)
    try simp only [Act.put, List.setIfInBounds_toArray, List.set_cons_zero, List.set_cons_succ]
    refine wpAnyH_take (i := 1) (oi := ⟨some 8, _, _, _, _, _⟩) (v := ?_) rfl (by kernel_rfl) (by kernel_rfl) (by kernel_rfl) (fun _ _ _ h => h) (Or.inl ⟨by rfl, ?_⟩) (by assumption) ?_
    rotate_left
    · (intro w hSw; (try dsimp only at hSw); go_simp; try with_reducible rfl)
    try simp only [Act.put, List.setIfInBounds_toArray, List.set_cons_zero, List.set_cons_succ]
    refine wpAnyH_take (i := 2) (oi := ⟨some 9, _, _, _, _, _⟩) (v := ?_) rfl (by kernel_rfl) (by kernel_rfl) (by kernel_rfl) (fun _ _ _ h => h) (Or.inl ⟨by rfl, ?_⟩) (by assumption) ?_
    rotate_left
    · (intro w hSw; (try dsimp only at hSw); go_simp; try with_reducible rfl)
    try simp only [Act.put, List.setIfInBounds_toArray, List.set_cons_zero, List.set_cons_succ]
    refine wpAnyH_take (i := 3) (oi := ⟨some 10, _, _, _, _, _⟩) (v := ?_) rfl (by kernel_rfl) (by kernel_rfl) (by kernel_rfl) (fun _ _ _ h => h) (Or.inl ⟨by rfl, ?_⟩) (by assumption) ?_
    rotate_left
    · (intro w hSw; (try dsimp only at hSw); go_simp; try with_reducible rfl)
    try simp only [Act.put, List.setIfInBounds_toArray, List.set_cons_zero, List.set_cons_succ]
    refine wpAnyH_take (i := 4) (oi := ⟨some 11, _, _, _, _, _⟩) (v := ?_) rfl (by kernel_rfl) (by kernel_rfl) (by kernel_rfl) (fun _ _ _ h => h) (Or.inl ⟨by rfl, ?_⟩) (by assumption) ?_
    rotate_left
    · (intro w hSw; (try dsimp only at hSw); go_simp; try with_reducible rfl)
    try simp only [Act.put, List.setIfInBounds_toArray, List.set_cons_zero, List.set_cons_succ]
    refine wpAnyH_take (i := 5) (oi := ⟨some 12, _, _, _, _, _⟩) (v := ?_) rfl (by kernel_rfl) (by kernel_rfl) (by kernel_rfl) (fun _ _ _ h => h) (Or.inl ⟨by rfl, ?_⟩) (by assumption) ?_
    rotate_left
    · (intro w hSw; (try dsimp only at hSw); go_simp; try with_reducible rfl)
    try simp only [Act.put, List.setIfInBounds_toArray, List.set_cons_zero, List.set_cons_succ]
    refine wpAnyH_ready (rs := [6, 11]) (by kernel_rfl) (by simp) ?_
    refine AllReadyH.cons (o := ⟨some 13, _, _, _, _, _⟩) rfl (fun K hK => ?_) ?_
    · skip
      go_simp
      refine (HB.out _).mono ?_
      rintro e w3 ⟨rfl, b3⟩
      have HNOW := Lib.hid (bnextK HNOW.out b3)
      go_wp2_with fail
      refine hK.out _ _ ?_ (fun hHeld => ?_)
      · (try dsimp only); first | exact HS0.out _ HNOW.out | exact HS0.out _ (below_alloc_drew _ _) | exact HS0.out _ (bnextK HNOW.out (below_alloc _ _))
      clear hK K
      try simp only [Act.put, List.setIfInBounds_toArray, List.set_cons_zero, List.set_cons_succ]
      refine wpAnyH_take (i := 7) (oi := ⟨some 14, _, _, _, _, _⟩) (v := ?_) rfl (by kernel_rfl) (by kernel_rfl) (by kernel_rfl) (fun _ _ _ h => h) (Or.inl ⟨by rfl, ?_⟩) (by assumption) ?_
      rotate_left
      · (intro w hSw; (try dsimp only at hSw); go_simp; try with_reducible rfl)
      try simp only [Act.put, List.setIfInBounds_toArray, List.set_cons_zero, List.set_cons_succ]
      refine wpAnyH_take (i := 8) (oi := ⟨some 6, _, _, _, _, _⟩) (v := ?_) rfl (by kernel_rfl) (by kernel_rfl) (by kernel_rfl) (fun _ _ _ h => h) (Or.inl ⟨by rfl, ?_⟩) (by assumption) ?_
      rotate_left
      · (intro w hSw; (try dsimp only at hSw); go_simp; try with_reducible rfl)
      try simp only [Act.put, List.setIfInBounds_toArray, List.set_cons_zero, List.set_cons_succ]
      refine wpAnyH_take (i := 9) (oi := ⟨some 15, _, _, _, _, _⟩) (v := ?_) rfl (by kernel_rfl) (by kernel_rfl) (by kernel_rfl) (fun _ _ _ h => h) (Or.inl ⟨by rfl, ?_⟩) (by assumption) ?_
      rotate_left
      · (intro w hSw; (try dsimp only at hSw); go_simp; try with_reducible rfl)
      try simp only [Act.put, List.setIfInBounds_toArray, List.set_cons_zero, List.set_cons_succ]
      refine wpAnyH_take (i := 10) (oi := ⟨some 16, _, _, _, _, _⟩) (v := ?_) rfl (by kernel_rfl) (by kernel_rfl) (by kernel_rfl) (fun _ _ _ h => h) (Or.inl ⟨by rfl, ?_⟩) (by assumption) ?_
      rotate_left
      · (intro w hSw; (try dsimp only at hSw); go_simp; try with_reducible rfl)
      try simp only [Act.put, List.setIfInBounds_toArray, List.set_cons_zero, List.set_cons_succ]
      refine wpAnyH_ready (rs := [11]) (by kernel_rfl) (by simp) ?_
      refine AllReadyH.cons (o := ⟨some 4, _, _, _, _, _⟩) rfl (fun K hK => ?_) AllReadyH.nil
      go_simp
      refine hK.out _ _ ?_ (fun hHeld => ?_)
      · (try dsimp only); first | exact HS0.out _ HNOW.out | exact HS0.out _ (below_alloc_drew _ _) | exact HS0.out _ (bnextK HNOW.out (below_alloc _ _))
      clear hK K
      try simp only [Act.put, List.setIfInBounds_toArray, List.set_cons_zero, List.set_cons_succ]
      refine wpAnyH_ready (rs := [12]) (by kernel_rfl) (by simp) ?_
      refine AllReadyH.cons (o := ⟨none, _, _, _, _, _⟩) rfl (fun K hK => ?_) AllReadyH.nil
      refine step_store_row 81 _ _ rfl rfl _ #[.int .i64 x1, .int .i64 x2, .int .i64 x3, .int .i64 x4, .int .i64 x5, .int .i64 x6, .int .i64 x7] rfl rfl _ _ (Bk.new _ _ _) rfl rfl (by simp [Value.oneCell']) ?_
      rw [World.setRow_alloc_new]
      have HNOW := Lib.hid (bnextK HNOW.out (below_alloc w3 (.cells #[.int .i64 x1, .int .i64 x2, .int .i64 x3, .int .i64 x4, .int .i64 x5, .int .i64 x6, .int .i64 x7] 81)))
      refine hK.out _ _ ?_ (fun hHeld => ?_)
      · (try dsimp only); first | exact HS0.out _ HNOW.out | exact HS0.out _ (below_alloc_drew _ _) | exact HS0.out _ (bnextK HNOW.out (below_alloc _ _))
      clear hK K
      try simp only [Act.put, List.setIfInBounds_toArray, List.set_cons_zero, List.set_cons_succ]
      refine wpAnyH_take (i := 13) (oi := ⟨some 5, _, _, _, _, _⟩) (v := ?_) rfl (by kernel_rfl) (by kernel_rfl) (by kernel_rfl) (fun _ _ _ h => h) (Or.inl ⟨by rfl, ?_⟩) (by assumption) ?_
      rotate_left
      · (intro w hSw; (try dsimp only at hSw); go_simp; try with_reducible rfl)
      try simp only [Act.put, List.setIfInBounds_toArray, List.set_cons_zero, List.set_cons_succ]
      refine wpAnyH_done (by kernel_rfl) ?_ _
      go_wp2_with fail
      go_ret
      exact ⟨by rw [HE.out hm]; rfl, HNOW.out⟩
    refine AllReadyH.cons (o := ⟨some 4, _, _, _, _, _⟩) rfl (fun K hK => ?_) AllReadyH.nil
    go_simp
    refine hK.out _ _ ?_ (fun hHeld => ?_)
    · (try dsimp only); first | exact HS0.out _ HNOW.out | exact HS0.out _ (below_alloc_drew _ _) | exact HS0.out _ (bnextK HNOW.out (below_alloc _ _))
    clear hK K
    try simp only [Act.put, List.setIfInBounds_toArray, List.set_cons_zero, List.set_cons_succ]
    refine wpAnyH_ready (rs := [6]) (by kernel_rfl) (by simp) ?_
    refine AllReadyH.cons (o := ⟨some 13, _, _, _, _, _⟩) rfl (fun K hK => ?_) AllReadyH.nil
    go_simp
    refine (HB.out _).mono ?_
    rintro e w3 ⟨rfl, b3⟩
    have KB := Lib.hid ((box_drew w _ _).past b3 (box_drew w _ _).lt)
    have HNOW := Lib.hid (bnextK (below_alloc_drew w _) b3)
    go_wp2_with fail
    refine hK.out _ _ ?_ (fun hHeld => ?_)
    · (try dsimp only); first | exact HS0.out _ HNOW.out | exact HS0.out _ (below_alloc_drew _ _) | exact HS0.out _ (bnextK HNOW.out (below_alloc _ _))
    clear hK K
    try simp only [Act.put, List.setIfInBounds_toArray, List.set_cons_zero, List.set_cons_succ]
    refine wpAnyH_take (i := 7) (oi := ⟨some 14, _, _, _, _, _⟩) (v := ?_) rfl (by kernel_rfl) (by kernel_rfl) (by kernel_rfl) (fun _ _ _ h => h) (Or.inl ⟨by rfl, ?_⟩) (by assumption) ?_
    rotate_left
    · (intro w hSw; (try dsimp only at hSw); go_simp; try with_reducible rfl)
    try simp only [Act.put, List.setIfInBounds_toArray, List.set_cons_zero, List.set_cons_succ]
    refine wpAnyH_take (i := 8) (oi := ⟨some 6, _, _, _, _, _⟩) (v := ?_) rfl (by kernel_rfl) (by kernel_rfl) (by kernel_rfl) (fun _ _ _ h => h) (Or.inl ⟨by rfl, ?_⟩) (by assumption) ?_
    rotate_left
    · (intro w hSw; (try dsimp only at hSw); go_simp; try with_reducible rfl)
    try simp only [Act.put, List.setIfInBounds_toArray, List.set_cons_zero, List.set_cons_succ]
    refine wpAnyH_take (i := 9) (oi := ⟨some 15, _, _, _, _, _⟩) (v := ?_) rfl (by kernel_rfl) (by kernel_rfl) (by kernel_rfl) (fun _ _ _ h => h) (Or.inl ⟨by rfl, ?_⟩) (by assumption) ?_
    rotate_left
    · (intro w hSw; (try dsimp only at hSw); go_simp; try with_reducible rfl)
    try simp only [Act.put, List.setIfInBounds_toArray, List.set_cons_zero, List.set_cons_succ]
    refine wpAnyH_take (i := 10) (oi := ⟨some 16, _, _, _, _, _⟩) (v := ?_) rfl (by kernel_rfl) (by kernel_rfl) (by kernel_rfl) (fun _ _ _ h => h) (Or.inl ⟨by rfl, ?_⟩) (by assumption) ?_
    rotate_left
    · (intro w hSw; (try dsimp only at hSw); go_simp; try with_reducible rfl)
    try simp only [Act.put, List.setIfInBounds_toArray, List.set_cons_zero, List.set_cons_succ]
    refine wpAnyH_ready (rs := [12]) (by kernel_rfl) (by simp) ?_
    refine AllReadyH.cons (o := ⟨none, _, _, _, _, _⟩) rfl (fun K hK => ?_) AllReadyH.nil
    refine step_store_row 81 _ _ rfl rfl w.heap.size #[.int .i64 x1, .int .i64 x2, .int .i64 x3, .int .i64 x4, .int .i64 x5, .int .i64 x6, .int .i64 x7] rfl rfl _ _ KB.out rfl rfl (by simp [Value.oneCell']) ?_
    have HNOW := Lib.hid (HNOW.out.trans (below_setRow (cs := #[.int .i64 x1, .int .i64 x2, .int .i64 x3, .int .i64 x4, .int .i64 x5, .int .i64 x6, .int .i64 x7]) (Nat.le_refl _)))
    refine hK.out _ _ ?_ (fun hHeld => ?_)
    · (try dsimp only); first | exact HS0.out _ HNOW.out | exact HS0.out _ (below_alloc_drew _ _) | exact HS0.out _ (bnextK HNOW.out (below_alloc _ _))
    clear hK K
    try simp only [Act.put, List.setIfInBounds_toArray, List.set_cons_zero, List.set_cons_succ]
    refine wpAnyH_take (i := 13) (oi := ⟨some 5, _, _, _, _, _⟩) (v := ?_) rfl (by kernel_rfl) (by kernel_rfl) (by kernel_rfl) (fun _ _ _ h => h) (Or.inl ⟨by rfl, ?_⟩) (by assumption) ?_
    rotate_left
    · (intro w hSw; (try dsimp only at hSw); go_simp; try with_reducible rfl)
    try simp only [Act.put, List.setIfInBounds_toArray, List.set_cons_zero, List.set_cons_succ]
    refine wpAnyH_done (by kernel_rfl) ?_ _
    go_wp2_with fail
    go_ret
    exact ⟨by rw [HE.out hm]; rfl, HNOW.out⟩
  · rw [decide_eq_false hm] at HS0
    go_enter Tryz.func35, Tryz.ntmps35
    go_wp2_with fail
    refine wp_region_held_drew (S := (fun W => W.cell? ⟨p0, 0, none⟩ = some (.pointer (some ⟨N, 0, none⟩)) ∧ W.cell? ⟨p1, 0, none⟩ = some (encS a) ∧ W.cell? ⟨p2, 0, none⟩ = some (encS b) ∧ W.cell? ⟨N, 1, none⟩ = some (.map (some bl)) ∧ (Instr.lookup 24 (.map (some bl)) (.agg #[encS q.1, encS q.2]) true).run Tryz.prog W = .ok (.tuple #[.agg #[.int .i64 x1, .int .i64 x2, .int .i64 x3, .int .i64 x4, .int .i64 x5, .int .i64 x6, .int .i64 x7], .bool false]) W ∧ Below w.heap.size w W)) (by kernel_rfl) ?_ (fun hHeld => ?_)
    · (try dsimp only); first | exact HS0.out _ HNOW.out | exact HS0.out _ (below_alloc_drew _ _) | exact HS0.out _ (bnextK HNOW.out (below_alloc _ _))
    refine wpAnyH_take (i := 0) (oi := ⟨some 7, _, _, _, _, _⟩) (v := ?_) rfl (by kernel_rfl) (by kernel_rfl) (by kernel_rfl) (fun _ _ _ h => h) (Or.inl ⟨by rfl, ?_⟩) (by assumption) ?_
    rotate_left
    · (intro w hSw; (try dsimp only at hSw); go_simp; try with_reducible rfl)
    try simp only [Act.put, List.setIfInBounds_toArray, List.set_cons_zero, List.set_cons_succ]
    refine wpAnyH_take (i := 1) (oi := ⟨some 8, _, _, _, _, _⟩) (v := ?_) rfl (by kernel_rfl) (by kernel_rfl) (by kernel_rfl) (fun _ _ _ h => h) (Or.inl ⟨by rfl, ?_⟩) (by assumption) ?_
    rotate_left
    · (intro w hSw; (try dsimp only at hSw); go_simp; try with_reducible rfl)
    try simp only [Act.put, List.setIfInBounds_toArray, List.set_cons_zero, List.set_cons_succ]
    refine wpAnyH_take (i := 2) (oi := ⟨some 9, _, _, _, _, _⟩) (v := ?_) rfl (by kernel_rfl) (by kernel_rfl) (by kernel_rfl) (fun _ _ _ h => h) (Or.inl ⟨by rfl, ?_⟩) (by assumption) ?_
    rotate_left
    · (intro w hSw; (try dsimp only at hSw); go_simp; try with_reducible rfl)
    try simp only [Act.put, List.setIfInBounds_toArray, List.set_cons_zero, List.set_cons_succ]
    refine wpAnyH_take (i := 3) (oi := ⟨some 10, _, _, _, _, _⟩) (v := ?_) rfl (by kernel_rfl) (by kernel_rfl) (by kernel_rfl) (fun _ _ _ h => h) (Or.inl ⟨by rfl, ?_⟩) (by assumption) ?_
    rotate_left
    · (intro w hSw; (try dsimp only at hSw); go_simp; try with_reducible rfl)
    try simp only [Act.put, List.setIfInBounds_toArray, List.set_cons_zero, List.set_cons_succ]
    refine wpAnyH_take (i := 4) (oi := ⟨some 11, _, _, _, _, _⟩) (v := ?_) rfl (by kernel_rfl) (by kernel_rfl) (by kernel_rfl) (fun _ _ _ h => h) (Or.inl ⟨by rfl, ?_⟩) (by assumption) ?_
    rotate_left
    · (intro w hSw; (try dsimp only at hSw); go_simp; try with_reducible rfl)
    try simp only [Act.put, List.setIfInBounds_toArray, List.set_cons_zero, List.set_cons_succ]
    refine wpAnyH_take (i := 5) (oi := ⟨some 12, _, _, _, _, _⟩) (v := ?_) rfl (by kernel_rfl) (by kernel_rfl) (by kernel_rfl) (fun _ _ _ h => h) (Or.inl ⟨by rfl, ?_⟩) (by assumption) ?_
    rotate_left
    · (intro w hSw; (try dsimp only at hSw); go_simp; try with_reducible rfl)
    try simp only [Act.put, List.setIfInBounds_toArray, List.set_cons_zero, List.set_cons_succ]
    refine wpAnyH_ready (rs := [6, 11]) (by kernel_rfl) (by simp) ?_
    refine AllReadyH.cons (o := ⟨some 13, _, _, _, _, _⟩) rfl (fun K hK => ?_) ?_
    · skip
      go_simp
      refine (HB.out _).mono ?_
      rintro e w3 ⟨rfl, b3⟩
      have HNOW := Lib.hid (bnextK HNOW.out b3)
      go_wp2_with fail
      refine hK.out _ _ ?_ (fun hHeld => ?_)
      · (try dsimp only); first | exact HS0.out _ HNOW.out | exact HS0.out _ (below_alloc_drew _ _) | exact HS0.out _ (bnextK HNOW.out (below_alloc _ _))
      clear hK K
      try simp only [Act.put, List.setIfInBounds_toArray, List.set_cons_zero, List.set_cons_succ]
      refine wpAnyH_take (i := 7) (oi := ⟨some 14, _, _, _, _, _⟩) (v := ?_) rfl (by kernel_rfl) (by kernel_rfl) (by kernel_rfl) (fun _ _ _ h => h) (Or.inl ⟨by rfl, ?_⟩) (by assumption) ?_
      rotate_left
      · (intro w hSw; (try dsimp only at hSw); go_simp; try with_reducible rfl)
      try simp only [Act.put, List.setIfInBounds_toArray, List.set_cons_zero, List.set_cons_succ]
      refine wpAnyH_take (i := 8) (oi := ⟨some 6, _, _, _, _, _⟩) (v := ?_) rfl (by kernel_rfl) (by kernel_rfl) (by kernel_rfl) (fun _ _ _ h => h) (Or.inl ⟨by rfl, ?_⟩) (by assumption) ?_
      rotate_left
      · (intro w hSw; (try dsimp only at hSw); go_simp; try with_reducible rfl)
      try simp only [Act.put, List.setIfInBounds_toArray, List.set_cons_zero, List.set_cons_succ]
      refine wpAnyH_take (i := 9) (oi := ⟨some 15, _, _, _, _, _⟩) (v := ?_) rfl (by kernel_rfl) (by kernel_rfl) (by kernel_rfl) (fun _ _ _ h => h) (Or.inl ⟨by rfl, ?_⟩) (by assumption) ?_
      rotate_left
      · (intro w hSw; (try dsimp only at hSw); go_simp; try with_reducible rfl)
      try simp only [Act.put, List.setIfInBounds_toArray, List.set_cons_zero, List.set_cons_succ]
      refine wpAnyH_take (i := 10) (oi := ⟨some 16, _, _, _, _, _⟩) (v := ?_) rfl (by kernel_rfl) (by kernel_rfl) (by kernel_rfl) (fun _ _ _ h => h) (Or.inl ⟨by rfl, ?_⟩) (by assumption) ?_
      rotate_left
      · (intro w hSw; (try dsimp only at hSw); go_simp; try with_reducible rfl)
      try simp only [Act.put, List.setIfInBounds_toArray, List.set_cons_zero, List.set_cons_succ]
      refine wpAnyH_ready (rs := [11]) (by kernel_rfl) (by simp) ?_
      refine AllReadyH.cons (o := ⟨some 4, _, _, _, _, _⟩) rfl (fun K hK => ?_) AllReadyH.nil
      go_simp
      refine hK.out _ _ ?_ (fun hHeld => ?_)
      · (try dsimp only); first | exact HS0.out _ HNOW.out | exact HS0.out _ (below_alloc_drew _ _) | exact HS0.out _ (bnextK HNOW.out (below_alloc _ _))
      clear hK K
      try simp only [Act.put, List.setIfInBounds_toArray, List.set_cons_zero, List.set_cons_succ]
      refine wpAnyH_ready (rs := [12]) (by kernel_rfl) (by simp) ?_
      refine AllReadyH.cons (o := ⟨none, _, _, _, _, _⟩) rfl (fun K hK => ?_) AllReadyH.nil
      refine step_store_row 81 _ _ rfl rfl _ #[.int .i64 x1, .int .i64 x2, .int .i64 x3, .int .i64 x4, .int .i64 x5, .int .i64 x6, .int .i64 x7] rfl rfl _ _ (Bk.new _ _ _) rfl rfl (by simp [Value.oneCell']) ?_
      rw [World.setRow_alloc_new]
      have HNOW := Lib.hid (bnextK HNOW.out (below_alloc w3 (.cells #[.int .i64 x1, .int .i64 x2, .int .i64 x3, .int .i64 x4, .int .i64 x5, .int .i64 x6, .int .i64 x7] 81)))
      refine hK.out _ _ ?_ (fun hHeld => ?_)
      · (try dsimp only); first | exact HS0.out _ HNOW.out | exact HS0.out _ (below_alloc_drew _ _) | exact HS0.out _ (bnextK HNOW.out (below_alloc _ _))
      clear hK K
      try simp only [Act.put, List.setIfInBounds_toArray, List.set_cons_zero, List.set_cons_succ]
      refine wpAnyH_take (i := 13) (oi := ⟨some 5, _, _, _, _, _⟩) (v := ?_) rfl (by kernel_rfl) (by kernel_rfl) (by kernel_rfl) (fun _ _ _ h => h) (Or.inl ⟨by rfl, ?_⟩) (by assumption) ?_
      rotate_left
      · (intro w hSw; (try dsimp only at hSw); go_simp; try with_reducible rfl)
      try simp only [Act.put, List.setIfInBounds_toArray, List.set_cons_zero, List.set_cons_succ]
      refine wpAnyH_done (by kernel_rfl) ?_ _
      obtain ⟨e0, e1, hlen⟩ := HL.out _ HNOW.out
      go_wp2_with fail
      refine (HU.out _ hm).mono ?_
      rintro e w4 ⟨f, rfl, ⟨fn, cap, rfl, hen, hcl⟩, hb4⟩
      have HC := Lib.hid (hcl w4 (Below.refl _ _)); have HB4 := Lib.hid (bnextK HNOW.out hb4)
      have hen1 := hen w4
      clear hen hcl hb4 e0 e1 hlen
      go_wp2_with fail
      refine HC.out.mono ?_
      clear HC hen1
      rintro e w5 ⟨rfl, hb5⟩
      have HB5 := Lib.hid hb5; clear hb5
      go_wp2_with fail
      go_ret
      exact ⟨rfl, bnextK HB4.out HB5.out⟩
    refine AllReadyH.cons (o := ⟨some 4, _, _, _, _, _⟩) rfl (fun K hK => ?_) AllReadyH.nil
    go_simp
    refine hK.out _ _ ?_ (fun hHeld => ?_)
    · (try dsimp only); first | exact HS0.out _ HNOW.out | exact HS0.out _ (below_alloc_drew _ _) | exact HS0.out _ (bnextK HNOW.out (below_alloc _ _))
    clear hK K
    try simp only [Act.put, List.setIfInBounds_toArray, List.set_cons_zero, List.set_cons_succ]
    refine wpAnyH_ready (rs := [6]) (by kernel_rfl) (by simp) ?_
    refine AllReadyH.cons (o := ⟨some 13, _, _, _, _, _⟩) rfl (fun K hK => ?_) AllReadyH.nil
    go_simp
    refine (HB.out _).mono ?_
    rintro e w3 ⟨rfl, b3⟩
    have KB := Lib.hid ((box_drew w _ _).past b3 (box_drew w _ _).lt)
    have HNOW := Lib.hid (bnextK (below_alloc_drew w _) b3)
    go_wp2_with fail
    refine hK.out _ _ ?_ (fun hHeld => ?_)
    · (try dsimp only); first | exact HS0.out _ HNOW.out | exact HS0.out _ (below_alloc_drew _ _) | exact HS0.out _ (bnextK HNOW.out (below_alloc _ _))
    clear hK K
    try simp only [Act.put, List.setIfInBounds_toArray, List.set_cons_zero, List.set_cons_succ]
    refine wpAnyH_take (i := 7) (oi := ⟨some 14, _, _, _, _, _⟩) (v := ?_) rfl (by kernel_rfl) (by kernel_rfl) (by kernel_rfl) (fun _ _ _ h => h) (Or.inl ⟨by rfl, ?_⟩) (by assumption) ?_
    rotate_left
    · (intro w hSw; (try dsimp only at hSw); go_simp; try with_reducible rfl)
    try simp only [Act.put, List.setIfInBounds_toArray, List.set_cons_zero, List.set_cons_succ]
    refine wpAnyH_take (i := 8) (oi := ⟨some 6, _, _, _, _, _⟩) (v := ?_) rfl (by kernel_rfl) (by kernel_rfl) (by kernel_rfl) (fun _ _ _ h => h) (Or.inl ⟨by rfl, ?_⟩) (by assumption) ?_
    rotate_left
    · (intro w hSw; (try dsimp only at hSw); go_simp; try with_reducible rfl)
    try simp only [Act.put, List.setIfInBounds_toArray, List.set_cons_zero, List.set_cons_succ]
    refine wpAnyH_take (i := 9) (oi := ⟨some 15, _, _, _, _, _⟩) (v := ?_) rfl (by kernel_rfl) (by kernel_rfl) (by kernel_rfl) (fun _ _ _ h => h) (Or.inl ⟨by rfl, ?_⟩) (by assumption) ?_
    rotate_left
    · (intro w hSw; (try dsimp only at hSw); go_simp; try with_reducible rfl)
    try simp only [Act.put, List.setIfInBounds_toArray, List.set_cons_zero, List.set_cons_succ]
    refine wpAnyH_take (i := 10) (oi := ⟨some 16, _, _, _, _, _⟩) (v := ?_) rfl (by kernel_rfl) (by kernel_rfl) (by kernel_rfl) (fun _ _ _ h => h) (Or.inl ⟨by rfl, ?_⟩) (by assumption) ?_
    rotate_left
    · (intro w hSw; (try dsimp only at hSw); go_simp; try with_reducible rfl)
    try simp only [Act.put, List.setIfInBounds_toArray, List.set_cons_zero, List.set_cons_succ]
    refine wpAnyH_ready (rs := [12]) (by kernel_rfl) (by simp) ?_
    refine AllReadyH.cons (o := ⟨none, _, _, _, _, _⟩) rfl (fun K hK => ?_) AllReadyH.nil
    refine step_store_row 81 _ _ rfl rfl w.heap.size #[.int .i64 x1, .int .i64 x2, .int .i64 x3, .int .i64 x4, .int .i64 x5, .int .i64 x6, .int .i64 x7] rfl rfl _ _ KB.out rfl rfl (by simp [Value.oneCell']) ?_
    have HNOW := Lib.hid (HNOW.out.trans (below_setRow (cs := #[.int .i64 x1, .int .i64 x2, .int .i64 x3, .int .i64 x4, .int .i64 x5, .int .i64 x6, .int .i64 x7]) (Nat.le_refl _)))
    refine hK.out _ _ ?_ (fun hHeld => ?_)
    · (try dsimp only); first | exact HS0.out _ HNOW.out | exact HS0.out _ (below_alloc_drew _ _) | exact HS0.out _ (bnextK HNOW.out (below_alloc _ _))
    clear hK K
    try simp only [Act.put, List.setIfInBounds_toArray, List.set_cons_zero, List.set_cons_succ]
    refine wpAnyH_take (i := 13) (oi := ⟨some 5, _, _, _, _, _⟩) (v := ?_) rfl (by kernel_rfl) (by kernel_rfl) (by kernel_rfl) (fun _ _ _ h => h) (Or.inl ⟨by rfl, ?_⟩) (by assumption) ?_
    rotate_left
    · (intro w hSw; (try dsimp only at hSw); go_simp; try with_reducible rfl)
    try simp only [Act.put, List.setIfInBounds_toArray, List.set_cons_zero, List.set_cons_succ]
    refine wpAnyH_done (by kernel_rfl) ?_ _
    obtain ⟨e0, e1, hlen⟩ := HL.out _ HNOW.out
    go_wp2_with fail
    refine (HU.out _ hm).mono ?_
    rintro e w4 ⟨f, rfl, ⟨fn, cap, rfl, hen, hcl⟩, hb4⟩
    have HC := Lib.hid (hcl w4 (Below.refl _ _)); have HB4 := Lib.hid (bnextK HNOW.out hb4)
    have hen1 := hen w4
    clear hen hcl hb4 e0 e1 hlen
    go_wp2_with fail
    refine HC.out.mono ?_
    clear HC hen1
    rintro e w5 ⟨rfl, hb5⟩
    have HB5 := Lib.hid hb5; clear hb5
    go_wp2_with fail
    go_ret
    exact ⟨rfl, bnextK HB4.out HB5.out⟩
#print axioms link1_any
end Go.Proofs.YtghjlbbalngdhaaGreatDoor
/- The contract of Link. Conditions: as each statement says. -/
namespace Go.Proofs.YtghjlbbalngdhaaGreatDoor
open Go.RowKit
set_option linter.unusedVariables false
set_option linter.unusedSimpArgs false
theorem step_mapUpdate {ops : Array Oper} {o : Oper} {a : Act} {w w' : World} {K : Act → World → Prop} {Q : Exit → Act → World → Prop} {E : Prop} (t : TypeId) (m k v : Operand) (hgd : o.guard = none) (ho : o.op = .mapUpdate t m k v)
    {mv kv vv : Value} (hm : a.eval m = mv) (hk : a.eval k = kv) (hv : a.eval v = vv) (hr : (Instr.mapUpdate t mv kv vv).run Tryz.prog w = .ok () w') (h : K (a.put o.dst undef) w') : if Region.wanted o (yielded ops a.tmps) = true then o.wp Tryz.prog a w K Q else E := by
  rw [if_pos (by simp [Region.wanted, hgd])]
  unfold Oper.wp execOp
  simp only [ho, hm, hk, hv, Sem.run_bind, Sem.run_pure, hr, Result.andThen_ok]
  exact h
def possE (st cp gn ev : Int) : Int := if possL st cp gn ev = true then 0 else 2
def linkE (s : NS) (a b : Nm) (st cp gn ev : Int) : Int := firstE [twoE a b, possE st cp gn ev, bothE s a b, link1E s a b]
def addLink (s : NS) (a b : Nm) (st cp gn ev : Int) : NS := { s with pairs := s.pairs ++ [pairOf a b], lk := fun p => if p = pairOf a b then ⟨st, cp, gn, ev, st, 0, 0⟩ else s.lk p }
def linkS (s : NS) (a b : Nm) (st cp gn ev : Int) : NS := if linkE s a b st cp gn ev = 0 then addLink s a b st cp gn ev else s
theorem linkE_zero {s : NS} {a b : Nm} {st cp gn ev : Int} (h : linkE s a b st cp gn ev = 0) : namedB a = true ∧ namedB b = true ∧ a ≠ b ∧ possL st cp gn ev = true ∧ a ∈ s.nodes ∧ b ∈ s.nodes ∧ pairOf a b ∉ s.pairs ∧ s.pairs.length ≠ 40 := by
  have key : ∀ (x y z u : Int), firstE [x, y, z, u] = 0 → x = 0 ∧ y = 0 ∧ z = 0 ∧ u = 0 := fun x y z u h => by
    simp only [firstE] at h
    split at h
    · split at h
      · split at h
        · split at h
          · exact ⟨by assumption, by assumption, by assumption, by assumption⟩
          · contradiction
        · contradiction
      · contradiction
    · contradiction
  obtain ⟨h1, h2, h3, h4⟩ := key _ _ _ _ h
  unfold twoE at h1; unfold possE at h2; unfold bothE at h3; unfold link1E at h4
  split at h1
  case isFalse => omega
  split at h2
  case isFalse => omega
  split at h3
  case isFalse => omega
  split at h4
  · omega
  split at h4
  · omega
  rename_i k1 k2 k3 k4 k5
  exact ⟨k1.1, k1.2.1, k1.2.2, k2, k3.1, k3.2, k4, k5⟩
theorem pairOf_lt {a b : Nm} (h : a ≠ b) : (pairOf a b).1 < (pairOf a b).2 := by
  unfold pairOf
  split
  · assumption
  · rename_i h2
    rcases List.le_iff_lt_or_eq.1 (List.not_lt.1 h2) with h3 | h3
    · exact h3
    · exact absurd h3.symm h
theorem addLink_ok {s : NS} {a b : Nm} {st cp gn ev : Int} (h : NSOK s) (he : linkE s a b st cp gn ev = 0) : NSOK (addLink s a b st cp gn ev) := by
  obtain ⟨h1, h2, h3, h4, h5, h6, h7, h8⟩ := linkE_zero he
  have h40 := h.pn
  unfold possL at h4
  rw [decide_eq_true_eq] at h4
  refine ⟨h.nod, h.nn, h.named, ?_, by show (s.pairs ++ [pairOf a b]).length ≤ 40; simp; omega, fun p hp => ?_, fun p hp => ?_, h.now⟩
  · show (s.pairs ++ [pairOf a b]).Nodup
    rw [List.nodup_append]
    exact ⟨h.pod, by simp, fun x hx y hy e => by rw [List.mem_singleton] at hy; subst hy; subst e; exact h7 hx⟩
  · rcases List.mem_append.1 hp with hp | hp
    · exact h.pin p hp
    · rw [List.mem_singleton] at hp
      subst hp
      refine ⟨?_, ?_, pairOf_lt h3⟩
      · unfold pairOf; split <;> assumption
      · unfold pairOf; split <;> assumption
  · have hn := h.now
    by_cases e : p = pairOf a b
    · have : (addLink s a b st cp gn ev).lk p = ⟨st, cp, gn, ev, st, 0, 0⟩ := by unfold addLink; simp [e]
      rw [this]
      dsimp only
      show _ ∧ _ ∧ _ ∧ _ ∧ _ ∧ _ ∧ _ ∧ _ ∧ _ ∧ st + 0 + 0 ≤ 65536 * (s.now + 1)
      omega
    · have : (addLink s a b st cp gn ev).lk p = s.lk p := by unfold addLink; simp [e]
      rw [this]
      exact h.lk p ((List.mem_append.1 hp).resolve_right (fun h => e (by simpa using h)))
theorem NetAt.addLink {w w' : World} {N : Nat} {s : NS} {bn bl : Nat} {vh vs : Value} {a b : Nm} {st cp gn ev : Int} (h : NetAt w N s bn bl vh vs) (he : linkE s a b st cp gn ev = 0)
    (hm : MapL pairK w' bl (s.pairs ++ [pairOf a b]) (fun y => if y = pairOf a b then some (lkV ⟨st, cp, gn, ev, st, 0, 0⟩) else linksF s y)) (hg : w.grownBy w' (some bl)) : NetAt w' N (addLink s a b st cp gn ev) bn bl vh vs := by
  have hc : CK (fun _ => True) w w' := ck_map h.links hg
  refine ⟨hc _ _ _ trivial h.blk, h.nodes.keep (hg.block _ h.nodes.lt (fun e => h.ne (by injection e))), hm.same (fun y _ => ?_), h.holds.ck hc trivial trivial, h.sents.ck hc trivial trivial trivial trivial trivial, addLink_ok h.ok he, h.ne⟩
  unfold linksF Go.Proofs.YtghjlbbalngdhaaGreatDoor.addLink
  dsimp only
  by_cases hy : y = pairOf a b
  · subst hy; simp
  · by_cases hy2 : y ∈ s.pairs <;> simp [hy, hy2]
def LinkP (N : Nat) (s : NS) (bn bl : Nat) (vh vs : Value) (a b : Nm) (st cp gn ev : Int) (w : World) (e : Ending) (w' : World) : Prop :=
  (∃ z, z = linkE s a b st cp gn ev ∧ e = .returned (.int .i64 z)) ∧ NetAt w' N (linkS s a b st cp gn ev) bn bl vh vs ∧ KeepL [bl] w w'
theorem boxes4 (w : World) (c0 c1 c2 c3 : Array Value) (t0 t1 t2 t3 : TypeId) : Bk ((((w.alloc (.cells c0 t0)).alloc (.cells c1 t1)).alloc (.cells c2 t2)).alloc (.cells c3 t3)) w.heap.size c0 t0 ∧ Bk ((((w.alloc (.cells c0 t0)).alloc (.cells c1 t1)).alloc (.cells c2 t2)).alloc (.cells c3 t3)) (w.heap.size + 1) c1 t1 ∧
    Bk ((((w.alloc (.cells c0 t0)).alloc (.cells c1 t1)).alloc (.cells c2 t2)).alloc (.cells c3 t3)) (w.heap.size + 1 + 1) c2 t2 ∧ Bk ((((w.alloc (.cells c0 t0)).alloc (.cells c1 t1)).alloc (.cells c2 t2)).alloc (.cells c3 t3)) (w.heap.size + 1 + 1 + 1) c3 t3 := by
  obtain ⟨h0, h1, h2⟩ := boxes3 w c0 c1 c2 t0 t1 t2
  have h3 := Bk.new (((w.alloc (.cells c0 t0)).alloc (.cells c1 t1)).alloc (.cells c2 t2)) c3 t3
  rw [World.size_alloc, World.size_alloc, World.size_alloc] at h3
  exact ⟨h0.keepL (KeepL.alloc [] _ _) (by simp), h1.keepL (KeepL.alloc [] _ _) (by simp), h2.keepL (KeepL.alloc [] _ _) (by simp), h3⟩
abbrev LkBox (h0 N : Nat) (a b : Nm) (st cp gn ev : Int) (W : World) : Prop := W.cell? ⟨h0, 0, none⟩ = some (.pointer (some ⟨N, 0, none⟩)) ∧ W.cell? ⟨h0 + 1, 0, none⟩ = some (encS a) ∧ W.cell? ⟨h0 + 1 + 1, 0, none⟩ = some (encS b) ∧
  W.cell? ⟨h0 + 1 + 1 + 1, 0, none⟩ = some (.int .i64 st) ∧ W.cell? ⟨h0 + 1 + 1 + 1, 1, none⟩ = some (.int .i64 cp) ∧ W.cell? ⟨h0 + 1 + 1 + 1, 2, none⟩ = some (.int .i64 gn) ∧ W.cell? ⟨h0 + 1 + 1 + 1, 3, none⟩ = some (.int .i64 ev)
theorem LkBox.far {h0 N : Nat} {a b : Nm} {st cp gn ev : Int} {W W' : World} (h : LkBox h0 N a b st cp gn ev W) (hb : Below W.heap.size W W') : LkBox h0 N a b st cp gn ev W' :=
  ⟨(hb.cell (p := ⟨_, 0, none⟩) (cell_lt h.1)).trans h.1, (hb.cell (p := ⟨_, 0, none⟩) (cell_lt h.2.1)).trans h.2.1, (hb.cell (p := ⟨_, 0, none⟩) (cell_lt h.2.2.1)).trans h.2.2.1, (hb.cell (p := ⟨_, 0, none⟩) (cell_lt h.2.2.2.1)).trans h.2.2.2.1,
    (hb.cell (p := ⟨_, 1, none⟩) (cell_lt h.2.2.2.1)).trans h.2.2.2.2.1, (hb.cell (p := ⟨_, 2, none⟩) (cell_lt h.2.2.2.1)).trans h.2.2.2.2.2.1, (hb.cell (p := ⟨_, 3, none⟩) (cell_lt h.2.2.2.1)).trans h.2.2.2.2.2.2⟩
theorem cell_ltO {w : World} {p o : Nat} {v : Value} (h : w.cell? ⟨p, o, none⟩ = some v) : p < w.heap.size := by
  rcases Nat.lt_or_ge p w.heap.size with h1 | h1
  · exact h1
  · unfold World.cell? at h
    rw [Array.getElem?_eq_none h1] at h
    cases h
theorem cell_grown_map {w w' : World} {p o b : Nat} {v : Value} {k : TypeId} {κ : Type} {K : KeyT k κ} {l : List κ} {f : κ → Option Value} (m : MapL K w b l f) (hg : w.grownBy w' (some b)) (h : w.cell? ⟨p, o, none⟩ = some v) : w'.cell? ⟨p, o, none⟩ = some v := by
  have hne : p ≠ b := fun e => by
    subst e
    obtain ⟨es, cl, hm⟩ := m.at'.isMap
    unfold World.cell? at h
    rw [hm] at h
    cases h
  exact (World.cell?_of_block (w' := w') (w := w) (a := ⟨p, o, none⟩) (hg.block p (cell_ltO h) (fun e => hne (by injection e)))).trans h
set_option maxRecDepth 100000 in
set_option maxHeartbeats 4000000 in
theorem Link_any {w : World} {N : Nat} {s : NS} {bn bl : Nat} {vh vs : Value} (h : NetAt w N s bn bl vh vs) (a b : Nm) (st cp gn ev : Int) (ha : a.length ≤ maxLen) (hb : b.length ≤ maxLen) :
    Calls Tryz.prog 5 #[.pointer (some ⟨N, 0, none⟩), encS a, encS b, .agg #[.int .i64 st, .int .i64 cp, .int .i64 gn, .int .i64 ev]] w (LinkP N s bn bl vh vs a b st cp gn ev w) := by
  have hmf : ∀ (fn : Fn) (first cap : Array Value) (w : World), (Instr.makeFunc fn first cap).run Tryz.prog w = .ok (.func fn first cap) w := fun _ _ _ _ => rfl
  obtain ⟨w1, hw1⟩ : ∃ w1, w1 = (((w.alloc (.cells #[.pointer (some ⟨N, 0, none⟩)] 22)).alloc (.cells #[encS a] 9)).alloc (.cells #[encS b] 9)).alloc (.cells #[.int .i64 st, .int .i64 cp, .int .i64 gn, .int .i64 ev] 34) := ⟨_, rfl⟩
  obtain ⟨k0, k1, k2, k3⟩ := boxes4 w #[.pointer (some ⟨N, 0, none⟩)] #[encS a] #[encS b] #[.int .i64 st, .int .i64 cp, .int .i64 gn, .int .i64 ev] 22 9 9 34
  have hb1 : Below w.heap.size w w1 := by rw [hw1]; exact bnextK (alloc3_below w _ _ _) (below_alloc _ _)
  rw [← hw1] at k0 k1 k2 k3
  have h1 := h.far hb1
  have HW1 := Lib.hid hw1; have HB1 := Lib.hid hb1; have H1 := Lib.hid h1
  have hbox : LkBox w.heap.size N a b st cp gn ev w1 := ⟨by rw [k0.cell]; rfl, by rw [k1.cell]; rfl, by rw [k2.cell]; rfl, by rw [k3.cell]; rfl, by rw [k3.cell]; rfl, by rw [k3.cell]; rfl, by rw [k3.cell]; rfl⟩
  have HBOX := Lib.hid hbox
  have HT := Lib.hid (fun W => twoNames_any a b W)
  have HP := Lib.hid (fun W => possible_any st cp gn ev W)
  have HU : Hid (∀ W, Calls Tryz.prog 29 #[.bool (!possL st cp gn ev), .int .i64 2] W (CondP (possE st cp gn ev) W)) := Lib.hid fun W => unless_P _ 2 _ W (by unfold possE; cases possL st cp gn ev <;> rfl)
  have HB : Hid (∀ W, Below w1.heap.size w1 W → Calls Tryz.prog 34 #[.pointer (some ⟨N, 0, none⟩), encS a, encS b] W (CondP (bothE s a b) W)) := Lib.hid fun W hW => both_any (h1.far hW) a b ha hb
  have HC : Hid (CondOK w1 (.func (.func 35) #[] #[.pointer (some ⟨w.heap.size, 0, none⟩), .pointer (some ⟨w.heap.size + 1, 0, none⟩), .pointer (some ⟨w.heap.size + 1 + 1, 0, none⟩)]) (link1E s a b)) := Lib.hid (by
    refine ⟨_, _, rfl, enters_of Tryz.func35 (by kernel_rfl) rfl _, fun W hW => ?_⟩
    have hB := hbox.far hW
    exact link1_any (h1.far hW) a b ha hb _ _ _ hB.1 hB.2.1 hB.2.2.1)
  have HA : Hid (∀ (W : World) (f1 f2 f3 : Value) (g : Nat), Below w1.heap.size w1 W → CondOK W f1 (twoE a b) → CondOK W f2 (possE st cp gn ev) → CondOK W f3 (bothE s a b) → W.heap.size = g →
      Calls Tryz.prog 28 #[.pointer (some ⟨N, 0, none⟩), .slice (some ⟨g, 0, none⟩) 4 4] (W.alloc (.cells #[f1, f2, f3, .func (.func 35) #[] #[.pointer (some ⟨w.heap.size, 0, none⟩), .pointer (some ⟨w.heap.size + 1, 0, none⟩), .pointer (some ⟨w.heap.size + 1 + 1, 0, none⟩)]] 74))
        (AnsN (linkE s a b st cp gn ev) (W.alloc (.cells #[f1, f2, f3, .func (.func 35) #[] #[.pointer (some ⟨w.heap.size, 0, none⟩), .pointer (some ⟨w.heap.size + 1, 0, none⟩), .pointer (some ⟨w.heap.size + 1 + 1, 0, none⟩)]] 74)))) := Lib.hid fun W f1 f2 f3 g hW q1 q2 q3 hg => by
    refine ask_made (h1.far hW) [(f1, twoE a b), (f2, possE st cp gn ev), (f3, bothE s a b), (_, link1E s a b)] _ rfl 4 rfl (by omega) ?_ g hg
    intro y hy
    simp only [List.mem_cons, List.not_mem_nil, or_false] at hy
    rcases hy with rfl | rfl | rfl | rfl
    · exact q1
    · exact q2
    · exact q3
    · exact HC.out.far hW
  have HBT := Lib.hid (fun W => between_any a b W)
  have hpl := pairOf_len a b ha hb
  have HNOW : Hid (Below w1.heap.size w1 w1.drew) := Lib.hid (Qw.below ⟨1, rfl⟩ _)
  have HFAR : Hid (∀ W, Below w1.heap.size w1 W → W.cell? ⟨w.heap.size, 0, none⟩ = some (.pointer (some ⟨N, 0, none⟩)) ∧ W.cell? ⟨w.heap.size + 1, 0, none⟩ = some (encS a) ∧ W.cell? ⟨w.heap.size + 1 + 1, 0, none⟩ = some (encS b) ∧
    W.cell? ⟨w.heap.size + 1 + 1 + 1, 0, none⟩ = some (.int .i64 st) ∧ W.cell? ⟨w.heap.size + 1 + 1 + 1, 1, none⟩ = some (.int .i64 cp) ∧ W.cell? ⟨w.heap.size + 1 + 1 + 1, 2, none⟩ = some (.int .i64 gn) ∧ W.cell? ⟨w.heap.size + 1 + 1 + 1, 3, none⟩ = some (.int .i64 ev) ∧ W.cell? ⟨N, 1, none⟩ = some (.map (some bl))) := Lib.hid fun W hW => by
    obtain ⟨q0, q1, q2, q3, q4, q5, q6⟩ := hbox.far hW
    have c1 := (h1.far hW).blk.cell 1
    simp only [List.getElem?_toArray, List.getElem?_cons_succ, List.getElem?_cons_zero] at c1
    exact ⟨q0, q1, q2, q3, q4, q5, q6, c1⟩
  generalize hz : linkE s a b st cp gn ev = zv at *
  have HZ := Lib.hid hz; clear hz
  generalize twoE a b = e1 at *
  generalize possE st cp gn ev = e2 at *
  generalize possL st cp gn ev = pb at *
  generalize bothE s a b = e3 at *
  clear h h1 k0 k1 k2 k3 hb1 hw1 hbox
  go_enter Tryz.func5, Tryz.ntmps5
  go_wp2_with fail
  rw [← HW1.out]
  go_cut [4, 5, 6, 7, 9] from 2 to 3 (fun v4 v5 v6 v7 v9 wr => v4 = .pointer (some ⟨w.heap.size, 0, none⟩) ∧ v5 = .pointer (some ⟨w.heap.size + 1, 0, none⟩) ∧ v6 = .pointer (some ⟨w.heap.size + 1 + 1, 0, none⟩) ∧ v7 = .pointer (some ⟨w.heap.size + 1 + 1 + 1, 0, none⟩) ∧ v9 = .int .i64 zv ∧ Below w1.heap.size w1 wr)
  case first =>
    go_region_held3 (fun W => W.cell? ⟨w.heap.size, 0, none⟩ = some (.pointer (some ⟨N, 0, none⟩)) ∧ W.cell? ⟨w.heap.size + 1, 0, none⟩ = some (encS a) ∧ W.cell? ⟨w.heap.size + 1 + 1, 0, none⟩ = some (encS b) ∧
    W.cell? ⟨w.heap.size + 1 + 1 + 1, 0, none⟩ = some (.int .i64 st) ∧ W.cell? ⟨w.heap.size + 1 + 1 + 1, 1, none⟩ = some (.int .i64 cp) ∧ W.cell? ⟨w.heap.size + 1 + 1 + 1, 2, none⟩ = some (.int .i64 gn) ∧ W.cell? ⟨w.heap.size + 1 + 1 + 1, 3, none⟩ = some (.int .i64 ev) ∧ W.cell? ⟨N, 1, none⟩ = some (.map (some bl))) (first | exact HFAR.out _ HNOW.out | exact HFAR.out _ (bnextK HNOW.out (below_alloc _ _)))
      ((first
        | (go_at_call 32; refine (HT.out _).mono ?_; rintro e w3 ⟨f3, rfl, k3, b3⟩; obtain ⟨fn3, cap3, rfl, _⟩ := id k3; have HNOW := Lib.hid (bnextK HNOW.out b3))
        | (go_at_call 33; refine (HP.out _).mono ?_; rintro e w4 ⟨rfl, b4⟩; have k3 := CondOK.far k3 b4; have HNOW := Lib.hid (bnextK HNOW.out b4))
        | (go_at_call 29; refine (HU.out _).mono ?_; rintro e w5 ⟨f5, rfl, k5, b5⟩; obtain ⟨fn5, cap5, rfl, _⟩ := id k5; have k3 := CondOK.far k3 b5; have HNOW := Lib.hid (bnextK HNOW.out b5))
        | (go_at_call 34; refine (HB.out _ HNOW.out).mono ?_; rintro e w6 ⟨f6, rfl, k6, b6⟩; obtain ⟨fn6, cap6, rfl, _⟩ := id k6; have k3 := CondOK.far k3 b6; have k5 := CondOK.far k5 b6; have HNOW := Lib.hid (bnextK HNOW.out b6))
        | (go_at_call 28; refine (HA.out _ _ _ _ _ HNOW.out k3 k5 k6 rfl).mono ?_; rintro e w7 ⟨rfl, b7⟩; have HNOW := Lib.hid (bnextK (bnextK HNOW.out (below_alloc _ _)) b7))))
    all_goals
      go_wp2_with fail
      go_meet
      exact ⟨rfl, rfl, rfl, rfl, rfl, HNOW.out⟩
  case rest =>
    clear HNOW HA HC HU HT HP HB
    obtain ⟨w5, rfl⟩ : ∃ z : World, z = wc := ⟨_, rfl⟩
    obtain ⟨rfl, rfl, rfl, rfl, rfl, hb5⟩ := hcut
    have HN5 := Lib.hid (H1.out.far hb5)
    have HB5 := Lib.hid hb5
    by_cases he : zv = 0
    · have HS : Hid (linkS s a b st cp gn ev = addLink s a b st cp gn ev) := Lib.hid (by unfold linkS; rw [HZ.out, if_pos he])
      subst he
      have HNOW : Hid (Below w1.heap.size w1 w5.drew) := Lib.hid (bnextK hb5 (Qw.below ⟨1, rfl⟩ _))
      have hk0 := HFAR.out _ hb5
      clear hb5
      go_wp2_with fail
      refine wp_region_held_drew (S := (fun W => W.cell? ⟨w.heap.size, 0, none⟩ = some (.pointer (some ⟨N, 0, none⟩)) ∧ W.cell? ⟨w.heap.size + 1, 0, none⟩ = some (encS a) ∧ W.cell? ⟨w.heap.size + 1 + 1, 0, none⟩ = some (encS b) ∧ W.cell? ⟨w.heap.size + 1 + 1 + 1, 0, none⟩ = some (.int .i64 st) ∧ W.cell? ⟨w.heap.size + 1 + 1 + 1, 1, none⟩ = some (.int .i64 cp) ∧ W.cell? ⟨w.heap.size + 1 + 1 + 1, 2, none⟩ = some (.int .i64 gn) ∧ W.cell? ⟨w.heap.size + 1 + 1 + 1, 3, none⟩ = some (.int .i64 ev) ∧ W.cell? ⟨N, 1, none⟩ = some (.map (some bl)))) (by kernel_rfl) ?_ (fun hHeld => ?_)
      · (try dsimp only); first | exact HFAR.out _ HNOW.out | exact HK9.out
      refine wpAnyH_take (i := 0) (oi := ⟨some 27, _, _, _, _, _⟩) (v := ?_) rfl (by kernel_rfl) (by kernel_rfl) (by kernel_rfl) (fun _ _ _ h => h) (Or.inl ⟨by rfl, ?_⟩) (by assumption) ?_
      rotate_left
      · (intro w hSw; (try dsimp only at hSw); go_simp; try with_reducible rfl)
      try simp only [Act.put, List.setIfInBounds_toArray, List.set_cons_zero, List.set_cons_succ]
      refine wpAnyH_take (i := 1) (oi := ⟨some 28, _, _, _, _, _⟩) (v := ?_) rfl (by kernel_rfl) (by kernel_rfl) (by kernel_rfl) (fun _ _ _ h => h) (Or.inl ⟨by rfl, ?_⟩) (by assumption) ?_
      rotate_left
      · (intro w hSw; (try dsimp only at hSw); go_simp; try with_reducible rfl)
      try simp only [Act.put, List.setIfInBounds_toArray, List.set_cons_zero, List.set_cons_succ]
      refine wpAnyH_take (i := 2) (oi := ⟨some 29, _, _, _, _, _⟩) (v := ?_) rfl (by kernel_rfl) (by kernel_rfl) (by kernel_rfl) (fun _ _ _ h => h) (Or.inl ⟨by rfl, ?_⟩) (by assumption) ?_
      rotate_left
      · (intro w hSw; (try dsimp only at hSw); go_simp; try with_reducible rfl)
      try simp only [Act.put, List.setIfInBounds_toArray, List.set_cons_zero, List.set_cons_succ]
      refine wpAnyH_take (i := 3) (oi := ⟨some 30, _, _, _, _, _⟩) (v := ?_) rfl (by kernel_rfl) (by kernel_rfl) (by kernel_rfl) (fun _ _ _ h => h) (Or.inl ⟨by rfl, ?_⟩) (by assumption) ?_
      rotate_left
      · (intro w hSw; (try dsimp only at hSw); go_simp; try with_reducible rfl)
      try simp only [Act.put, List.setIfInBounds_toArray, List.set_cons_zero, List.set_cons_succ]
      refine wpAnyH_take (i := 4) (oi := ⟨some 31, _, _, _, _, _⟩) (v := ?_) rfl (by kernel_rfl) (by kernel_rfl) (by kernel_rfl) (fun _ _ _ h => h) (Or.inl ⟨by rfl, ?_⟩) (by assumption) ?_
      rotate_left
      · (intro w hSw; (try dsimp only at hSw); go_simp; try with_reducible rfl)
      try simp only [Act.put, List.setIfInBounds_toArray, List.set_cons_zero, List.set_cons_succ]
      refine wpAnyH_take (i := 5) (oi := ⟨some 32, _, _, _, _, _⟩) (v := ?_) rfl (by kernel_rfl) (by kernel_rfl) (by kernel_rfl) (fun _ _ _ h => h) (Or.inl ⟨by rfl, ?_⟩) (by assumption) ?_
      rotate_left
      · (intro w hSw; (try dsimp only at hSw); go_simp; try with_reducible rfl)
      try simp only [Act.put, List.setIfInBounds_toArray, List.set_cons_zero, List.set_cons_succ]
      refine wpAnyH_take (i := 7) (oi := ⟨some 34, _, _, _, _, _⟩) (v := ?_) rfl (by kernel_rfl) (by kernel_rfl) (by kernel_rfl) (fun _ _ _ h => h) (Or.inl ⟨by rfl, ?_⟩) (by assumption) ?_
      rotate_left
      · (intro w hSw; (try dsimp only at hSw); go_simp; try with_reducible rfl)
      try simp only [Act.put, List.setIfInBounds_toArray, List.set_cons_zero, List.set_cons_succ]
      refine wpAnyH_take (i := 8) (oi := ⟨some 35, _, _, _, _, _⟩) (v := ?_) rfl (by kernel_rfl) (by kernel_rfl) (by kernel_rfl) (fun _ _ _ h => h) (Or.inl ⟨by rfl, ?_⟩) (by assumption) ?_
      rotate_left
      · (intro w hSw; (try dsimp only at hSw); go_simp; try with_reducible rfl)
      try simp only [Act.put, List.setIfInBounds_toArray, List.set_cons_zero, List.set_cons_succ]
      refine wpAnyH_take (i := 9) (oi := ⟨some 36, _, _, _, _, _⟩) (v := ?_) rfl (by kernel_rfl) (by kernel_rfl) (by kernel_rfl) (fun _ _ _ h => h) (Or.inl ⟨by rfl, ?_⟩) (by assumption) ?_
      rotate_left
      · (intro w hSw; (try dsimp only at hSw); go_simp; try with_reducible rfl)
      try simp only [Act.put, List.setIfInBounds_toArray, List.set_cons_zero, List.set_cons_succ]
      refine wpAnyH_take (i := 10) (oi := ⟨some 37, _, _, _, _, _⟩) (v := ?_) rfl (by kernel_rfl) (by kernel_rfl) (by kernel_rfl) (fun _ _ _ h => h) (Or.inl ⟨by rfl, ?_⟩) (by assumption) ?_
      rotate_left
      · (intro w hSw; (try dsimp only at hSw); go_simp; try with_reducible rfl)
      try simp only [Act.put, List.setIfInBounds_toArray, List.set_cons_zero, List.set_cons_succ]
      refine wpAnyH_take (i := 11) (oi := ⟨some 38, _, _, _, _, _⟩) (v := ?_) rfl (by kernel_rfl) (by kernel_rfl) (by kernel_rfl) (fun _ _ _ h => h) (Or.inl ⟨by rfl, ?_⟩) (by assumption) ?_
      rotate_left
      · (intro w hSw; (try dsimp only at hSw); go_simp; try with_reducible rfl)
      try simp only [Act.put, List.setIfInBounds_toArray, List.set_cons_zero, List.set_cons_succ]
      refine wpAnyH_ready (rs := [6]) (by kernel_rfl) (by simp) ?_
      refine AllReadyH.cons (o := ⟨some 33, _, _, _, _, _⟩) rfl (fun K hK => ?_) AllReadyH.nil
      go_simp
      refine (HBT.out _).mono ?_
      rintro e w6 ⟨rfl, b6⟩
      have HNOW := Lib.hid (bnextK HNOW.out b6)
      go_wp2_with fail
      refine hK.out _ _ ?_ (fun hHeld => ?_)
      · (try dsimp only); first | exact HFAR.out _ HNOW.out | exact HK9.out
      clear hK K
      try simp only [Act.put, List.setIfInBounds_toArray, List.set_cons_zero, List.set_cons_succ]
      refine wpAnyH_ready (rs := [12]) (by kernel_rfl) (by simp) ?_
      refine AllReadyH.cons (o := ⟨none, _, _, _, _, _⟩) rfl (fun K hK => ?_) AllReadyH.nil
      have hN7 := H1.out.far HNOW.out
      obtain ⟨w8, hr8, hm8, hg8⟩ := hN7.links.store Tryz.underlying24 (x := pairOf a b) hpl (lkV ⟨st, cp, gn, ev, st, 0, 0⟩) (by have := hN7.ok.pn; omega)
      obtain ⟨q0, q1, q2, q3, q4, q5, q6, q7⟩ := HFAR.out _ HNOW.out
      have hm9 := hN7.links
      have HK9 := Lib.hid (And.intro (cell_grown_map hm9 hg8 q0) (And.intro (cell_grown_map hm9 hg8 q1) (And.intro (cell_grown_map hm9 hg8 q2) (And.intro (cell_grown_map hm9 hg8 q3) (And.intro (cell_grown_map hm9 hg8 q4) (And.intro (cell_grown_map hm9 hg8 q5) (And.intro (cell_grown_map hm9 hg8 q6) (cell_grown_map hm9 hg8 q7))))))))
      rw [if_neg (linkE_zero HZ.out).2.2.2.2.2.2.1] at hm8
      have HN8 := Lib.hid (hN7.addLink HZ.out hm8 hg8)
      have HK8 : Hid (KeepL [bl] w w8) := Lib.hid ((KeepL.of_below (HB1.out.trans (HNOW.out.mono HB1.out.size))).trans (KeepL.grown hg8 (fun k hk _ => by injection hk with hk; simp [hk])))
      refine step_mapUpdate 24 _ _ _ rfl rfl rfl rfl rfl hr8 ?_
      clear hr8 hm8 hg8 hN7 hm9 q0 q1 q2 q3 q4 q5 q6 q7
      refine hK.out _ _ ?_ (fun hHeld => ?_)
      · (try dsimp only); first | exact HFAR.out _ HNOW.out | exact HK9.out
      clear hK K
      try simp only [Act.put, List.setIfInBounds_toArray, List.set_cons_zero, List.set_cons_succ]
      refine wpAnyH_done (by kernel_rfl) ?_ _
      go_wp2_with fail
      go_ret
      exact ⟨⟨_, HZ.out.symm, rfl⟩, by rw [HS.out]; exact HN8.out, HK8.out⟩
    · have heb : (zv == 0) = false := by simpa using he
      have HS : Hid (linkS s a b st cp gn ev = s) := Lib.hid (by unfold linkS; rw [HZ.out, if_neg he])
      clear hb5
      go_wp2_with fail
      go_ret
      exact ⟨⟨_, HZ.out.symm, rfl⟩, by rw [HS.out]; exact HN5.out, KeepL.of_below (HB1.out.trans (HB5.out.mono HB1.out.size))⟩
#print axioms Link_any
end Go.Proofs.YtghjlbbalngdhaaGreatDoor
/- What the methods of a network that is not valid answer. Conditions: as each statement says. -/
namespace Go.Proofs.YtghjlbbalngdhaaGreatDoor
open Go.RowKit
set_option linter.unusedVariables false
/-- A network that is not valid: nil, or one without nodes' map. -/
def BadN (w : World) (p : Option Addr) : Prop := p = none ∨ ∃ N, p = some ⟨N, 0, none⟩ ∧ w.cell? ⟨N, 0, none⟩ = some (.map none)
theorem BadN.far {w w' : World} {p : Option Addr} (h : BadN w p) (hb : Below w.heap.size w w') : BadN w' p := by
  rcases h with h | ⟨N, h1, h2⟩
  · exact .inl h
  · exact .inr ⟨N, h1, (hb.cell (p := ⟨N, 0, none⟩) (cell_lt h2)).trans h2⟩
/-- It answers a value; old memory stays. -/
def RetB (v : Value) (w : World) (e : Ending) (w' : World) : Prop := e = .returned v ∧ Below w.heap.size w w'
/-- It answers a function. -/
def FnP (w : World) (r : Ending) (w' : World) : Prop := ∃ fn cap, r = .returned (.func (.func fn) #[] cap) ∧ Below w.heap.size w w'
theorem CondP.fn {e : Int} {w : World} {r : Ending} {w' : World} (h : CondP e w r w') : FnP w r w' := by
  obtain ⟨f, rfl, ⟨fn, cap, rfl, _⟩, hb⟩ := h
  exact ⟨fn, cap, rfl, hb⟩
theorem unless_fn (bad : Bool) (e : Int) (w : World) : Calls Tryz.prog 29 #[.bool bad, .int .i64 e] w (FnP w) := (unless_P bad e _ w rfl).mono fun _ _ h => h.fn
theorem twoNames_fn (a b : Nm) (w : World) : Calls Tryz.prog 32 #[encS a, encS b] w (FnP w) := (twoNames_any a b w).mono fun _ _ h => h.fn
theorem amount_fn (n : Int) (w : World) : Calls Tryz.prog 64 #[.int .i64 n] w (FnP w) := (amount_any n w).mono fun _ _ h => h.fn
set_option maxRecDepth 100000 in
theorem valid_bad {w : World} {p : Option Addr} (h : BadN w p) : Calls Tryz.prog 37 #[.pointer p] w fun e w' => e = .returned (.bool false) ∧ w = w' := by
  rcases h with rfl | ⟨N, rfl, h⟩
  · have q1 : ∀ w, (binOp BinOp.neq 22 (.pointer none) (.pointer none)).run Tryz.prog w = .ok (.bool false) w := fun w => by kernel_rfl
    go_enter Tryz.func37, Tryz.ntmps37
    go_wp2_with fail
    go_ret
    exact ⟨rfl, rfl⟩
  · have q1 : ∀ w, (binOp BinOp.neq 22 (.pointer (some ⟨N, 0, none⟩)) (.pointer none)).run Tryz.prog w = .ok (.bool true) w := fun w => by kernel_rfl
    have q2 : ∀ w, (binOp BinOp.neq 23 (.map none) (.map none)).run Tryz.prog w = .ok (.bool false) w := fun w => by kernel_rfl
    go_enter Tryz.func37, Tryz.ntmps37
    go_wp2_with fail
    go_ret
    exact ⟨rfl, rfl⟩
set_option maxRecDepth 100000 in
theorem ask_bad {w : World} {p : Option Addr} (h : BadN w p) (A : Option Addr) (n c : Nat) : Calls Tryz.prog 28 #[.pointer p, .slice A n c] w (RetB (.int .i64 1) w) := by
  have HV := Lib.hid (valid_bad h)
  clear h
  go_enter Tryz.func28, Tryz.ntmps28
  go_wp2_with fail
  refine HV.out.mono ?_
  rintro e w' ⟨rfl, rfl⟩
  go_wp2_with fail
  go_ret
  exact ⟨rfl, Below.refl _ _⟩
set_option maxRecDepth 100000 in
theorem ends_fn (p : Option Addr) (a b : Nm) (w : World) : Calls Tryz.prog 63 #[.pointer p, encS a, encS b] w (FnP w) := by
  have hmf : ∀ (fn : Fn) (first cap : Array Value) (w : World), (Instr.makeFunc fn first cap).run Tryz.prog w = .ok (.func fn first cap) w := fun _ _ _ _ => rfl
  go_enter Tryz.func63, Tryz.ntmps63
  go_wp2_with fail
  go_ret
  exact ⟨_, _, rfl, alloc3_below _ _ _ _⟩
set_option maxRecDepth 100000 in
theorem both_fn (p : Option Addr) (a b : Nm) (w : World) : Calls Tryz.prog 34 #[.pointer p, encS a, encS b] w (FnP w) := by
  have hmf : ∀ (fn : Fn) (first cap : Array Value) (w : World), (Instr.makeFunc fn first cap).run Tryz.prog w = .ok (.func fn first cap) w := fun _ _ _ _ => rfl
  go_enter Tryz.func34, Tryz.ntmps34
  go_wp2_with fail
  go_ret
  exact ⟨_, _, rfl, alloc3_below _ _ _ _⟩
set_option maxRecDepth 100000 in
theorem one_fn (p : Option Addr) (a : Nm) (w : World) : Calls Tryz.prog 44 #[.pointer p, encS a] w (FnP w) := by
  have hmf : ∀ (fn : Fn) (first cap : Array Value) (w : World), (Instr.makeFunc fn first cap).run Tryz.prog w = .ok (.func fn first cap) w := fun _ _ _ _ => rfl
  go_enter Tryz.func44, Tryz.ntmps44
  go_wp2_with fail
  go_ret
  exact ⟨_, _, rfl, alloc2_below _ _ _⟩
set_option maxRecDepth 100000 in
theorem sentOf_fn (p : Option Addr) (k : Int) (w : World) : Calls Tryz.prog 71 #[.pointer p, .int .i64 k] w (FnP w) := by
  have hmf : ∀ (fn : Fn) (first cap : Array Value) (w : World), (Instr.makeFunc fn first cap).run Tryz.prog w = .ok (.func fn first cap) w := fun _ _ _ _ => rfl
  go_enter Tryz.func71, Tryz.ntmps71
  go_wp2_with fail
  go_ret
  exact ⟨_, _, rfl, alloc2_below _ _ _⟩
set_option maxRecDepth 100000 in
theorem all_fn (p : Option Addr) (A : Option Addr) (n c : Nat) (w : World) : Calls Tryz.prog 73 #[.pointer p, .slice A n c] w (FnP w) := by
  have hmf : ∀ (fn : Fn) (first cap : Array Value) (w : World), (Instr.makeFunc fn first cap).run Tryz.prog w = .ok (.func fn first cap) w := fun _ _ _ _ => rfl
  go_enter Tryz.func73, Tryz.ntmps73
  go_wp2_with fail
  go_ret
  exact ⟨_, _, rfl, alloc2_below _ _ _⟩
set_option maxRecDepth 100000 in
theorem Nodes_bad {w : World} {p : Option Addr} (h : BadN w p) : Calls Tryz.prog 6 #[.pointer p] w fun e w' => e = .returned (.slice none 0 0) ∧ w = w' := by
  have HV := Lib.hid (valid_bad h)
  clear h
  go_enter Tryz.func6, Tryz.ntmps6
  go_wp2_with fail
  refine HV.out.mono ?_
  rintro e w' ⟨rfl, rfl⟩
  go_wp2_with fail
  go_ret
  exact ⟨rfl, rfl⟩
set_option maxRecDepth 100000 in
theorem Now_bad {w : World} {p : Option Addr} (h : BadN w p) : Calls Tryz.prog 7 #[.pointer p] w fun e w' => e = .returned (.int .i64 0) ∧ w = w' := by
  have HV := Lib.hid (valid_bad h)
  clear h
  go_enter Tryz.func7, Tryz.ntmps7
  go_wp2_with fail
  refine HV.out.mono ?_
  rintro e w' ⟨rfl, rfl⟩
  go_wp2_with fail
  go_ret
  exact ⟨rfl, rfl⟩
set_option maxRecDepth 100000 in
theorem Holds_bad {w : World} {p : Option Addr} (h : BadN w p) : Calls Tryz.prog 11 #[.pointer p] w fun e w' => e = .returned (.slice none 0 0) ∧ w = w' := by
  have HV := Lib.hid (valid_bad h)
  clear h
  go_enter Tryz.func11, Tryz.ntmps11
  go_wp2_with fail
  refine HV.out.mono ?_
  rintro e w' ⟨rfl, rfl⟩
  go_wp2_with fail
  go_ret
  exact ⟨rfl, rfl⟩
set_option maxRecDepth 100000 in
theorem Transfers_bad {w : World} {p : Option Addr} (h : BadN w p) : Calls Tryz.prog 12 #[.pointer p] w fun e w' => e = .returned (.slice none 0 0) ∧ w = w' := by
  have HV := Lib.hid (valid_bad h)
  clear h
  go_enter Tryz.func12, Tryz.ntmps12
  go_wp2_with fail
  refine HV.out.mono ?_
  rintro e w' ⟨rfl, rfl⟩
  go_wp2_with fail
  go_ret
  exact ⟨rfl, rfl⟩
set_option maxRecDepth 100000 in
theorem Text_bad {w : World} {p : Option Addr} (h : BadN w p) : Calls Tryz.prog 13 #[.pointer p] w fun e w' => e = .returned (.string ⟨#[]⟩) ∧ w = w' := by
  have HV := Lib.hid (valid_bad h)
  clear h
  go_enter Tryz.func13, Tryz.ntmps13
  go_wp2_with fail
  refine HV.out.mono ?_
  rintro e w' ⟨rfl, rfl⟩
  go_wp2_with fail
  go_ret
  exact ⟨rfl, rfl⟩
set_option maxRecDepth 100000 in
theorem Copy_bad {w : World} {p : Option Addr} (h : BadN w p) : Calls Tryz.prog 14 #[.pointer p] w fun e w' => e = .returned (.pointer none) ∧ w = w' := by
  have HV := Lib.hid (valid_bad h)
  clear h
  go_enter Tryz.func14, Tryz.ntmps14
  go_wp2_with fail
  refine HV.out.mono ?_
  rintro e w' ⟨rfl, rfl⟩
  go_wp2_with fail
  go_ret
  exact ⟨rfl, rfl⟩
set_option maxRecDepth 100000 in
theorem Fenced_bad {w : World} {p : Option Addr} (h : BadN w p) (a : Nm) : Calls Tryz.prog 16 #[.pointer p, encS a] w (RetB (.tuple #[.bool false, .int .i64 1]) w) := by
  have H := Lib.hid h
  clear h
  go_enter Tryz.func16, Tryz.ntmps16
  go_wp2_with fail
  refine (one_fn p a _).mono ?_
  rintro e w3 ⟨fn3, cap3, rfl, hb⟩
  have HB := Lib.hid hb
  clear hb
  go_wp2_with fail
  refine (ask_bad (H.out.far (bnextK HB.out (below_alloc _ _))) _ _ _).mono ?_
  rintro e w9 ⟨rfl, b9⟩
  have HB := Lib.hid (bnextK (bnextK HB.out (below_alloc _ _)) b9)
  clear b9
  go_wp2_with fail
  refine bodyPost_ret (a := Act.mk _ _) (results_tmp2 rfl _ _ _) rfl ?_
  exact ⟨rfl, HB.out⟩
set_option maxRecDepth 100000 in
theorem Route_bad {w : World} {p : Option Addr} (h : BadN w p) (a b : Nm) (k : Int) : Calls Tryz.prog 17 #[.pointer p, encS a, encS b, .int .i64 k] w (RetB (.tuple #[.slice none 0 0, .int .i64 1]) w) := by
  have H := Lib.hid h
  clear h
  go_enter Tryz.func17, Tryz.ntmps17
  go_wp2_with fail
  refine (ends_fn p a b _).mono ?_
  rintro e w3 ⟨fn3, cap3, rfl, hb⟩
  have HB := Lib.hid hb
  clear hb
  go_wp2_with fail
  refine (amount_fn k _).mono ?_
  rintro e w4 ⟨fn4, cap4, rfl, hb⟩
  have HB := Lib.hid (bnextK HB.out hb)
  clear hb
  go_wp2_with fail
  refine (ask_bad (H.out.far (bnextK HB.out (below_alloc _ _))) _ _ _).mono ?_
  rintro e w9 ⟨rfl, b9⟩
  have HB := Lib.hid (bnextK (bnextK HB.out (below_alloc _ _)) b9)
  clear b9
  go_wp2_with fail
  refine bodyPost_ret (a := Act.mk _ _) (results_tmp2 rfl _ _ _) rfl ?_
  exact ⟨rfl, HB.out⟩
set_option maxRecDepth 100000 in
theorem Widest_bad {w : World} {p : Option Addr} (h : BadN w p) (a b : Nm) : Calls Tryz.prog 18 #[.pointer p, encS a, encS b] w (RetB (.tuple #[.int .i64 0, .int .i64 1]) w) := by
  have H := Lib.hid h
  clear h
  go_enter Tryz.func18, Tryz.ntmps18
  go_wp2_with fail
  refine (ends_fn p a b _).mono ?_
  rintro e w3 ⟨fn3, cap3, rfl, hb⟩
  have HB := Lib.hid hb
  clear hb
  go_wp2_with fail
  refine (ask_bad (H.out.far (bnextK HB.out (below_alloc _ _))) _ _ _).mono ?_
  rintro e w9 ⟨rfl, b9⟩
  have HB := Lib.hid (bnextK (bnextK HB.out (below_alloc _ _)) b9)
  clear b9
  go_wp2_with fail
  refine bodyPost_ret (a := Act.mk _ _) (results_tmp2 rfl _ _ _) rfl ?_
  exact ⟨rfl, HB.out⟩
set_option maxRecDepth 100000 in
theorem Most_bad {w : World} {p : Option Addr} (h : BadN w p) (a b : Nm) (k : Int) : Calls Tryz.prog 19 #[.pointer p, encS a, encS b, .int .i64 k] w (RetB (.tuple #[.int .i64 0, .int .i64 1]) w) := by
  have H := Lib.hid h
  clear h
  go_enter Tryz.func19, Tryz.ntmps19
  go_wp2_with fail
  refine (ends_fn p a b _).mono ?_
  rintro e w3 ⟨fn3, cap3, rfl, hb⟩
  have HB := Lib.hid hb
  clear hb
  go_wp2_with fail
  refine (amount_fn k _).mono ?_
  rintro e w4 ⟨fn4, cap4, rfl, hb⟩
  have HB := Lib.hid (bnextK HB.out hb)
  clear hb
  go_wp2_with fail
  refine (ask_bad (H.out.far (bnextK HB.out (below_alloc _ _))) _ _ _).mono ?_
  rintro e w9 ⟨rfl, b9⟩
  have HB := Lib.hid (bnextK (bnextK HB.out (below_alloc _ _)) b9)
  clear b9
  go_wp2_with fail
  refine bodyPost_ret (a := Act.mk _ _) (results_tmp2 rfl _ _ _) rfl ?_
  exact ⟨rfl, HB.out⟩
set_option maxRecDepth 100000 in
theorem Paths_bad {w : World} {p : Option Addr} (h : BadN w p) (a b : Nm) (k q : Int) : Calls Tryz.prog 20 #[.pointer p, encS a, encS b, .int .i64 k, .int .i64 q] w (RetB (.tuple #[.slice none 0 0, .int .i64 1]) w) := by
  have H := Lib.hid h
  clear h
  by_cases g1 : q < 1
  · have hb1 : decide (q < 1) = true := by simp; omega
    go_enter Tryz.func20, Tryz.ntmps20
    go_wp2_with fail
    refine (ends_fn p a b _).mono ?_
    rintro e w3 ⟨fn3, cap3, rfl, hb⟩
    have HB := Lib.hid hb
    clear hb
    go_wp2_with fail
    refine (amount_fn k _).mono ?_
    rintro e w4 ⟨fn4, cap4, rfl, hb⟩
    have HB := Lib.hid (bnextK HB.out hb)
    clear hb
    go_wp2_with fail
    refine (unless_fn _ _ _).mono ?_
    rintro e w5 ⟨fn5, cap5, rfl, hb⟩
    have HB := Lib.hid (bnextK HB.out hb)
    clear hb
    go_wp2_with fail
    refine (ask_bad (H.out.far (bnextK HB.out (below_alloc _ _))) _ _ _).mono ?_
    rintro e w9 ⟨rfl, b9⟩
    have HB := Lib.hid (bnextK (bnextK HB.out (below_alloc _ _)) b9)
    clear b9
    go_wp2_with fail
    refine bodyPost_ret (a := Act.mk _ _) (results_tmp2 rfl _ _ _) rfl ?_
    exact ⟨rfl, HB.out⟩
  · by_cases g2 : 4 < q
    · have hb2 : decide (4 < q) = true := by simp; omega
      go_enter Tryz.func20, Tryz.ntmps20
      go_wp2_with fail
      refine (ends_fn p a b _).mono ?_
      rintro e w3 ⟨fn3, cap3, rfl, hb⟩
      have HB := Lib.hid hb
      clear hb
      go_wp2_with fail
      refine (amount_fn k _).mono ?_
      rintro e w4 ⟨fn4, cap4, rfl, hb⟩
      have HB := Lib.hid (bnextK HB.out hb)
      clear hb
      go_wp2_with fail
      refine (unless_fn _ _ _).mono ?_
      rintro e w5 ⟨fn5, cap5, rfl, hb⟩
      have HB := Lib.hid (bnextK HB.out hb)
      clear hb
      go_wp2_with fail
      refine (ask_bad (H.out.far (bnextK HB.out (below_alloc _ _))) _ _ _).mono ?_
      rintro e w9 ⟨rfl, b9⟩
      have HB := Lib.hid (bnextK (bnextK HB.out (below_alloc _ _)) b9)
      clear b9
      go_wp2_with fail
      refine bodyPost_ret (a := Act.mk _ _) (results_tmp2 rfl _ _ _) rfl ?_
      exact ⟨rfl, HB.out⟩
    · have hb2 : decide (4 < q) = false := by simp; omega
      go_enter Tryz.func20, Tryz.ntmps20
      go_wp2_with fail
      refine (ends_fn p a b _).mono ?_
      rintro e w3 ⟨fn3, cap3, rfl, hb⟩
      have HB := Lib.hid hb
      clear hb
      go_wp2_with fail
      refine (amount_fn k _).mono ?_
      rintro e w4 ⟨fn4, cap4, rfl, hb⟩
      have HB := Lib.hid (bnextK HB.out hb)
      clear hb
      go_wp2_with fail
      refine (unless_fn _ _ _).mono ?_
      rintro e w5 ⟨fn5, cap5, rfl, hb⟩
      have HB := Lib.hid (bnextK HB.out hb)
      clear hb
      go_wp2_with fail
      refine (ask_bad (H.out.far (bnextK HB.out (below_alloc _ _))) _ _ _).mono ?_
      rintro e w9 ⟨rfl, b9⟩
      have HB := Lib.hid (bnextK (bnextK HB.out (below_alloc _ _)) b9)
      clear b9
      go_wp2_with fail
      refine bodyPost_ret (a := Act.mk _ _) (results_tmp2 rfl _ _ _) rfl ?_
      exact ⟨rfl, HB.out⟩
set_option maxRecDepth 100000 in
theorem Deliver_bad {w : World} {p : Option Addr} (h : BadN w p) (k : Int) : Calls Tryz.prog 24 #[.pointer p, .int .i64 k] w (RetB (.tuple #[.slice none 0 0, .int .i64 1]) w) := by
  have H := Lib.hid h
  clear h
  go_enter Tryz.func24, Tryz.ntmps24
  go_wp2_with fail
  refine (sentOf_fn p k _).mono ?_
  rintro e w3 ⟨fn3, cap3, rfl, hb⟩
  have HB := Lib.hid hb
  clear hb
  go_wp2_with fail
  refine (ask_bad (H.out.far (bnextK HB.out (below_alloc _ _))) _ _ _).mono ?_
  rintro e w9 ⟨rfl, b9⟩
  have HB := Lib.hid (bnextK (bnextK HB.out (below_alloc _ _)) b9)
  clear b9
  go_wp2_with fail
  refine bodyPost_ret (a := Act.mk _ _) (results_tmp2 rfl _ _ _) rfl ?_
  exact ⟨rfl, HB.out⟩
set_option maxRecDepth 100000 in
theorem View_bad {w : World} {p : Option Addr} (h : BadN w p) (k : Int) (A : Option Addr) (n c : Nat) : Calls Tryz.prog 25 #[.pointer p, .int .i64 k, .slice A n c] w (RetB (.tuple #[.slice none 0 0, .int .i64 1]) w) := by
  have H := Lib.hid h
  clear h
  go_enter Tryz.func25, Tryz.ntmps25
  go_wp2_with fail
  refine (sentOf_fn p k _).mono ?_
  rintro e w3 ⟨fn3, cap3, rfl, hb⟩
  have HB := Lib.hid hb
  clear hb
  go_wp2_with fail
  refine (all_fn p A n c _).mono ?_
  rintro e w4 ⟨fn4, cap4, rfl, hb⟩
  have HB := Lib.hid (bnextK HB.out hb)
  clear hb
  go_wp2_with fail
  refine (ask_bad (H.out.far (bnextK HB.out (below_alloc _ _))) _ _ _).mono ?_
  rintro e w9 ⟨rfl, b9⟩
  have HB := Lib.hid (bnextK (bnextK HB.out (below_alloc _ _)) b9)
  clear b9
  go_wp2_with fail
  refine bodyPost_ret (a := Act.mk _ _) (results_tmp2 rfl _ _ _) rfl ?_
  exact ⟨rfl, HB.out⟩
set_option maxRecDepth 100000 in
theorem Exposed_bad {w : World} {p : Option Addr} (h : BadN w p) (A : Option Addr) (n c : Nat) : Calls Tryz.prog 26 #[.pointer p, .slice A n c] w (RetB (.tuple #[.slice none 0 0, .int .i64 1]) w) := by
  have H := Lib.hid h
  clear h
  go_enter Tryz.func26, Tryz.ntmps26
  go_wp2_with fail
  refine (all_fn p A n c _).mono ?_
  rintro e w3 ⟨fn3, cap3, rfl, hb⟩
  have HB := Lib.hid hb
  clear hb
  go_wp2_with fail
  refine (ask_bad (H.out.far (bnextK HB.out (below_alloc _ _))) _ _ _).mono ?_
  rintro e w9 ⟨rfl, b9⟩
  have HB := Lib.hid (bnextK (bnextK HB.out (below_alloc _ _)) b9)
  clear b9
  go_wp2_with fail
  refine bodyPost_ret (a := Act.mk _ _) (results_tmp2 rfl _ _ _) rfl ?_
  exact ⟨rfl, HB.out⟩
#print axioms Exposed_bad
end Go.Proofs.YtghjlbbalngdhaaGreatDoor
/- What the methods of a network that is not valid answer, part 2. Conditions: as each statement says. -/
namespace Go.Proofs.YtghjlbbalngdhaaGreatDoor
open Go.RowKit
set_option linter.unusedVariables false
set_option maxRecDepth 100000 in
set_option maxHeartbeats 2000000 in
theorem Node_bad {w : World} {p : Option Addr} (h : BadN w p) (a : Nm) : Calls Tryz.prog 4 #[.pointer p, encS a] w (RetB (.int .i64 1) w) := by
  have hmf : ∀ (fn : Fn) (first cap : Array Value) (w : World), (Instr.makeFunc fn first cap).run Tryz.prog w = .ok (.func fn first cap) w := fun _ _ _ _ => rfl
  obtain ⟨w1, hw1⟩ : ∃ w1, w1 = (w.alloc (.cells #[.pointer p] 22)).alloc (.cells #[encS a] 9) := ⟨_, rfl⟩
  obtain ⟨k0, k1⟩ := boxes2 w #[.pointer p] #[encS a] 22 9
  have hb1 : Below w.heap.size w w1 := by rw [hw1]; exact alloc2_below _ _ _
  rw [← hw1] at k0 k1
  have HW1 := Lib.hid hw1; have HB1 := Lib.hid hb1; have HBD := Lib.hid (h.far hb1)
  have d0_0 := k0.cell 0
  have d1_0 := k1.cell 0
  simp only [List.getElem?_toArray, List.getElem?_cons_succ, List.getElem?_cons_zero] at d0_0 d1_0
  have HNOW : Hid (w1.drew.cell? ⟨w.heap.size, 0, none⟩ = some (.pointer p) ∧ w1.drew.cell? ⟨w.heap.size + 1, 0, none⟩ = some (encS a) ∧ Below w1.heap.size w1 w1.drew) := Lib.hid ⟨d0_0, d1_0, Qw.below ⟨1, rfl⟩ _⟩
  have HFAR : Hid (∀ {W W' : World}, (W.cell? ⟨w.heap.size, 0, none⟩ = some (.pointer p) ∧ W.cell? ⟨w.heap.size + 1, 0, none⟩ = some (encS a) ∧ Below w1.heap.size w1 W) → Below W.heap.size W W' → (W'.cell? ⟨w.heap.size, 0, none⟩ = some (.pointer p) ∧ W'.cell? ⟨w.heap.size + 1, 0, none⟩ = some (encS a) ∧ Below w1.heap.size w1 W')) := Lib.hid fun hS hb => ⟨(hb.cell (p := ⟨w.heap.size, 0, none⟩) (cell_ltO hS.1)).trans hS.1, (hb.cell (p := ⟨w.heap.size + 1, 0, none⟩) (cell_ltO hS.2.1)).trans hS.2.1, bnextK hS.2.2 hb⟩
  clear d0_0 d1_0
  clear h k0 k1 hb1
  clear hw1
  go_enter Tryz.func4, Tryz.ntmps4
  go_wp2_with fail
  rw [← HW1.out]
  go_region_held3 (fun w' => w'.cell? ⟨w.heap.size, 0, none⟩ = some (.pointer p) ∧ w'.cell? ⟨w.heap.size + 1, 0, none⟩ = some (encS a) ∧ Below w1.heap.size w1 w') (first | exact HNOW.out | exact HFAR.out HNOW.out (below_alloc _ _))
    ((first
      | (go_at_call 29; refine (unless_fn _ _ _).mono ?_; rintro e w4 ⟨fn0, cap0, rfl, b4⟩; have HNOW := Lib.hid (HFAR.out HNOW.out b4); clear b4)
      | (go_at_call 30; refine (named_any a _).mono ?_; rintro e w3 ⟨rfl, rfl⟩)
      | (go_at_call 28; refine (ask_bad (HBD.out.far (bnextK HNOW.out.2.2 (below_alloc _ _))) _ _ _).mono ?_; rintro e w5 ⟨rfl, b5⟩; have HNOW := Lib.hid (HFAR.out (HFAR.out HNOW.out (below_alloc _ _)) b5); clear b5)))
  all_goals
    go_wp2_with fail
    go_ret
    exact ⟨rfl, bnextK HB1.out HNOW.out.2.2⟩
set_option maxRecDepth 100000 in
set_option maxHeartbeats 2000000 in
theorem Link_bad {w : World} {p : Option Addr} (h : BadN w p) (a b : Nm) (st cp gn ev : Int) : Calls Tryz.prog 5 #[.pointer p, encS a, encS b, .agg #[.int .i64 st, .int .i64 cp, .int .i64 gn, .int .i64 ev]] w (RetB (.int .i64 1) w) := by
  have hmf : ∀ (fn : Fn) (first cap : Array Value) (w : World), (Instr.makeFunc fn first cap).run Tryz.prog w = .ok (.func fn first cap) w := fun _ _ _ _ => rfl
  obtain ⟨w1, hw1⟩ : ∃ w1, w1 = (((w.alloc (.cells #[.pointer p] 22)).alloc (.cells #[encS a] 9)).alloc (.cells #[encS b] 9)).alloc (.cells #[.int .i64 st, .int .i64 cp, .int .i64 gn, .int .i64 ev] 34) := ⟨_, rfl⟩
  obtain ⟨k0, k1, k2, k3⟩ := boxes4 w #[.pointer p] #[encS a] #[encS b] #[.int .i64 st, .int .i64 cp, .int .i64 gn, .int .i64 ev] 22 9 9 34
  have hb1 : Below w.heap.size w w1 := by rw [hw1]; exact bnextK (alloc3_below w _ _ _) (below_alloc _ _)
  rw [← hw1] at k0 k1 k2 k3
  have HW1 := Lib.hid hw1; have HB1 := Lib.hid hb1; have HBD := Lib.hid (h.far hb1)
  have d0_0 := k0.cell 0
  have d1_0 := k1.cell 0
  have d2_0 := k2.cell 0
  have d3_0 := k3.cell 0
  have d3_1 := k3.cell 1
  have d3_2 := k3.cell 2
  have d3_3 := k3.cell 3
  simp only [List.getElem?_toArray, List.getElem?_cons_succ, List.getElem?_cons_zero] at d0_0 d1_0 d2_0 d3_0 d3_1 d3_2 d3_3
  have HNOW : Hid (w1.drew.cell? ⟨w.heap.size, 0, none⟩ = some (.pointer p) ∧ w1.drew.cell? ⟨w.heap.size + 1, 0, none⟩ = some (encS a) ∧ w1.drew.cell? ⟨w.heap.size + 1 + 1, 0, none⟩ = some (encS b) ∧ w1.drew.cell? ⟨w.heap.size + 1 + 1 + 1, 0, none⟩ = some (.int .i64 st) ∧ w1.drew.cell? ⟨w.heap.size + 1 + 1 + 1, 1, none⟩ = some (.int .i64 cp) ∧ w1.drew.cell? ⟨w.heap.size + 1 + 1 + 1, 2, none⟩ = some (.int .i64 gn) ∧ w1.drew.cell? ⟨w.heap.size + 1 + 1 + 1, 3, none⟩ = some (.int .i64 ev) ∧ Below w1.heap.size w1 w1.drew) := Lib.hid ⟨d0_0, d1_0, d2_0, d3_0, d3_1, d3_2, d3_3, Qw.below ⟨1, rfl⟩ _⟩
  have HFAR : Hid (∀ {W W' : World}, (W.cell? ⟨w.heap.size, 0, none⟩ = some (.pointer p) ∧ W.cell? ⟨w.heap.size + 1, 0, none⟩ = some (encS a) ∧ W.cell? ⟨w.heap.size + 1 + 1, 0, none⟩ = some (encS b) ∧ W.cell? ⟨w.heap.size + 1 + 1 + 1, 0, none⟩ = some (.int .i64 st) ∧ W.cell? ⟨w.heap.size + 1 + 1 + 1, 1, none⟩ = some (.int .i64 cp) ∧ W.cell? ⟨w.heap.size + 1 + 1 + 1, 2, none⟩ = some (.int .i64 gn) ∧ W.cell? ⟨w.heap.size + 1 + 1 + 1, 3, none⟩ = some (.int .i64 ev) ∧ Below w1.heap.size w1 W) → Below W.heap.size W W' → (W'.cell? ⟨w.heap.size, 0, none⟩ = some (.pointer p) ∧ W'.cell? ⟨w.heap.size + 1, 0, none⟩ = some (encS a) ∧ W'.cell? ⟨w.heap.size + 1 + 1, 0, none⟩ = some (encS b) ∧ W'.cell? ⟨w.heap.size + 1 + 1 + 1, 0, none⟩ = some (.int .i64 st) ∧ W'.cell? ⟨w.heap.size + 1 + 1 + 1, 1, none⟩ = some (.int .i64 cp) ∧ W'.cell? ⟨w.heap.size + 1 + 1 + 1, 2, none⟩ = some (.int .i64 gn) ∧ W'.cell? ⟨w.heap.size + 1 + 1 + 1, 3, none⟩ = some (.int .i64 ev) ∧ Below w1.heap.size w1 W')) := Lib.hid fun hS hb => ⟨(hb.cell (p := ⟨w.heap.size, 0, none⟩) (cell_ltO hS.1)).trans hS.1, (hb.cell (p := ⟨w.heap.size + 1, 0, none⟩) (cell_ltO hS.2.1)).trans hS.2.1, (hb.cell (p := ⟨w.heap.size + 1 + 1, 0, none⟩) (cell_ltO hS.2.2.1)).trans hS.2.2.1, (hb.cell (p := ⟨w.heap.size + 1 + 1 + 1, 0, none⟩) (cell_ltO hS.2.2.2.1)).trans hS.2.2.2.1, (hb.cell (p := ⟨w.heap.size + 1 + 1 + 1, 1, none⟩) (cell_ltO hS.2.2.2.2.1)).trans hS.2.2.2.2.1, (hb.cell (p := ⟨w.heap.size + 1 + 1 + 1, 2, none⟩) (cell_ltO hS.2.2.2.2.2.1)).trans hS.2.2.2.2.2.1, (hb.cell (p := ⟨w.heap.size + 1 + 1 + 1, 3, none⟩) (cell_ltO hS.2.2.2.2.2.2.1)).trans hS.2.2.2.2.2.2.1, bnextK hS.2.2.2.2.2.2.2 hb⟩
  clear d0_0 d1_0 d2_0 d3_0 d3_1 d3_2 d3_3
  clear h k0 k1 k2 k3 hb1
  clear hw1
  go_enter Tryz.func5, Tryz.ntmps5
  go_wp2_with fail
  rw [← HW1.out]
  go_region_held3 (fun w' => w'.cell? ⟨w.heap.size, 0, none⟩ = some (.pointer p) ∧ w'.cell? ⟨w.heap.size + 1, 0, none⟩ = some (encS a) ∧ w'.cell? ⟨w.heap.size + 1 + 1, 0, none⟩ = some (encS b) ∧ w'.cell? ⟨w.heap.size + 1 + 1 + 1, 0, none⟩ = some (.int .i64 st) ∧ w'.cell? ⟨w.heap.size + 1 + 1 + 1, 1, none⟩ = some (.int .i64 cp) ∧ w'.cell? ⟨w.heap.size + 1 + 1 + 1, 2, none⟩ = some (.int .i64 gn) ∧ w'.cell? ⟨w.heap.size + 1 + 1 + 1, 3, none⟩ = some (.int .i64 ev) ∧ Below w1.heap.size w1 w') (first | exact HNOW.out | exact HFAR.out HNOW.out (below_alloc _ _))
    ((first
      | (go_at_call 32; refine (twoNames_fn a b _).mono ?_; rintro e w4 ⟨fn0, cap0, rfl, b4⟩; have HNOW := Lib.hid (HFAR.out HNOW.out b4); clear b4)
      | (go_at_call 29; refine (unless_fn _ _ _).mono ?_; rintro e w4 ⟨fn1, cap1, rfl, b4⟩; have HNOW := Lib.hid (HFAR.out HNOW.out b4); clear b4)
      | (go_at_call 34; refine (both_fn p a b _).mono ?_; rintro e w4 ⟨fn2, cap2, rfl, b4⟩; have HNOW := Lib.hid (HFAR.out HNOW.out b4); clear b4)
      | (go_at_call 33; refine (possible_any st cp gn ev _).mono ?_; rintro e w3 ⟨rfl, b3⟩; have HNOW := Lib.hid (HFAR.out HNOW.out b3); clear b3)
      | (go_at_call 28; refine (ask_bad (HBD.out.far (bnextK HNOW.out.2.2.2.2.2.2.2 (below_alloc _ _))) _ _ _).mono ?_; rintro e w5 ⟨rfl, b5⟩; have HNOW := Lib.hid (HFAR.out (HFAR.out HNOW.out (below_alloc _ _)) b5); clear b5)))
  all_goals
    go_wp2_with fail
    go_ret
    exact ⟨rfl, bnextK HB1.out HNOW.out.2.2.2.2.2.2.2⟩
set_option maxRecDepth 100000 in
set_option maxHeartbeats 2000000 in
theorem Tick_bad {w : World} {p : Option Addr} (h : BadN w p) (k : Int) : Calls Tryz.prog 8 #[.pointer p, .int .i64 k] w (RetB (.int .i64 1) w) := by
  have hmf : ∀ (fn : Fn) (first cap : Array Value) (w : World), (Instr.makeFunc fn first cap).run Tryz.prog w = .ok (.func fn first cap) w := fun _ _ _ _ => rfl
  obtain ⟨w1, hw1⟩ : ∃ w1, w1 = (w.alloc (.cells #[.pointer p] 22)).alloc (.cells #[.int .i64 k] 3) := ⟨_, rfl⟩
  obtain ⟨k0, k1⟩ := boxes2 w #[.pointer p] #[.int .i64 k] 22 3
  have hb1 : Below w.heap.size w w1 := by rw [hw1]; exact alloc2_below _ _ _
  rw [← hw1] at k0 k1
  have HW1 := Lib.hid hw1; have HB1 := Lib.hid hb1; have HBD := Lib.hid (h.far hb1)
  have d0_0 := k0.cell 0
  have d1_0 := k1.cell 0
  simp only [List.getElem?_toArray, List.getElem?_cons_succ, List.getElem?_cons_zero] at d0_0 d1_0
  have HNOW : Hid (w1.drew.cell? ⟨w.heap.size, 0, none⟩ = some (.pointer p) ∧ w1.drew.cell? ⟨w.heap.size + 1, 0, none⟩ = some (.int .i64 k) ∧ Below w1.heap.size w1 w1.drew) := Lib.hid ⟨d0_0, d1_0, Qw.below ⟨1, rfl⟩ _⟩
  have HFAR : Hid (∀ {W W' : World}, (W.cell? ⟨w.heap.size, 0, none⟩ = some (.pointer p) ∧ W.cell? ⟨w.heap.size + 1, 0, none⟩ = some (.int .i64 k) ∧ Below w1.heap.size w1 W) → Below W.heap.size W W' → (W'.cell? ⟨w.heap.size, 0, none⟩ = some (.pointer p) ∧ W'.cell? ⟨w.heap.size + 1, 0, none⟩ = some (.int .i64 k) ∧ Below w1.heap.size w1 W')) := Lib.hid fun hS hb => ⟨(hb.cell (p := ⟨w.heap.size, 0, none⟩) (cell_ltO hS.1)).trans hS.1, (hb.cell (p := ⟨w.heap.size + 1, 0, none⟩) (cell_ltO hS.2.1)).trans hS.2.1, bnextK hS.2.2 hb⟩
  clear d0_0 d1_0
  clear h k0 k1 hb1 hw1
  by_cases g1 : k < 1
  · have hb1 : decide (k < 1) = true := by simp; omega
    go_enter Tryz.func8, Tryz.ntmps8
    go_wp2_with fail
    rw [← HW1.out]
    refine wp_region_held_drew (S := (fun w' => w'.cell? ⟨w.heap.size, 0, none⟩ = some (.pointer p) ∧ w'.cell? ⟨w.heap.size + 1, 0, none⟩ = some (.int .i64 k) ∧ Below w1.heap.size w1 w')) (by kernel_rfl) ?_ (fun hHeld => ?_)
    · (try dsimp only); first | exact HNOW.out | exact HFAR.out HNOW.out (below_alloc _ _)
    refine wpAnyH_take (i := 0) (oi := ⟨some 12, _, _, _, _, _⟩) (v := ?_) rfl (by kernel_rfl) (by kernel_rfl) (by kernel_rfl) (fun _ _ _ h => h) (Or.inl ⟨by rfl, ?_⟩) (by assumption) ?_
    rotate_left
    · (intro w hSw; (try dsimp only at hSw); go_simp; try with_reducible rfl)
    try simp only [Act.put, List.setIfInBounds_toArray, List.set_cons_zero, List.set_cons_succ]
    refine wpAnyH_take (i := 1) (oi := ⟨some 13, _, _, _, _, _⟩) (v := ?_) rfl (by kernel_rfl) (by kernel_rfl) (by kernel_rfl) (fun _ _ _ h => h) (Or.inl ⟨by rfl, ?_⟩) (by assumption) ?_
    rotate_left
    · (intro w hSw; (try dsimp only at hSw); go_simp; try with_reducible rfl)
    try simp only [Act.put, List.setIfInBounds_toArray, List.set_cons_zero, List.set_cons_succ]
    refine wpAnyH_take (i := 2) (oi := ⟨some 14, _, _, _, _, _⟩) (v := ?_) rfl (by kernel_rfl) (by kernel_rfl) (by kernel_rfl) (fun _ _ _ h => h) (Or.inl ⟨by rfl, ?_⟩) (by assumption) ?_
    rotate_left
    · (intro w hSw; (try dsimp only at hSw); go_simp; try with_reducible rfl)
    try simp only [Act.put, List.setIfInBounds_toArray, List.set_cons_zero, List.set_cons_succ]
    refine wpAnyH_take (i := 3) (oi := ⟨some 15, _, _, _, _, _⟩) (v := ?_) rfl (by kernel_rfl) (by kernel_rfl) (by kernel_rfl) (fun _ _ _ h => h) (Or.inl ⟨by rfl, ?_⟩) (by assumption) ?_
    rotate_left
    · (intro w hSw; (try dsimp only at hSw); go_simp; try with_reducible rfl)
    try simp only [Act.put, List.setIfInBounds_toArray, List.set_cons_zero, List.set_cons_succ]
    refine wpAnyH_take (i := 4) (oi := ⟨some 16, _, _, _, _, _⟩) (v := undef) rfl (by kernel_rfl) (by kernel_rfl) (by kernel_rfl) (fun _ _ _ h => h) (Or.inr ⟨by rfl, rfl⟩) (by assumption) ?_
    try simp only [Act.put, List.setIfInBounds_toArray, List.set_cons_zero, List.set_cons_succ]
    refine wpAnyH_take (i := 5) (oi := ⟨some 17, _, _, _, _, _⟩) (v := undef) rfl (by kernel_rfl) (by kernel_rfl) (by kernel_rfl) (fun _ _ _ h => h) (Or.inr ⟨by rfl, rfl⟩) (by assumption) ?_
    try simp only [Act.put, List.setIfInBounds_toArray, List.set_cons_zero, List.set_cons_succ]
    refine wpAnyH_take (i := 6) (oi := ⟨some 18, _, _, _, _, _⟩) (v := ?_) rfl (by kernel_rfl) (by kernel_rfl) (by kernel_rfl) (fun _ _ _ h => h) (Or.inl ⟨by rfl, ?_⟩) (by assumption) ?_
    rotate_left
    · (intro w hSw; (try dsimp only at hSw); go_simp; try with_reducible rfl)
    try simp only [Act.put, List.setIfInBounds_toArray, List.set_cons_zero, List.set_cons_succ]
    refine wpAnyH_take (i := 8) (oi := ⟨some 20, _, _, _, _, _⟩) (v := ?_) rfl (by kernel_rfl) (by kernel_rfl) (by kernel_rfl) (fun _ _ _ h => h) (Or.inl ⟨by rfl, ?_⟩) (by assumption) ?_
    rotate_left
    · (intro w hSw; (try dsimp only at hSw); go_simp; try with_reducible rfl)
    try simp only [Act.put, List.setIfInBounds_toArray, List.set_cons_zero, List.set_cons_succ]
    refine wpAnyH_ready (rs := [7]) (by kernel_rfl) (by simp) ?_
    refine AllReadyH.cons (o := ⟨some 19, _, _, _, _, _⟩) rfl (fun K hK => ?_) AllReadyH.nil
    go_simp
    refine (unless_fn _ _ _).mono ?_
    rintro e w4 ⟨fn7, cap7, rfl, b4⟩
    have HNOW := Lib.hid (HFAR.out HNOW.out b4)
    clear b4
    go_wp2_with fail
    refine hK.out _ _ ?_ (fun hHeld => ?_)
    · (try dsimp only); first | exact HNOW.out | exact HFAR.out HNOW.out (below_alloc _ _)
    clear hK K
    try simp only [Act.put, List.setIfInBounds_toArray, List.set_cons_zero, List.set_cons_succ]
    refine wpAnyH_ready (rs := [9]) (by kernel_rfl) (by simp) ?_
    refine AllReadyH.cons (o := ⟨some 21, _, _, _, _, _⟩) rfl (fun K hK => ?_) AllReadyH.nil
    go_simp
    refine hK.out _ _ ?_ (fun hHeld => ?_)
    · (try dsimp only); first | exact HNOW.out | exact HFAR.out HNOW.out (below_alloc _ _)
    clear hK K
    try simp only [Act.put, List.setIfInBounds_toArray, List.set_cons_zero, List.set_cons_succ]
    refine wpAnyH_ready (rs := [10]) (by kernel_rfl) (by simp) ?_
    refine AllReadyH.cons (o := ⟨some 22, _, _, _, _, _⟩) rfl (fun K hK => ?_) AllReadyH.nil
    go_simp
    refine (ask_bad (HBD.out.far (bnextK HNOW.out.2.2 (below_alloc _ _))) _ _ _).mono ?_
    rintro e w5 ⟨rfl, b5⟩
    have HNOW := Lib.hid (HFAR.out (HFAR.out HNOW.out (below_alloc _ _)) b5)
    clear b5
    go_wp2_with fail
    refine hK.out _ _ ?_ (fun hHeld => ?_)
    · (try dsimp only); first | exact HNOW.out | exact HFAR.out HNOW.out (below_alloc _ _)
    clear hK K
    try simp only [Act.put, List.setIfInBounds_toArray, List.set_cons_zero, List.set_cons_succ]
    refine wpAnyH_take (i := 11) (oi := ⟨some 5, _, _, _, _, _⟩) (v := ?_) rfl (by kernel_rfl) (by kernel_rfl) (by kernel_rfl) (fun _ _ _ h => h) (Or.inl ⟨by rfl, ?_⟩) (by assumption) ?_
    rotate_left
    · (intro w hSw; (try dsimp only at hSw); go_simp; try with_reducible rfl)
    try simp only [Act.put, List.setIfInBounds_toArray, List.set_cons_zero, List.set_cons_succ]
    refine wpAnyH_done (by kernel_rfl) ?_ _
    go_wp2_with fail
    go_ret
    exact ⟨rfl, bnextK HB1.out HNOW.out.2.2⟩
  · have hb1 : decide (k < 1) = false := by simp; omega
    by_cases g2 : 1048576 < k
    · have hb2 : decide (1048576 < k) = true := by simp; omega
      go_enter Tryz.func8, Tryz.ntmps8
      go_wp2_with fail
      rw [← HW1.out]
      refine wp_region_held_drew (S := (fun w' => w'.cell? ⟨w.heap.size, 0, none⟩ = some (.pointer p) ∧ w'.cell? ⟨w.heap.size + 1, 0, none⟩ = some (.int .i64 k) ∧ Below w1.heap.size w1 w')) (by kernel_rfl) ?_ (fun hHeld => ?_)
      · (try dsimp only); first | exact HNOW.out | exact HFAR.out HNOW.out (below_alloc _ _)
      refine wpAnyH_take (i := 0) (oi := ⟨some 12, _, _, _, _, _⟩) (v := ?_) rfl (by kernel_rfl) (by kernel_rfl) (by kernel_rfl) (fun _ _ _ h => h) (Or.inl ⟨by rfl, ?_⟩) (by assumption) ?_
      rotate_left
      · (intro w hSw; (try dsimp only at hSw); go_simp; try with_reducible rfl)
      try simp only [Act.put, List.setIfInBounds_toArray, List.set_cons_zero, List.set_cons_succ]
      refine wpAnyH_take (i := 1) (oi := ⟨some 13, _, _, _, _, _⟩) (v := ?_) rfl (by kernel_rfl) (by kernel_rfl) (by kernel_rfl) (fun _ _ _ h => h) (Or.inl ⟨by rfl, ?_⟩) (by assumption) ?_
      rotate_left
      · (intro w hSw; (try dsimp only at hSw); go_simp; try with_reducible rfl)
      try simp only [Act.put, List.setIfInBounds_toArray, List.set_cons_zero, List.set_cons_succ]
      refine wpAnyH_take (i := 2) (oi := ⟨some 14, _, _, _, _, _⟩) (v := ?_) rfl (by kernel_rfl) (by kernel_rfl) (by kernel_rfl) (fun _ _ _ h => h) (Or.inl ⟨by rfl, ?_⟩) (by assumption) ?_
      rotate_left
      · (intro w hSw; (try dsimp only at hSw); go_simp; try with_reducible rfl)
      try simp only [Act.put, List.setIfInBounds_toArray, List.set_cons_zero, List.set_cons_succ]
      refine wpAnyH_take (i := 3) (oi := ⟨some 15, _, _, _, _, _⟩) (v := ?_) rfl (by kernel_rfl) (by kernel_rfl) (by kernel_rfl) (fun _ _ _ h => h) (Or.inl ⟨by rfl, ?_⟩) (by assumption) ?_
      rotate_left
      · (intro w hSw; (try dsimp only at hSw); go_simp; try with_reducible rfl)
      try simp only [Act.put, List.setIfInBounds_toArray, List.set_cons_zero, List.set_cons_succ]
      refine wpAnyH_take (i := 4) (oi := ⟨some 16, _, _, _, _, _⟩) (v := ?_) rfl (by kernel_rfl) (by kernel_rfl) (by kernel_rfl) (fun _ _ _ h => h) (Or.inl ⟨by rfl, ?_⟩) (by assumption) ?_
      rotate_left
      · (intro w hSw; (try dsimp only at hSw); go_simp; try with_reducible rfl)
      try simp only [Act.put, List.setIfInBounds_toArray, List.set_cons_zero, List.set_cons_succ]
      refine wpAnyH_take (i := 5) (oi := ⟨some 17, _, _, _, _, _⟩) (v := ?_) rfl (by kernel_rfl) (by kernel_rfl) (by kernel_rfl) (fun _ _ _ h => h) (Or.inl ⟨by rfl, ?_⟩) (by assumption) ?_
      rotate_left
      · (intro w hSw; (try dsimp only at hSw); go_simp; try with_reducible rfl)
      try simp only [Act.put, List.setIfInBounds_toArray, List.set_cons_zero, List.set_cons_succ]
      refine wpAnyH_take (i := 6) (oi := ⟨some 18, _, _, _, _, _⟩) (v := ?_) rfl (by kernel_rfl) (by kernel_rfl) (by kernel_rfl) (fun _ _ _ h => h) (Or.inl ⟨by rfl, ?_⟩) (by assumption) ?_
      rotate_left
      · (intro w hSw; (try dsimp only at hSw); go_simp; try with_reducible rfl)
      try simp only [Act.put, List.setIfInBounds_toArray, List.set_cons_zero, List.set_cons_succ]
      refine wpAnyH_take (i := 8) (oi := ⟨some 20, _, _, _, _, _⟩) (v := ?_) rfl (by kernel_rfl) (by kernel_rfl) (by kernel_rfl) (fun _ _ _ h => h) (Or.inl ⟨by rfl, ?_⟩) (by assumption) ?_
      rotate_left
      · (intro w hSw; (try dsimp only at hSw); go_simp; try with_reducible rfl)
      try simp only [Act.put, List.setIfInBounds_toArray, List.set_cons_zero, List.set_cons_succ]
      refine wpAnyH_ready (rs := [7]) (by kernel_rfl) (by simp) ?_
      refine AllReadyH.cons (o := ⟨some 19, _, _, _, _, _⟩) rfl (fun K hK => ?_) AllReadyH.nil
      go_simp
      refine (unless_fn _ _ _).mono ?_
      rintro e w4 ⟨fn7, cap7, rfl, b4⟩
      have HNOW := Lib.hid (HFAR.out HNOW.out b4)
      clear b4
      go_wp2_with fail
      refine hK.out _ _ ?_ (fun hHeld => ?_)
      · (try dsimp only); first | exact HNOW.out | exact HFAR.out HNOW.out (below_alloc _ _)
      clear hK K
      try simp only [Act.put, List.setIfInBounds_toArray, List.set_cons_zero, List.set_cons_succ]
      refine wpAnyH_ready (rs := [9]) (by kernel_rfl) (by simp) ?_
      refine AllReadyH.cons (o := ⟨some 21, _, _, _, _, _⟩) rfl (fun K hK => ?_) AllReadyH.nil
      go_simp
      refine hK.out _ _ ?_ (fun hHeld => ?_)
      · (try dsimp only); first | exact HNOW.out | exact HFAR.out HNOW.out (below_alloc _ _)
      clear hK K
      try simp only [Act.put, List.setIfInBounds_toArray, List.set_cons_zero, List.set_cons_succ]
      refine wpAnyH_ready (rs := [10]) (by kernel_rfl) (by simp) ?_
      refine AllReadyH.cons (o := ⟨some 22, _, _, _, _, _⟩) rfl (fun K hK => ?_) AllReadyH.nil
      go_simp
      refine (ask_bad (HBD.out.far (bnextK HNOW.out.2.2 (below_alloc _ _))) _ _ _).mono ?_
      rintro e w5 ⟨rfl, b5⟩
      have HNOW := Lib.hid (HFAR.out (HFAR.out HNOW.out (below_alloc _ _)) b5)
      clear b5
      go_wp2_with fail
      refine hK.out _ _ ?_ (fun hHeld => ?_)
      · (try dsimp only); first | exact HNOW.out | exact HFAR.out HNOW.out (below_alloc _ _)
      clear hK K
      try simp only [Act.put, List.setIfInBounds_toArray, List.set_cons_zero, List.set_cons_succ]
      refine wpAnyH_take (i := 11) (oi := ⟨some 5, _, _, _, _, _⟩) (v := ?_) rfl (by kernel_rfl) (by kernel_rfl) (by kernel_rfl) (fun _ _ _ h => h) (Or.inl ⟨by rfl, ?_⟩) (by assumption) ?_
      rotate_left
      · (intro w hSw; (try dsimp only at hSw); go_simp; try with_reducible rfl)
      try simp only [Act.put, List.setIfInBounds_toArray, List.set_cons_zero, List.set_cons_succ]
      refine wpAnyH_done (by kernel_rfl) ?_ _
      go_wp2_with fail
      go_ret
      exact ⟨rfl, bnextK HB1.out HNOW.out.2.2⟩
    · have hb2 : decide (1048576 < k) = false := by simp; omega
      go_enter Tryz.func8, Tryz.ntmps8
      go_wp2_with fail
      rw [← HW1.out]
      refine wp_region_held_drew (S := (fun w' => w'.cell? ⟨w.heap.size, 0, none⟩ = some (.pointer p) ∧ w'.cell? ⟨w.heap.size + 1, 0, none⟩ = some (.int .i64 k) ∧ Below w1.heap.size w1 w')) (by kernel_rfl) ?_ (fun hHeld => ?_)
      · (try dsimp only); first | exact HNOW.out | exact HFAR.out HNOW.out (below_alloc _ _)
      refine wpAnyH_take (i := 0) (oi := ⟨some 12, _, _, _, _, _⟩) (v := ?_) rfl (by kernel_rfl) (by kernel_rfl) (by kernel_rfl) (fun _ _ _ h => h) (Or.inl ⟨by rfl, ?_⟩) (by assumption) ?_
      rotate_left
      · (intro w hSw; (try dsimp only at hSw); go_simp; try with_reducible rfl)
      try simp only [Act.put, List.setIfInBounds_toArray, List.set_cons_zero, List.set_cons_succ]
      refine wpAnyH_take (i := 1) (oi := ⟨some 13, _, _, _, _, _⟩) (v := ?_) rfl (by kernel_rfl) (by kernel_rfl) (by kernel_rfl) (fun _ _ _ h => h) (Or.inl ⟨by rfl, ?_⟩) (by assumption) ?_
      rotate_left
      · (intro w hSw; (try dsimp only at hSw); go_simp; try with_reducible rfl)
      try simp only [Act.put, List.setIfInBounds_toArray, List.set_cons_zero, List.set_cons_succ]
      refine wpAnyH_take (i := 2) (oi := ⟨some 14, _, _, _, _, _⟩) (v := ?_) rfl (by kernel_rfl) (by kernel_rfl) (by kernel_rfl) (fun _ _ _ h => h) (Or.inl ⟨by rfl, ?_⟩) (by assumption) ?_
      rotate_left
      · (intro w hSw; (try dsimp only at hSw); go_simp; try with_reducible rfl)
      try simp only [Act.put, List.setIfInBounds_toArray, List.set_cons_zero, List.set_cons_succ]
      refine wpAnyH_take (i := 3) (oi := ⟨some 15, _, _, _, _, _⟩) (v := ?_) rfl (by kernel_rfl) (by kernel_rfl) (by kernel_rfl) (fun _ _ _ h => h) (Or.inl ⟨by rfl, ?_⟩) (by assumption) ?_
      rotate_left
      · (intro w hSw; (try dsimp only at hSw); go_simp; try with_reducible rfl)
      try simp only [Act.put, List.setIfInBounds_toArray, List.set_cons_zero, List.set_cons_succ]
      refine wpAnyH_take (i := 4) (oi := ⟨some 16, _, _, _, _, _⟩) (v := ?_) rfl (by kernel_rfl) (by kernel_rfl) (by kernel_rfl) (fun _ _ _ h => h) (Or.inl ⟨by rfl, ?_⟩) (by assumption) ?_
      rotate_left
      · (intro w hSw; (try dsimp only at hSw); go_simp; try with_reducible rfl)
      try simp only [Act.put, List.setIfInBounds_toArray, List.set_cons_zero, List.set_cons_succ]
      refine wpAnyH_take (i := 5) (oi := ⟨some 17, _, _, _, _, _⟩) (v := ?_) rfl (by kernel_rfl) (by kernel_rfl) (by kernel_rfl) (fun _ _ _ h => h) (Or.inl ⟨by rfl, ?_⟩) (by assumption) ?_
      rotate_left
      · (intro w hSw; (try dsimp only at hSw); go_simp; try with_reducible rfl)
      try simp only [Act.put, List.setIfInBounds_toArray, List.set_cons_zero, List.set_cons_succ]
      refine wpAnyH_take (i := 6) (oi := ⟨some 18, _, _, _, _, _⟩) (v := ?_) rfl (by kernel_rfl) (by kernel_rfl) (by kernel_rfl) (fun _ _ _ h => h) (Or.inl ⟨by rfl, ?_⟩) (by assumption) ?_
      rotate_left
      · (intro w hSw; (try dsimp only at hSw); go_simp; try with_reducible rfl)
      try simp only [Act.put, List.setIfInBounds_toArray, List.set_cons_zero, List.set_cons_succ]
      refine wpAnyH_take (i := 8) (oi := ⟨some 20, _, _, _, _, _⟩) (v := ?_) rfl (by kernel_rfl) (by kernel_rfl) (by kernel_rfl) (fun _ _ _ h => h) (Or.inl ⟨by rfl, ?_⟩) (by assumption) ?_
      rotate_left
      · (intro w hSw; (try dsimp only at hSw); go_simp; try with_reducible rfl)
      try simp only [Act.put, List.setIfInBounds_toArray, List.set_cons_zero, List.set_cons_succ]
      refine wpAnyH_ready (rs := [7]) (by kernel_rfl) (by simp) ?_
      refine AllReadyH.cons (o := ⟨some 19, _, _, _, _, _⟩) rfl (fun K hK => ?_) AllReadyH.nil
      go_simp
      refine (unless_fn _ _ _).mono ?_
      rintro e w4 ⟨fn7, cap7, rfl, b4⟩
      have HNOW := Lib.hid (HFAR.out HNOW.out b4)
      clear b4
      go_wp2_with fail
      refine hK.out _ _ ?_ (fun hHeld => ?_)
      · (try dsimp only); first | exact HNOW.out | exact HFAR.out HNOW.out (below_alloc _ _)
      clear hK K
      try simp only [Act.put, List.setIfInBounds_toArray, List.set_cons_zero, List.set_cons_succ]
      refine wpAnyH_ready (rs := [9]) (by kernel_rfl) (by simp) ?_
      refine AllReadyH.cons (o := ⟨some 21, _, _, _, _, _⟩) rfl (fun K hK => ?_) AllReadyH.nil
      go_simp
      refine hK.out _ _ ?_ (fun hHeld => ?_)
      · (try dsimp only); first | exact HNOW.out | exact HFAR.out HNOW.out (below_alloc _ _)
      clear hK K
      try simp only [Act.put, List.setIfInBounds_toArray, List.set_cons_zero, List.set_cons_succ]
      refine wpAnyH_ready (rs := [10]) (by kernel_rfl) (by simp) ?_
      refine AllReadyH.cons (o := ⟨some 22, _, _, _, _, _⟩) rfl (fun K hK => ?_) AllReadyH.nil
      go_simp
      refine (ask_bad (HBD.out.far (bnextK HNOW.out.2.2 (below_alloc _ _))) _ _ _).mono ?_
      rintro e w5 ⟨rfl, b5⟩
      have HNOW := Lib.hid (HFAR.out (HFAR.out HNOW.out (below_alloc _ _)) b5)
      clear b5
      go_wp2_with fail
      refine hK.out _ _ ?_ (fun hHeld => ?_)
      · (try dsimp only); first | exact HNOW.out | exact HFAR.out HNOW.out (below_alloc _ _)
      clear hK K
      try simp only [Act.put, List.setIfInBounds_toArray, List.set_cons_zero, List.set_cons_succ]
      refine wpAnyH_take (i := 11) (oi := ⟨some 5, _, _, _, _, _⟩) (v := ?_) rfl (by kernel_rfl) (by kernel_rfl) (by kernel_rfl) (fun _ _ _ h => h) (Or.inl ⟨by rfl, ?_⟩) (by assumption) ?_
      rotate_left
      · (intro w hSw; (try dsimp only at hSw); go_simp; try with_reducible rfl)
      try simp only [Act.put, List.setIfInBounds_toArray, List.set_cons_zero, List.set_cons_succ]
      refine wpAnyH_done (by kernel_rfl) ?_ _
      go_wp2_with fail
      go_ret
      exact ⟨rfl, bnextK HB1.out HNOW.out.2.2⟩
set_option maxRecDepth 100000 in
set_option maxHeartbeats 2000000 in
theorem Send_bad {w : World} {p : Option Addr} (h : BadN w p) (a b : Nm) (k q : Int) : Calls Tryz.prog 23 #[.pointer p, encS a, encS b, .slice none 0 0, .int .i64 k, .int .i64 q, .slice none 0 0] w (RetB (.tuple #[.int .i64 0, .int .i64 1]) w) := by
  have hmf : ∀ (fn : Fn) (first cap : Array Value) (w : World), (Instr.makeFunc fn first cap).run Tryz.prog w = .ok (.func fn first cap) w := fun _ _ _ _ => rfl
  obtain ⟨w1, hw1⟩ : ∃ w1, w1 = (((w.alloc (.cells #[.pointer p] 22)).alloc (.cells #[.int .i64 q] 3)).alloc (.cells #[.slice none 0 0] 61)).alloc (.cells #[.int .i64 0] 3) := ⟨_, rfl⟩
  obtain ⟨k0, k1, k2, k3⟩ := boxes4 w #[.pointer p] #[.int .i64 q] #[.slice none 0 0] #[.int .i64 0] 22 3 61 3
  have hb1 : Below w.heap.size w w1 := by rw [hw1]; exact bnextK (alloc3_below w _ _ _) (below_alloc _ _)
  rw [← hw1] at k0 k1 k2 k3
  have HW1 := Lib.hid hw1; have HB1 := Lib.hid hb1; have HBD := Lib.hid (h.far hb1)
  have d0_0 := k0.cell 0
  have d1_0 := k1.cell 0
  have d2_0 := k2.cell 0
  have d3_0 := k3.cell 0
  simp only [List.getElem?_toArray, List.getElem?_cons_succ, List.getElem?_cons_zero] at d0_0 d1_0 d2_0 d3_0
  have HNOW : Hid (w1.drew.cell? ⟨w.heap.size, 0, none⟩ = some (.pointer p) ∧ w1.drew.cell? ⟨w.heap.size + 1, 0, none⟩ = some (.int .i64 q) ∧ w1.drew.cell? ⟨w.heap.size + 1 + 1, 0, none⟩ = some (.slice none 0 0) ∧ w1.drew.cell? ⟨w.heap.size + 1 + 1 + 1, 0, none⟩ = some (.int .i64 0) ∧ Below w1.heap.size w1 w1.drew) := Lib.hid ⟨d0_0, d1_0, d2_0, d3_0, Qw.below ⟨1, rfl⟩ _⟩
  have HFAR : Hid (∀ {W W' : World}, (W.cell? ⟨w.heap.size, 0, none⟩ = some (.pointer p) ∧ W.cell? ⟨w.heap.size + 1, 0, none⟩ = some (.int .i64 q) ∧ W.cell? ⟨w.heap.size + 1 + 1, 0, none⟩ = some (.slice none 0 0) ∧ W.cell? ⟨w.heap.size + 1 + 1 + 1, 0, none⟩ = some (.int .i64 0) ∧ Below w1.heap.size w1 W) → Below W.heap.size W W' → (W'.cell? ⟨w.heap.size, 0, none⟩ = some (.pointer p) ∧ W'.cell? ⟨w.heap.size + 1, 0, none⟩ = some (.int .i64 q) ∧ W'.cell? ⟨w.heap.size + 1 + 1, 0, none⟩ = some (.slice none 0 0) ∧ W'.cell? ⟨w.heap.size + 1 + 1 + 1, 0, none⟩ = some (.int .i64 0) ∧ Below w1.heap.size w1 W')) := Lib.hid fun hS hb => ⟨(hb.cell (p := ⟨w.heap.size, 0, none⟩) (cell_ltO hS.1)).trans hS.1, (hb.cell (p := ⟨w.heap.size + 1, 0, none⟩) (cell_ltO hS.2.1)).trans hS.2.1, (hb.cell (p := ⟨w.heap.size + 1 + 1, 0, none⟩) (cell_ltO hS.2.2.1)).trans hS.2.2.1, (hb.cell (p := ⟨w.heap.size + 1 + 1 + 1, 0, none⟩) (cell_ltO hS.2.2.2.1)).trans hS.2.2.2.1, bnextK hS.2.2.2.2 hb⟩
  clear d0_0 d1_0 d2_0 d3_0
  clear h k0 k1 k2 k3 hb1 hw1
  go_enter Tryz.func23, Tryz.ntmps23
  go_wp2_with fail
  rw [← HW1.out]
  refine wp_region_held_drew (S := (fun w' => w'.cell? ⟨w.heap.size, 0, none⟩ = some (.pointer p) ∧ w'.cell? ⟨w.heap.size + 1, 0, none⟩ = some (.int .i64 q) ∧ w'.cell? ⟨w.heap.size + 1 + 1, 0, none⟩ = some (.slice none 0 0) ∧ w'.cell? ⟨w.heap.size + 1 + 1 + 1, 0, none⟩ = some (.int .i64 0) ∧ Below w1.heap.size w1 w')) (by kernel_rfl) ?_ (fun hHeld => ?_)
  · (try dsimp only); first | exact HNOW.out | exact HFAR.out HNOW.out (below_alloc _ _)
  refine wpAnyH_take (i := 0) (oi := ⟨some 25, _, _, _, _, _⟩) (v := ?_) rfl (by kernel_rfl) (by kernel_rfl) (by kernel_rfl) (fun _ _ _ h => h) (Or.inl ⟨by rfl, ?_⟩) (by assumption) ?_
  rotate_left
  · (intro w hSw; (try dsimp only at hSw); go_simp; try with_reducible rfl)
  try simp only [Act.put, List.setIfInBounds_toArray, List.set_cons_zero, List.set_cons_succ]
  refine wpAnyH_take (i := 1) (oi := ⟨some 26, _, _, _, _, _⟩) (v := ?_) rfl (by kernel_rfl) (by kernel_rfl) (by kernel_rfl) (fun _ _ _ h => h) (Or.inl ⟨by rfl, ?_⟩) (by assumption) ?_
  rotate_left
  · (intro w hSw; (try dsimp only at hSw); go_simp; try with_reducible rfl)
  try simp only [Act.put, List.setIfInBounds_toArray, List.set_cons_zero, List.set_cons_succ]
  refine wpAnyH_take (i := 2) (oi := ⟨some 27, _, _, _, _, _⟩) (v := ?_) rfl (by kernel_rfl) (by kernel_rfl) (by kernel_rfl) (fun _ _ _ h => h) (Or.inl ⟨by rfl, ?_⟩) (by assumption) ?_
  rotate_left
  · (intro w hSw; (try dsimp only at hSw); go_simp; try with_reducible rfl)
  try simp only [Act.put, List.setIfInBounds_toArray, List.set_cons_zero, List.set_cons_succ]
  refine wpAnyH_take (i := 3) (oi := ⟨some 28, _, _, _, _, _⟩) (v := ?_) rfl (by kernel_rfl) (by kernel_rfl) (by kernel_rfl) (fun _ _ _ h => h) (Or.inl ⟨by rfl, ?_⟩) (by assumption) ?_
  rotate_left
  · (intro w hSw; (try dsimp only at hSw); go_simp; try with_reducible rfl)
  try simp only [Act.put, List.setIfInBounds_toArray, List.set_cons_zero, List.set_cons_succ]
  refine wpAnyH_take (i := 5) (oi := ⟨some 30, _, _, _, _, _⟩) (v := ?_) rfl (by kernel_rfl) (by kernel_rfl) (by kernel_rfl) (fun _ _ _ h => h) (Or.inl ⟨by rfl, ?_⟩) (by assumption) ?_
  rotate_left
  · (intro w hSw; (try dsimp only at hSw); go_simp; try with_reducible rfl)
  try simp only [Act.put, List.setIfInBounds_toArray, List.set_cons_zero, List.set_cons_succ]
  refine wpAnyH_take (i := 6) (oi := ⟨some 31, _, _, _, _, _⟩) (v := ?_) rfl (by kernel_rfl) (by kernel_rfl) (by kernel_rfl) (fun _ _ _ h => h) (Or.inl ⟨by rfl, ?_⟩) (by assumption) ?_
  rotate_left
  · (intro w hSw; (try dsimp only at hSw); go_simp; try with_reducible rfl)
  try simp only [Act.put, List.setIfInBounds_toArray, List.set_cons_zero, List.set_cons_succ]
  refine wpAnyH_take (i := 8) (oi := ⟨some 33, _, _, _, _, _⟩) (v := ?_) rfl (by kernel_rfl) (by kernel_rfl) (by kernel_rfl) (fun _ _ _ h => h) (Or.inl ⟨by rfl, ?_⟩) (by assumption) ?_
  rotate_left
  · (intro w hSw; (try dsimp only at hSw); go_simp; try with_reducible rfl)
  try simp only [Act.put, List.setIfInBounds_toArray, List.set_cons_zero, List.set_cons_succ]
  refine wpAnyH_take (i := 9) (oi := ⟨some 34, _, _, _, _, _⟩) (v := ?_) rfl (by kernel_rfl) (by kernel_rfl) (by kernel_rfl) (fun _ _ _ h => h) (Or.inl ⟨by rfl, ?_⟩) (by assumption) ?_
  rotate_left
  · (intro w hSw; (try dsimp only at hSw); go_simp; try with_reducible rfl)
  try simp only [Act.put, List.setIfInBounds_toArray, List.set_cons_zero, List.set_cons_succ]
  refine wpAnyH_take (i := 28) (oi := ⟨some 53, _, _, _, _, _⟩) (v := ?_) rfl (by kernel_rfl) (by kernel_rfl) (by kernel_rfl) (fun _ _ _ h => h) (Or.inl ⟨by rfl, ?_⟩) (by assumption) ?_
  rotate_left
  · (intro w hSw; (try dsimp only at hSw); go_simp; try with_reducible rfl)
  try simp only [Act.put, List.setIfInBounds_toArray, List.set_cons_zero, List.set_cons_succ]
  refine wpAnyH_ready (rs := [4]) (by kernel_rfl) (by simp) ?_
  refine AllReadyH.cons (o := ⟨some 29, _, _, _, _, _⟩) rfl (fun K hK => ?_) AllReadyH.nil
  go_simp
  refine (ends_fn p a b _).mono ?_
  rintro e w4 ⟨fn4, cap4, rfl, b4⟩
  have HNOW := Lib.hid (HFAR.out HNOW.out b4)
  clear b4
  go_wp2_with fail
  refine hK.out _ _ ?_ (fun hHeld => ?_)
  · (try dsimp only); first | exact HNOW.out | exact HFAR.out HNOW.out (below_alloc _ _)
  clear hK K
  try simp only [Act.put, List.setIfInBounds_toArray, List.set_cons_zero, List.set_cons_succ]
  refine wpAnyH_ready (rs := [7]) (by kernel_rfl) (by simp) ?_
  refine AllReadyH.cons (o := ⟨some 32, _, _, _, _, _⟩) rfl (fun K hK => ?_) AllReadyH.nil
  go_simp
  refine (unless_fn _ _ _).mono ?_
  rintro e w4 ⟨fn7, cap7, rfl, b4⟩
  have HNOW := Lib.hid (HFAR.out HNOW.out b4)
  clear b4
  go_wp2_with fail
  refine hK.out _ _ ?_ (fun hHeld => ?_)
  · (try dsimp only); first | exact HNOW.out | exact HFAR.out HNOW.out (below_alloc _ _)
  clear hK K
  try simp only [Act.put, List.setIfInBounds_toArray, List.set_cons_zero, List.set_cons_succ]
  refine wpAnyH_take (i := 10) (oi := ⟨some 35, _, _, _, _, _⟩) (v := ?_) rfl (by kernel_rfl) (by kernel_rfl) (by kernel_rfl) (fun _ _ _ h => h) (Or.inl ⟨by rfl, ?_⟩) (by assumption) ?_
  rotate_left
  · (intro w hSw; (try dsimp only at hSw); go_simp; try with_reducible rfl)
  try simp only [Act.put, List.setIfInBounds_toArray, List.set_cons_zero, List.set_cons_succ]
  refine wpAnyH_take (i := 11) (oi := ⟨some 36, _, _, _, _, _⟩) (v := undef) rfl (by kernel_rfl) (by kernel_rfl) (by kernel_rfl) (fun _ _ _ h => h) (Or.inr ⟨by rfl, rfl⟩) (by assumption) ?_
  try simp only [Act.put, List.setIfInBounds_toArray, List.set_cons_zero, List.set_cons_succ]
  refine wpAnyH_take (i := 12) (oi := ⟨some 37, _, _, _, _, _⟩) (v := undef) rfl (by kernel_rfl) (by kernel_rfl) (by kernel_rfl) (fun _ _ _ h => h) (Or.inr ⟨by rfl, rfl⟩) (by assumption) ?_
  try simp only [Act.put, List.setIfInBounds_toArray, List.set_cons_zero, List.set_cons_succ]
  refine wpAnyH_take (i := 13) (oi := ⟨some 38, _, _, _, _, _⟩) (v := ?_) rfl (by kernel_rfl) (by kernel_rfl) (by kernel_rfl) (fun _ _ _ h => h) (Or.inl ⟨by rfl, ?_⟩) (by assumption) ?_
  rotate_left
  · (intro w hSw; (try dsimp only at hSw); go_simp; try with_reducible rfl)
  try simp only [Act.put, List.setIfInBounds_toArray, List.set_cons_zero, List.set_cons_succ]
  refine wpAnyH_take (i := 14) (oi := ⟨some 39, _, _, _, _, _⟩) (v := ?_) rfl (by kernel_rfl) (by kernel_rfl) (by kernel_rfl) (fun _ _ _ h => h) (Or.inl ⟨by rfl, ?_⟩) (by assumption) ?_
  rotate_left
  · (intro w hSw; (try dsimp only at hSw); go_simp; try with_reducible rfl)
  try simp only [Act.put, List.setIfInBounds_toArray, List.set_cons_zero, List.set_cons_succ]
  refine wpAnyH_take (i := 15) (oi := ⟨some 40, _, _, _, _, _⟩) (v := undef) rfl (by kernel_rfl) (by kernel_rfl) (by kernel_rfl) (fun _ _ _ h => h) (Or.inr ⟨by rfl, rfl⟩) (by assumption) ?_
  try simp only [Act.put, List.setIfInBounds_toArray, List.set_cons_zero, List.set_cons_succ]
  refine wpAnyH_take (i := 16) (oi := ⟨some 41, _, _, _, _, _⟩) (v := undef) rfl (by kernel_rfl) (by kernel_rfl) (by kernel_rfl) (fun _ _ _ h => h) (Or.inr ⟨by rfl, rfl⟩) (by assumption) ?_
  try simp only [Act.put, List.setIfInBounds_toArray, List.set_cons_zero, List.set_cons_succ]
  refine wpAnyH_take (i := 17) (oi := ⟨some 42, _, _, _, _, _⟩) (v := ?_) rfl (by kernel_rfl) (by kernel_rfl) (by kernel_rfl) (fun _ _ _ h => h) (Or.inl ⟨by rfl, ?_⟩) (by assumption) ?_
  rotate_left
  · (intro w hSw; (try dsimp only at hSw); go_simp; try with_reducible rfl)
  try simp only [Act.put, List.setIfInBounds_toArray, List.set_cons_zero, List.set_cons_succ]
  refine wpAnyH_take (i := 18) (oi := ⟨some 43, _, _, _, _, _⟩) (v := ?_) rfl (by kernel_rfl) (by kernel_rfl) (by kernel_rfl) (fun _ _ _ h => h) (Or.inl ⟨by rfl, ?_⟩) (by assumption) ?_
  rotate_left
  · (intro w hSw; (try dsimp only at hSw); go_simp; try with_reducible rfl)
  try simp only [Act.put, List.setIfInBounds_toArray, List.set_cons_zero, List.set_cons_succ]
  refine wpAnyH_take (i := 19) (oi := ⟨some 44, _, _, _, _, _⟩) (v := undef) rfl (by kernel_rfl) (by kernel_rfl) (by kernel_rfl) (fun _ _ _ h => h) (Or.inr ⟨by rfl, rfl⟩) (by assumption) ?_
  try simp only [Act.put, List.setIfInBounds_toArray, List.set_cons_zero, List.set_cons_succ]
  refine wpAnyH_take (i := 20) (oi := ⟨some 45, _, _, _, _, _⟩) (v := undef) rfl (by kernel_rfl) (by kernel_rfl) (by kernel_rfl) (fun _ _ _ h => h) (Or.inr ⟨by rfl, rfl⟩) (by assumption) ?_
  try simp only [Act.put, List.setIfInBounds_toArray, List.set_cons_zero, List.set_cons_succ]
  refine wpAnyH_take (i := 21) (oi := ⟨some 46, _, _, _, _, _⟩) (v := ?_) rfl (by kernel_rfl) (by kernel_rfl) (by kernel_rfl) (fun _ _ _ h => h) (Or.inl ⟨by rfl, ?_⟩) (by assumption) ?_
  rotate_left
  · (intro w hSw; (try dsimp only at hSw); go_simp; try with_reducible rfl)
  try simp only [Act.put, List.setIfInBounds_toArray, List.set_cons_zero, List.set_cons_succ]
  refine wpAnyH_take (i := 22) (oi := ⟨some 47, _, _, _, _, _⟩) (v := ?_) rfl (by kernel_rfl) (by kernel_rfl) (by kernel_rfl) (fun _ _ _ h => h) (Or.inl ⟨by rfl, ?_⟩) (by assumption) ?_
  rotate_left
  · (intro w hSw; (try dsimp only at hSw); go_simp; try with_reducible rfl)
  try simp only [Act.put, List.setIfInBounds_toArray, List.set_cons_zero, List.set_cons_succ]
  refine wpAnyH_take (i := 23) (oi := ⟨some 48, _, _, _, _, _⟩) (v := undef) rfl (by kernel_rfl) (by kernel_rfl) (by kernel_rfl) (fun _ _ _ h => h) (Or.inr ⟨by rfl, rfl⟩) (by assumption) ?_
  try simp only [Act.put, List.setIfInBounds_toArray, List.set_cons_zero, List.set_cons_succ]
  refine wpAnyH_take (i := 24) (oi := ⟨some 49, _, _, _, _, _⟩) (v := undef) rfl (by kernel_rfl) (by kernel_rfl) (by kernel_rfl) (fun _ _ _ h => h) (Or.inr ⟨by rfl, rfl⟩) (by assumption) ?_
  try simp only [Act.put, List.setIfInBounds_toArray, List.set_cons_zero, List.set_cons_succ]
  refine wpAnyH_take (i := 25) (oi := ⟨some 50, _, _, _, _, _⟩) (v := undef) rfl (by kernel_rfl) (by kernel_rfl) (by kernel_rfl) (fun _ _ _ h => h) (Or.inr ⟨by rfl, rfl⟩) (by assumption) ?_
  try simp only [Act.put, List.setIfInBounds_toArray, List.set_cons_zero, List.set_cons_succ]
  refine wpAnyH_take (i := 26) (oi := ⟨some 51, _, _, _, _, _⟩) (v := ?_) rfl (by kernel_rfl) (by kernel_rfl) (by kernel_rfl) (fun _ _ _ h => h) (Or.inl ⟨by rfl, ?_⟩) (by assumption) ?_
  rotate_left
  · (intro w hSw; (try dsimp only at hSw); go_simp; try with_reducible rfl)
  try simp only [Act.put, List.setIfInBounds_toArray, List.set_cons_zero, List.set_cons_succ]
  refine wpAnyH_ready (rs := [27]) (by kernel_rfl) (by simp) ?_
  refine AllReadyH.cons (o := ⟨some 52, _, _, _, _, _⟩) rfl (fun K hK => ?_) AllReadyH.nil
  go_simp
  refine (unless_fn _ _ _).mono ?_
  rintro e w4 ⟨fn27, cap27, rfl, b4⟩
  have HNOW := Lib.hid (HFAR.out HNOW.out b4)
  clear b4
  go_wp2_with fail
  refine hK.out _ _ ?_ (fun hHeld => ?_)
  · (try dsimp only); first | exact HNOW.out | exact HFAR.out HNOW.out (below_alloc _ _)
  clear hK K
  try simp only [Act.put, List.setIfInBounds_toArray, List.set_cons_zero, List.set_cons_succ]
  refine wpAnyH_ready (rs := [29]) (by kernel_rfl) (by simp) ?_
  refine AllReadyH.cons (o := ⟨some 54, _, _, _, _, _⟩) rfl (fun K hK => ?_) AllReadyH.nil
  go_simp
  refine hK.out _ _ ?_ (fun hHeld => ?_)
  · (try dsimp only); first | exact HNOW.out | exact HFAR.out HNOW.out (below_alloc _ _)
  clear hK K
  try simp only [Act.put, List.setIfInBounds_toArray, List.set_cons_zero, List.set_cons_succ]
  refine wpAnyH_ready (rs := [30]) (by kernel_rfl) (by simp) ?_
  refine AllReadyH.cons (o := ⟨some 55, _, _, _, _, _⟩) rfl (fun K hK => ?_) AllReadyH.nil
  go_simp
  refine (ask_bad (HBD.out.far (bnextK HNOW.out.2.2.2.2 (below_alloc _ _))) _ _ _).mono ?_
  rintro e w5 ⟨rfl, b5⟩
  have HNOW := Lib.hid (HFAR.out (HFAR.out HNOW.out (below_alloc _ _)) b5)
  clear b5
  go_wp2_with fail
  refine hK.out _ _ ?_ (fun hHeld => ?_)
  · (try dsimp only); first | exact HNOW.out | exact HFAR.out HNOW.out (below_alloc _ _)
  clear hK K
  try simp only [Act.put, List.setIfInBounds_toArray, List.set_cons_zero, List.set_cons_succ]
  refine wpAnyH_take (i := 31) (oi := ⟨some 17, _, _, _, _, _⟩) (v := ?_) rfl (by kernel_rfl) (by kernel_rfl) (by kernel_rfl) (fun _ _ _ h => h) (Or.inl ⟨by rfl, ?_⟩) (by assumption) ?_
  rotate_left
  · (intro w hSw; (try dsimp only at hSw); go_simp; try with_reducible rfl)
  try simp only [Act.put, List.setIfInBounds_toArray, List.set_cons_zero, List.set_cons_succ]
  refine wpAnyH_done (by kernel_rfl) ?_ _
  go_wp2_with fail
  refine bodyPost_ret (a := Act.mk _ _) (results_tmp2 rfl _ _ _) rfl ?_
  exact ⟨rfl, bnextK HB1.out HNOW.out.2.2.2.2⟩
set_option maxRecDepth 100000 in
set_option maxHeartbeats 2000000 in
theorem Fence_bad {w : World} {p : Option Addr} (h : BadN w p) (a : Nm) : Calls Tryz.prog 9 #[.pointer p, encS a] w (RetB (.int .i64 1) w) := by
  have hmf : ∀ (fn : Fn) (first cap : Array Value) (w : World), (Instr.makeFunc fn first cap).run Tryz.prog w = .ok (.func fn first cap) w := fun _ _ _ _ => rfl
  obtain ⟨w1, hw1⟩ : ∃ w1, w1 = (w.alloc (.cells #[.pointer p] 22)).alloc (.cells #[encS a] 9) := ⟨_, rfl⟩
  obtain ⟨k0, k1⟩ := boxes2 w #[.pointer p] #[encS a] 22 9
  have hb1 : Below w.heap.size w w1 := by rw [hw1]; exact alloc2_below _ _ _
  rw [← hw1] at k0 k1
  have HW1 := Lib.hid hw1; have HB1 := Lib.hid hb1; have HBD := Lib.hid (h.far hb1)
  have d0_0 := k0.cell 0
  have d1_0 := k1.cell 0
  simp only [List.getElem?_toArray, List.getElem?_cons_succ, List.getElem?_cons_zero] at d0_0 d1_0
  have HNOW : Hid (w1.drew.cell? ⟨w.heap.size, 0, none⟩ = some (.pointer p) ∧ w1.drew.cell? ⟨w.heap.size + 1, 0, none⟩ = some (encS a) ∧ Below w1.heap.size w1 w1.drew) := Lib.hid ⟨d0_0, d1_0, Qw.below ⟨1, rfl⟩ _⟩
  have HFAR : Hid (∀ {W W' : World}, (W.cell? ⟨w.heap.size, 0, none⟩ = some (.pointer p) ∧ W.cell? ⟨w.heap.size + 1, 0, none⟩ = some (encS a) ∧ Below w1.heap.size w1 W) → Below W.heap.size W W' → (W'.cell? ⟨w.heap.size, 0, none⟩ = some (.pointer p) ∧ W'.cell? ⟨w.heap.size + 1, 0, none⟩ = some (encS a) ∧ Below w1.heap.size w1 W')) := Lib.hid fun hS hb => ⟨(hb.cell (p := ⟨w.heap.size, 0, none⟩) (cell_ltO hS.1)).trans hS.1, (hb.cell (p := ⟨w.heap.size + 1, 0, none⟩) (cell_ltO hS.2.1)).trans hS.2.1, bnextK hS.2.2 hb⟩
  clear d0_0 d1_0
  clear h k0 k1 hb1
  clear hw1
  go_enter Tryz.func9, Tryz.ntmps9
  go_wp2_with fail
  rw [← HW1.out]
  go_region_held3 (fun w' => w'.cell? ⟨w.heap.size, 0, none⟩ = some (.pointer p) ∧ w'.cell? ⟨w.heap.size + 1, 0, none⟩ = some (encS a) ∧ Below w1.heap.size w1 w') (first | exact HNOW.out | exact HFAR.out HNOW.out (below_alloc _ _))
    ((first
      | (go_at_call 44; refine (one_fn p a _).mono ?_; rintro e w4 ⟨fn0, cap0, rfl, b4⟩; have HNOW := Lib.hid (HFAR.out HNOW.out b4); clear b4)
      | (go_at_call 28; refine (ask_bad (HBD.out.far (bnextK HNOW.out.2.2 (below_alloc _ _))) _ _ _).mono ?_; rintro e w5 ⟨rfl, b5⟩; have HNOW := Lib.hid (HFAR.out (HFAR.out HNOW.out (below_alloc _ _)) b5); clear b5)))
  all_goals
    go_wp2_with fail
    go_ret
    exact ⟨rfl, bnextK HB1.out HNOW.out.2.2⟩
set_option maxRecDepth 100000 in
set_option maxHeartbeats 2000000 in
theorem Reserve_bad {w : World} {p : Option Addr} (h : BadN w p) (a b : Nm) (k t : Int) : Calls Tryz.prog 21 #[.pointer p, encS a, encS b, .int .i64 k, .int .i64 t] w (RetB (.tuple #[.int .i64 0, .int .i64 1]) w) := by
  have hmf : ∀ (fn : Fn) (first cap : Array Value) (w : World), (Instr.makeFunc fn first cap).run Tryz.prog w = .ok (.func fn first cap) w := fun _ _ _ _ => rfl
  obtain ⟨w1, hw1⟩ : ∃ w1, w1 = (w.alloc (.cells #[.pointer p] 22)).alloc (.cells #[.int .i64 t] 2) := ⟨_, rfl⟩
  obtain ⟨k0, k1⟩ := boxes2 w #[.pointer p] #[.int .i64 t] 22 2
  have hb1 : Below w.heap.size w w1 := by rw [hw1]; exact alloc2_below _ _ _
  rw [← hw1] at k0 k1
  have HW1 := Lib.hid hw1; have HB1 := Lib.hid hb1; have HBD := Lib.hid (h.far hb1)
  have d0_0 := k0.cell 0
  have d1_0 := k1.cell 0
  simp only [List.getElem?_toArray, List.getElem?_cons_succ, List.getElem?_cons_zero] at d0_0 d1_0
  have HNOW : Hid (w1.drew.cell? ⟨w.heap.size, 0, none⟩ = some (.pointer p) ∧ w1.drew.cell? ⟨w.heap.size + 1, 0, none⟩ = some (.int .i64 t) ∧ Below w1.heap.size w1 w1.drew) := Lib.hid ⟨d0_0, d1_0, Qw.below ⟨1, rfl⟩ _⟩
  have HFAR : Hid (∀ {W W' : World}, (W.cell? ⟨w.heap.size, 0, none⟩ = some (.pointer p) ∧ W.cell? ⟨w.heap.size + 1, 0, none⟩ = some (.int .i64 t) ∧ Below w1.heap.size w1 W) → Below W.heap.size W W' → (W'.cell? ⟨w.heap.size, 0, none⟩ = some (.pointer p) ∧ W'.cell? ⟨w.heap.size + 1, 0, none⟩ = some (.int .i64 t) ∧ Below w1.heap.size w1 W')) := Lib.hid fun hS hb => ⟨(hb.cell (p := ⟨w.heap.size, 0, none⟩) (cell_ltO hS.1)).trans hS.1, (hb.cell (p := ⟨w.heap.size + 1, 0, none⟩) (cell_ltO hS.2.1)).trans hS.2.1, bnextK hS.2.2 hb⟩
  clear d0_0 d1_0
  clear h k0 k1 hb1
  clear hw1
  go_enter Tryz.func21, Tryz.ntmps21
  go_wp2_with fail
  rw [← HW1.out]
  go_region_held3 (fun w' => w'.cell? ⟨w.heap.size, 0, none⟩ = some (.pointer p) ∧ w'.cell? ⟨w.heap.size + 1, 0, none⟩ = some (.int .i64 t) ∧ Below w1.heap.size w1 w') (first | exact HNOW.out | exact HFAR.out HNOW.out (below_alloc _ _))
    ((first
      | (go_at_call 63; refine (ends_fn p a b _).mono ?_; rintro e w4 ⟨fn0, cap0, rfl, b4⟩; have HNOW := Lib.hid (HFAR.out HNOW.out b4); clear b4)
      | (go_at_call 64; refine (amount_fn k _).mono ?_; rintro e w4 ⟨fn1, cap1, rfl, b4⟩; have HNOW := Lib.hid (HFAR.out HNOW.out b4); clear b4)
      | (go_at_call 28; refine (ask_bad (HBD.out.far (bnextK HNOW.out.2.2 (below_alloc _ _))) _ _ _).mono ?_; rintro e w5 ⟨rfl, b5⟩; have HNOW := Lib.hid (HFAR.out (HFAR.out HNOW.out (below_alloc _ _)) b5); clear b5)))
  all_goals
    go_wp2_with fail
    refine bodyPost_ret (a := Act.mk _ _) (results_tmp2 rfl _ _ _) rfl ?_
    exact ⟨rfl, bnextK HB1.out HNOW.out.2.2⟩
set_option maxRecDepth 100000 in
set_option maxHeartbeats 2000000 in
theorem Stock_bad {w : World} {p : Option Addr} (h : BadN w p) (a b : Nm) : Calls Tryz.prog 15 #[.pointer p, encS a, encS b] w (RetB (.tuple #[.agg #[.int .i64 0, .int .i64 0, .int .i64 0], .int .i64 1]) w) := by
  have hmf : ∀ (fn : Fn) (first cap : Array Value) (w : World), (Instr.makeFunc fn first cap).run Tryz.prog w = .ok (.func fn first cap) w := fun _ _ _ _ => rfl
  obtain ⟨w1, hw1⟩ : ∃ w1, w1 = (((w.alloc (.cells #[.pointer p] 22)).alloc (.cells #[encS a] 9)).alloc (.cells #[encS b] 9)).alloc (.cells #[.int .i64 0, .int .i64 0, .int .i64 0] 45) := ⟨_, rfl⟩
  obtain ⟨k0, k1, k2, k3⟩ := boxes4 w #[.pointer p] #[encS a] #[encS b] #[.int .i64 0, .int .i64 0, .int .i64 0] 22 9 9 45
  have hb1 : Below w.heap.size w w1 := by rw [hw1]; exact bnextK (alloc3_below w _ _ _) (below_alloc _ _)
  rw [← hw1] at k0 k1 k2 k3
  have HW1 := Lib.hid hw1; have HB1 := Lib.hid hb1; have HBD := Lib.hid (h.far hb1)
  have d0_0 := k0.cell 0
  have d1_0 := k1.cell 0
  have d2_0 := k2.cell 0
  simp only [List.getElem?_toArray, List.getElem?_cons_succ, List.getElem?_cons_zero] at d0_0 d1_0 d2_0
  have HNOW : Hid (w1.drew.cell? ⟨w.heap.size, 0, none⟩ = some (.pointer p) ∧ w1.drew.cell? ⟨w.heap.size + 1, 0, none⟩ = some (encS a) ∧ w1.drew.cell? ⟨w.heap.size + 1 + 1, 0, none⟩ = some (encS b) ∧ Below w1.heap.size w1 w1.drew) := Lib.hid ⟨d0_0, d1_0, d2_0, Qw.below ⟨1, rfl⟩ _⟩
  have HFAR : Hid (∀ {W W' : World}, (W.cell? ⟨w.heap.size, 0, none⟩ = some (.pointer p) ∧ W.cell? ⟨w.heap.size + 1, 0, none⟩ = some (encS a) ∧ W.cell? ⟨w.heap.size + 1 + 1, 0, none⟩ = some (encS b) ∧ Below w1.heap.size w1 W) → Below W.heap.size W W' → (W'.cell? ⟨w.heap.size, 0, none⟩ = some (.pointer p) ∧ W'.cell? ⟨w.heap.size + 1, 0, none⟩ = some (encS a) ∧ W'.cell? ⟨w.heap.size + 1 + 1, 0, none⟩ = some (encS b) ∧ Below w1.heap.size w1 W')) := Lib.hid fun hS hb => ⟨(hb.cell (p := ⟨w.heap.size, 0, none⟩) (cell_ltO hS.1)).trans hS.1, (hb.cell (p := ⟨w.heap.size + 1, 0, none⟩) (cell_ltO hS.2.1)).trans hS.2.1, (hb.cell (p := ⟨w.heap.size + 1 + 1, 0, none⟩) (cell_ltO hS.2.2.1)).trans hS.2.2.1, bnextK hS.2.2.2 hb⟩
  clear d0_0 d1_0 d2_0
  have HK3 := Lib.hid k3
  clear h k0 k1 k2 k3 hb1
  clear hw1
  go_enter Tryz.func15, Tryz.ntmps15
  go_wp2_with fail
  rw [← HW1.out]
  go_region_held3 (fun w' => w'.cell? ⟨w.heap.size, 0, none⟩ = some (.pointer p) ∧ w'.cell? ⟨w.heap.size + 1, 0, none⟩ = some (encS a) ∧ w'.cell? ⟨w.heap.size + 1 + 1, 0, none⟩ = some (encS b) ∧ Below w1.heap.size w1 w') (first | exact HNOW.out | exact HFAR.out HNOW.out (below_alloc _ _))
    ((first
      | (go_at_call 32; refine (twoNames_fn a b _).mono ?_; rintro e w4 ⟨fn0, cap0, rfl, b4⟩; have HNOW := Lib.hid (HFAR.out HNOW.out b4); clear b4)
      | (go_at_call 28; refine (ask_bad (HBD.out.far (bnextK HNOW.out.2.2.2 (below_alloc _ _))) _ _ _).mono ?_; rintro e w5 ⟨rfl, b5⟩; have HNOW := Lib.hid (HFAR.out (HFAR.out HNOW.out (below_alloc _ _)) b5); clear b5)))
  all_goals
    obtain ⟨w5, hw5⟩ : ∃ z, z = w1.heap.size := ⟨_, rfl⟩
    have HB5 := Lib.hid (bnextK HB1.out HNOW.out.2.2.2)
    have HKR := Lib.hid (HK3.out.past (HNOW.out.2.2.2) HK3.out.lt)
    have f0 := HKR.out.froz 0; have f1 := HKR.out.froz 1; have f2 := HKR.out.froz 2
    have z0 := HKR.out.cell 0; have z1 := HKR.out.cell 1; have z2 := HKR.out.cell 2
    simp only [List.getElem?_toArray, List.getElem?_cons_succ, List.getElem?_cons_zero] at z0 z1 z2
    clear hw5
    go_wp2_with fail
    have hk9 := ((HKR.out.set 0 (.int .i64 0)).set 1 (.int .i64 0)).set 2 (.int .i64 0)
    have hb9 := ((HB5.out.setCell (p := ⟨w.heap.size + 1 + 1 + 1, 0, none⟩) (by show w.heap.size ≤ w.heap.size + 1 + 1 + 1; omega) (.int .i64 0)).setCell (p := ⟨w.heap.size + 1 + 1 + 1, 1, none⟩) (by show w.heap.size ≤ w.heap.size + 1 + 1 + 1; omega) (.int .i64 0)).setCell (p := ⟨w.heap.size + 1 + 1 + 1, 2, none⟩) (by show w.heap.size ≤ w.heap.size + 1 + 1 + 1; omega) (.int .i64 0)
    have y0 := hk9.cell 0; have y1 := hk9.cell 1; have y2 := hk9.cell 2
    simp only [List.getElem?_toArray, List.getElem?_cons_succ, List.getElem?_cons_zero, List.setIfInBounds_toArray, List.set_cons_zero, List.set_cons_succ] at y0 y1 y2
    refine bodyPost_ret (a := Act.mk _ _) (v := .tuple #[.agg #[.int .i64 0, .int .i64 0, .int .i64 0], .int .i64 1]) (by simp [results, Tryz.results15, go_sem, y0, y1, y2]) rfl ?_
    exact ⟨rfl, hb9⟩
#print axioms Stock_bad
end Go.Proofs.YtghjlbbalngdhaaGreatDoor
/- What the methods of a network that is not valid answer, part 3. Conditions: as each statement says. -/
namespace Go.Proofs.YtghjlbbalngdhaaGreatDoor
open Go.RowKit
set_option linter.unusedVariables false
set_option maxRecDepth 100000 in
set_option maxHeartbeats 2000000 in
theorem take_bad {w : World} {p : Option Addr} (h : BadN w p) (k : Int) : Calls Tryz.prog 48 #[.pointer p, .int .i64 k] w (RetB (.tuple #[.agg #[.int .i64 0, .slice none 0 0, .int .i64 0, .int .i64 0], .int .i64 1]) w) := by
  obtain ⟨w1, hw1⟩ : ∃ w1, w1 = (w.alloc (.cells #[.int .i64 k] 3)).alloc (.cells #[.int .i64 0, .slice none 0 0, .int .i64 0, .int .i64 0] 92) := ⟨_, rfl⟩
  obtain ⟨k0, k1⟩ := boxes2 w #[.int .i64 k] #[.int .i64 0, .slice none 0 0, .int .i64 0, .int .i64 0] 3 92
  have hb1 : Below w.heap.size w w1 := by rw [hw1]; exact alloc2_below _ _ _
  rw [← hw1] at k1
  have HV := Lib.hid (valid_bad (h.far hb1))
  have HW1 := Lib.hid hw1; have HB1 := Lib.hid hb1; have HK1 := Lib.hid k1
  have z0 := k1.cell 0; have z1 := k1.cell 1; have z2 := k1.cell 2; have z3 := k1.cell 3
  have f0 := k1.froz 0; have f1 := k1.froz 1; have f2 := k1.froz 2; have f3 := k1.froz 3
  simp only [List.getElem?_toArray, List.getElem?_cons_succ, List.getElem?_cons_zero] at z0 z1 z2 z3
  clear h k0 k1 hb1 hw1
  go_enter Tryz.func48, Tryz.ntmps48
  go_wp2_with fail
  rw [← HW1.out]
  refine HV.out.mono ?_
  clear HV
  rintro e w2 ⟨rfl, rfl⟩
  go_wp2_with fail
  obtain ⟨w4, hw4⟩ : ∃ w4, w4 = ((((w1.setCell ⟨w.heap.size + 1, 0, none⟩ (.int .i64 0)).setCell ⟨w.heap.size + 1, 1, none⟩ (.slice none 0 0)).setCell ⟨w.heap.size + 1, 2, none⟩ (.int .i64 0)).setCell ⟨w.heap.size + 1, 3, none⟩ (.int .i64 0)) := ⟨_, rfl⟩
  have hk4 : Bk w4 (w.heap.size + 1) #[.int .i64 0, .slice none 0 0, .int .i64 0, .int .i64 0] 92 := by
    rw [hw4]; exact ((((HK1.out.set 0 _).set 1 _).set 2 _).set 3 _)
  have hb4 : Below w.heap.size w w4 := by
    rw [hw4]
    exact (((HB1.out.setCell (p := ⟨_, 0, none⟩) (by show w.heap.size ≤ w.heap.size + 1; omega) _).setCell (p := ⟨_, 1, none⟩) (by show w.heap.size ≤ w.heap.size + 1; omega) _).setCell (p := ⟨_, 2, none⟩) (by show w.heap.size ≤ w.heap.size + 1; omega) _).setCell (p := ⟨_, 3, none⟩) (by show w.heap.size ≤ w.heap.size + 1; omega) _
  have y0 := hk4.cell 0; have y1 := hk4.cell 1; have y2 := hk4.cell 2; have y3 := hk4.cell 3
  simp only [List.getElem?_toArray, List.getElem?_cons_succ, List.getElem?_cons_zero] at y0 y1 y2 y3
  rw [← hw4]
  refine bodyPost_ret (a := Act.mk _ _) (v := .tuple #[.agg #[.int .i64 0, .slice none 0 0, .int .i64 0, .int .i64 0], .int .i64 1]) (by simp [results, Tryz.results48, go_sem, y0, y1, y2, y3]) rfl ?_
  exact ⟨rfl, hb4⟩
set_option maxRecDepth 100000 in
set_option maxHeartbeats 2000000 in
theorem Use_bad {w : World} {p : Option Addr} (h : BadN w p) (k : Int) : Calls Tryz.prog 22 #[.pointer p, .int .i64 k] w (RetB (.tuple #[.slice none 0 0, .int .i64 1]) w) := by
  have HT := Lib.hid (take_bad h k)
  clear h
  go_enter Tryz.func22, Tryz.ntmps22
  go_wp2_with fail
  refine HT.out.mono ?_
  clear HT
  rintro e w3 ⟨rfl, hb⟩
  have HB := Lib.hid hb
  clear hb
  go_wp2_with fail
  refine bodyPost_ret (a := Act.mk _ _) (results_tmp2 rfl _ _ _) rfl ?_
  exact ⟨rfl, bnextK HB.out (below_alloc _ _)⟩
set_option maxRecDepth 100000 in
set_option maxHeartbeats 2000000 in
theorem Cancel_bad {w : World} {p : Option Addr} (h : BadN w p) (k : Int) : Calls Tryz.prog 10 #[.pointer p, .int .i64 k] w (RetB (.int .i64 1) w) := by
  have HT := Lib.hid (take_bad h k)
  clear h
  go_enter Tryz.func10, Tryz.ntmps10
  go_wp2_with fail
  refine HT.out.mono ?_
  clear HT
  rintro e w3 ⟨rfl, hb⟩
  have HB := Lib.hid hb
  clear hb
  go_wp2_with fail
  go_ret
  exact ⟨rfl, bnextK HB.out (below_alloc _ _)⟩
#print axioms Cancel_bad
end Go.Proofs.YtghjlbbalngdhaaGreatDoor
