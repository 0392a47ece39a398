/- NetworkWidens: the walk. Conditions: as the statement says. -/
import Derived.Test.YtkmacmeeinpncaaNet35
import Derived.Test.YtkmacmeeinpncaaSm3
import Derived.Test.YtkmacmeeinpncaaOpenPrs
namespace Go.Proofs.Ytkmacmeeinpncaa
open Go.RowKit
set_option linter.unusedVariables false
def TrueP (w : World) (e : Ending) (w' : World) : Prop := e = .returned (.bool true) ∧ Below w.heap.size w w'
set_option maxRecDepth 100000 in
set_option maxHeartbeats 8000000 in
theorem NetworkWidens_walk (v : Value) (i : PrsArg) (a1 a2 : Nat) (w : World) (hi : IsPrs w v i) (h1 : a1 < 256) (h2 : a2 < 256) :
    Calls Try.prog 4 #[v, .int .u8 (a1 : Int), .int .u8 (a2 : Int)] w (TrueP w) := by
  obtain ⟨A, n, c, l⟩ := i
  obtain ⟨rfl, hnc, hc, hln, hrd, hlt⟩ := hi
  simp only at hnc hc hln hrd hlt ⊢
  have HSM := Lib.hid (smallG_ok l (fun p hp => (hlt p hp).2.2))
  have HSA := Lib.hid (Small_any (c := c) l hrd (Nat.le_refl _) (by omega) hlt)
  have ra : Int.tmod (a1 : Int) 8 = ((a1 % 8 : Nat) : Int) := by rw [Int.tmod_eq_emod_of_nonneg (by omega)]; omega
  have rb : Int.tmod (a2 : Int) 8 = ((a2 % 8 : Nat) : Int) := by rw [Int.tmod_eq_emod_of_nonneg (by omega)]; omega
  have ha8 : a1 % 8 < 8 := Nat.mod_lt _ (by omega)
  have hb8 : a2 % 8 < 8 := Nat.mod_lt _ (by omega)
  generalize a1 % 8 = a at ra ha8
  generalize a2 % 8 = b at rb hb8
  have hai : (a : Int) < 8 := by omega
  have hbi : (b : Int) < 8 := by omega
  obtain ⟨⟨sN, st⟩, hx⟩ : ∃ x, x = smallG l := ⟨_, rfl⟩
  have HX := Lib.hid hx
  rw [← hx] at HSM
  simp only at HSM
  have HIN : Hid ((Try.prog.info? 25).map (·.size) = some (stV st).size) := Lib.hid (by rw [show (stV st).size = 64 by unfold stV; simp [HSM.out.len]]; kernel_rfl)
  have HSZ : Hid ((stV (List.replicate 64 0)).size = (stV st).size) := Lib.hid (by unfold stV; simp [HSM.out.len])
  have HONE : Hid ((stV st).all (·.oneCell') = true) := Lib.hid (stV_one _)
  clear hx hrd hlt
  go_enter Try.func4, Try.ntmps4
  go_wp2_with fail
  refine HSA.out.mono ?_
  clear HSA
  rintro e w1 ⟨N, bn, bl, rfl, hnet⟩
  rw [← HX.out] at hnet ⊢
  simp only at hnet ⊢
  have HNT := Lib.hid hnet
  clear hnet
  have hsz64 : (stV st).size = 64 := by unfold stV; simp [HSM.out.len]
  go_wp2_with fail
  rw [lit64, run_storeCells_new w1 25 _ _ HIN.out HSZ.out HONE.out]
  go_wp2_with fail
  obtain ⟨w2, hw2⟩ : ∃ z, z = w1.alloc (.cells (stV st) 25) := ⟨_, rfl⟩
  have HNT2 : Hid (NetNew w sN N bn bl w2.drew) := Lib.hid (by rw [hw2]; exact (HNT.out.far (below_alloc _ _)).far (Qw.below ⟨1, rfl⟩ _))
  have HTB2 : Hid (Bk w2.drew w1.heap.size (stV st) 25) := Lib.hid (by rw [hw2]; exact Bk.new w1 _ _)
  rw [← hw2]
  clear hw2 HNT
  generalize w1.heap.size = X at HTB2 ⊢
  go_cut [10, 11] from 26 to 35 (fun v10 v11 wc => v10 = encS (nm a) ∧ v11 = encS (nm b) ∧ NetNew w sN N bn bl wc ∧ Bk wc X (stV st) 25)
  case first =>
    refine wp_region_held_drew (S := (fun _ => True)) (by kernel_rfl) ?_ (fun hHeld => ?_)
    · (try dsimp only); all_goals trivial
    refine wpAnyH_take (i := 1) (oi := ⟨some 27, _, _, _, _, _⟩) (v := ?_) rfl (by kernel_rfl) (by kernel_rfl) (by kernel_rfl) (fun _ _ _ h => h) (Or.inl ⟨by rfl, ?_⟩) (by assumption) ?_
    rotate_left
    · (intro w hSw; (try dsimp only at hSw); go_simp; try with_reducible rfl)
    try simp only [Act.put, List.setIfInBounds_toArray, List.set_cons_zero, List.set_cons_succ]
    refine wpAnyH_take (i := 2) (oi := ⟨some 28, _, _, _, _, _⟩) (v := ?_) rfl (by kernel_rfl) (by kernel_rfl) (by kernel_rfl) (fun _ _ _ h => h) (Or.inl ⟨by rfl, ?_⟩) (by assumption) ?_
    rotate_left
    · (intro w hSw; (try dsimp only at hSw); go_simp; try with_reducible rfl)
    try simp only [Act.put, List.setIfInBounds_toArray, List.set_cons_zero, List.set_cons_succ]
    refine wpAnyH_take (i := 6) (oi := ⟨some 32, _, _, _, _, _⟩) (v := ?_) rfl (by kernel_rfl) (by kernel_rfl) (by kernel_rfl) (fun _ _ _ h => h) (Or.inl ⟨by rfl, ?_⟩) (by assumption) ?_
    rotate_left
    · (intro w hSw; (try dsimp only at hSw); go_simp; try with_reducible rfl)
    try simp only [Act.put, List.setIfInBounds_toArray, List.set_cons_zero, List.set_cons_succ]
    refine wpAnyH_take (i := 7) (oi := ⟨some 33, _, _, _, _, _⟩) (v := ?_) rfl (by kernel_rfl) (by kernel_rfl) (by kernel_rfl) (fun _ _ _ h => h) (Or.inl ⟨by rfl, ?_⟩) (by assumption) ?_
    rotate_left
    · (intro w hSw; (try dsimp only at hSw); go_simp; try with_reducible rfl)
    try simp only [Act.put, List.setIfInBounds_toArray, List.set_cons_zero, List.set_cons_succ]
    refine wpAnyH_ready (rs := [0]) (by kernel_rfl) (by simp) ?_
    refine AllReadyH.cons (o := ⟨some 26, _, _, _, _, _⟩) rfl (fun K hK => ?_) AllReadyH.nil
    go_simp
    refine (names_any _).mono ?_
    rintro e w3 ⟨rfl, hw3⟩
    obtain ⟨f3, b3⟩ := names_fact hw3
    have x3 : w3.cell? ⟨w2.heap.size, a, none⟩ = some (encS (nm a)) := f3 a ha8
    have NT := HNT2.out.far b3
    have TB := HTB2.out.past b3 HTB2.out.lt
    clear hw3 f3
    go_wp2_with fail
    refine hK.out _ _ ?_ (fun hHeld => ?_)
    · (try dsimp only); all_goals trivial
    clear hK K
    try simp only [Act.put, List.setIfInBounds_toArray, List.set_cons_zero, List.set_cons_succ]
    refine wpAnyH_take (i := 3) (oi := ⟨some 29, _, _, _, _, _⟩) (v := ?_) rfl (by kernel_rfl) (by kernel_rfl) (by kernel_rfl) (fun _ _ _ h => h) (Or.inl ⟨by rfl, ?_⟩) (by assumption) ?_
    rotate_left
    · (intro w hSw; (try dsimp only at hSw); go_simp; try with_reducible rfl)
    try simp only [Act.put, List.setIfInBounds_toArray, List.set_cons_zero, List.set_cons_succ]
    refine wpAnyH_ready (rs := [4, 5]) (by kernel_rfl) (by simp) ?_
    refine AllReadyH.cons (o := ⟨some 30, _, _, _, _, _⟩) rfl (fun K hK => ?_) ?_
    · skip
      go_simp
      refine hK.out _ _ ?_ (fun hHeld => ?_)
      · (try dsimp only); all_goals trivial
      clear hK K
      try simp only [Act.put, List.setIfInBounds_toArray, List.set_cons_zero, List.set_cons_succ]
      refine wpAnyH_ready (rs := [5]) (by kernel_rfl) (by simp) ?_
      refine AllReadyH.cons (o := ⟨some 31, _, _, _, _, _⟩) rfl (fun K hK => ?_) AllReadyH.nil
      go_simp
      refine (names_any _).mono ?_
      rintro e w4 ⟨rfl, hw4⟩
      obtain ⟨f4, b4⟩ := names_fact hw4
      have y4 := f4 b hb8
      have x3 : w4.cell? ⟨w2.heap.size, a, none⟩ = some (encS (nm a)) := (b4.cell (p := ⟨w2.heap.size, a, none⟩) (cell_ltO x3)).trans x3
      have NT := NT.far b4
      have TB := TB.past b4 TB.lt
      clear hw4 f4
      go_wp2_with fail
      refine hK.out _ _ ?_ (fun hHeld => ?_)
      · (try dsimp only); all_goals trivial
      clear hK K
      try simp only [Act.put, List.setIfInBounds_toArray, List.set_cons_zero, List.set_cons_succ]
      refine wpAnyH_take (i := 8) (oi := ⟨some 34, _, _, _, _, _⟩) (v := ?_) rfl (by kernel_rfl) (by kernel_rfl) (by kernel_rfl) (fun _ _ _ h => h) (Or.inl ⟨by rfl, ?_⟩) (by assumption) ?_
      rotate_left
      · (intro w hSw; (try dsimp only at hSw); go_simp; try with_reducible rfl)
      try simp only [Act.put, List.setIfInBounds_toArray, List.set_cons_zero, List.set_cons_succ]
      refine wpAnyH_take (i := 10) (oi := ⟨some 10, _, _, _, _, _⟩) (v := ?_) rfl (by kernel_rfl) (by kernel_rfl) (by kernel_rfl) (fun _ _ _ h => h) (Or.inl ⟨by rfl, ?_⟩) (by assumption) ?_
      rotate_left
      · (intro w hSw; (try dsimp only at hSw); go_simp; try with_reducible rfl)
      try simp only [Act.put, List.setIfInBounds_toArray, List.set_cons_zero, List.set_cons_succ]
      refine wpAnyH_ready (rs := [9]) (by kernel_rfl) (by simp) ?_
      refine AllReadyH.cons (o := ⟨some 35, _, _, _, _, _⟩) rfl (fun K hK => ?_) AllReadyH.nil
      go_simp
      refine hK.out _ _ ?_ (fun hHeld => ?_)
      · (try dsimp only); all_goals trivial
      clear hK K
      try simp only [Act.put, List.setIfInBounds_toArray, List.set_cons_zero, List.set_cons_succ]
      refine wpAnyH_take (i := 11) (oi := ⟨some 11, _, _, _, _, _⟩) (v := ?_) rfl (by kernel_rfl) (by kernel_rfl) (by kernel_rfl) (fun _ _ _ h => h) (Or.inl ⟨by rfl, ?_⟩) (by assumption) ?_
      rotate_left
      · (intro w hSw; (try dsimp only at hSw); go_simp; try with_reducible rfl)
      try simp only [Act.put, List.setIfInBounds_toArray, List.set_cons_zero, List.set_cons_succ]
      refine wpAnyH_done (by kernel_rfl) ?_ _
      go_wp2_with fail
      go_meet
      exact ⟨rfl, rfl, NT, TB⟩
    refine AllReadyH.cons (o := ⟨some 31, _, _, _, _, _⟩) rfl (fun K hK => ?_) AllReadyH.nil
    go_simp
    refine (names_any _).mono ?_
    rintro e w4 ⟨rfl, hw4⟩
    obtain ⟨f4, b4⟩ := names_fact hw4
    have y4 := f4 b hb8
    have x3 : w4.cell? ⟨w2.heap.size, a, none⟩ = some (encS (nm a)) := (b4.cell (p := ⟨w2.heap.size, a, none⟩) (cell_ltO x3)).trans x3
    have NT := NT.far b4
    have TB := TB.past b4 TB.lt
    clear hw4 f4
    go_wp2_with fail
    refine hK.out _ _ ?_ (fun hHeld => ?_)
    · (try dsimp only); all_goals trivial
    clear hK K
    try simp only [Act.put, List.setIfInBounds_toArray, List.set_cons_zero, List.set_cons_succ]
    refine wpAnyH_take (i := 8) (oi := ⟨some 34, _, _, _, _, _⟩) (v := ?_) rfl (by kernel_rfl) (by kernel_rfl) (by kernel_rfl) (fun _ _ _ h => h) (Or.inl ⟨by rfl, ?_⟩) (by assumption) ?_
    rotate_left
    · (intro w hSw; (try dsimp only at hSw); go_simp; try with_reducible rfl)
    try simp only [Act.put, List.setIfInBounds_toArray, List.set_cons_zero, List.set_cons_succ]
    refine wpAnyH_ready (rs := [4, 9]) (by kernel_rfl) (by simp) ?_
    refine AllReadyH.cons (o := ⟨some 30, _, _, _, _, _⟩) rfl (fun K hK => ?_) ?_
    · skip
      go_simp
      refine hK.out _ _ ?_ (fun hHeld => ?_)
      · (try dsimp only); all_goals trivial
      clear hK K
      try simp only [Act.put, List.setIfInBounds_toArray, List.set_cons_zero, List.set_cons_succ]
      refine wpAnyH_take (i := 10) (oi := ⟨some 10, _, _, _, _, _⟩) (v := ?_) rfl (by kernel_rfl) (by kernel_rfl) (by kernel_rfl) (fun _ _ _ h => h) (Or.inl ⟨by rfl, ?_⟩) (by assumption) ?_
      rotate_left
      · (intro w hSw; (try dsimp only at hSw); go_simp; try with_reducible rfl)
      try simp only [Act.put, List.setIfInBounds_toArray, List.set_cons_zero, List.set_cons_succ]
      refine wpAnyH_ready (rs := [9]) (by kernel_rfl) (by simp) ?_
      refine AllReadyH.cons (o := ⟨some 35, _, _, _, _, _⟩) rfl (fun K hK => ?_) AllReadyH.nil
      go_simp
      refine hK.out _ _ ?_ (fun hHeld => ?_)
      · (try dsimp only); all_goals trivial
      clear hK K
      try simp only [Act.put, List.setIfInBounds_toArray, List.set_cons_zero, List.set_cons_succ]
      refine wpAnyH_take (i := 11) (oi := ⟨some 11, _, _, _, _, _⟩) (v := ?_) rfl (by kernel_rfl) (by kernel_rfl) (by kernel_rfl) (fun _ _ _ h => h) (Or.inl ⟨by rfl, ?_⟩) (by assumption) ?_
      rotate_left
      · (intro w hSw; (try dsimp only at hSw); go_simp; try with_reducible rfl)
      try simp only [Act.put, List.setIfInBounds_toArray, List.set_cons_zero, List.set_cons_succ]
      refine wpAnyH_done (by kernel_rfl) ?_ _
      go_wp2_with fail
      go_meet
      exact ⟨rfl, rfl, NT, TB⟩
    refine AllReadyH.cons (o := ⟨some 35, _, _, _, _, _⟩) rfl (fun K hK => ?_) AllReadyH.nil
    go_simp
    refine hK.out _ _ ?_ (fun hHeld => ?_)
    · (try dsimp only); all_goals trivial
    clear hK K
    try simp only [Act.put, List.setIfInBounds_toArray, List.set_cons_zero, List.set_cons_succ]
    refine wpAnyH_ready (rs := [4]) (by kernel_rfl) (by simp) ?_
    refine AllReadyH.cons (o := ⟨some 30, _, _, _, _, _⟩) rfl (fun K hK => ?_) AllReadyH.nil
    go_simp
    refine hK.out _ _ ?_ (fun hHeld => ?_)
    · (try dsimp only); all_goals trivial
    clear hK K
    try simp only [Act.put, List.setIfInBounds_toArray, List.set_cons_zero, List.set_cons_succ]
    refine wpAnyH_take (i := 10) (oi := ⟨some 10, _, _, _, _, _⟩) (v := ?_) rfl (by kernel_rfl) (by kernel_rfl) (by kernel_rfl) (fun _ _ _ h => h) (Or.inl ⟨by rfl, ?_⟩) (by assumption) ?_
    rotate_left
    · (intro w hSw; (try dsimp only at hSw); go_simp; try with_reducible rfl)
    try simp only [Act.put, List.setIfInBounds_toArray, List.set_cons_zero, List.set_cons_succ]
    refine wpAnyH_take (i := 11) (oi := ⟨some 11, _, _, _, _, _⟩) (v := ?_) rfl (by kernel_rfl) (by kernel_rfl) (by kernel_rfl) (fun _ _ _ h => h) (Or.inl ⟨by rfl, ?_⟩) (by assumption) ?_
    rotate_left
    · (intro w hSw; (try dsimp only at hSw); go_simp; try with_reducible rfl)
    try simp only [Act.put, List.setIfInBounds_toArray, List.set_cons_zero, List.set_cons_succ]
    refine wpAnyH_done (by kernel_rfl) ?_ _
    go_wp2_with fail
    go_meet
    exact ⟨rfl, rfl, NT, TB⟩
  case rest =>
    obtain ⟨w5, rfl⟩ : ∃ z : World, z = wc := ⟨_, rfl⟩
    obtain ⟨rfl, rfl, hnt, htb⟩ := hcut
    have HNT := Lib.hid hnt; have HTB := Lib.hid htb
    clear hnt htb HNT2 HTB2 ra rb hai hbi
    by_cases hab : a = b
    · subst hab
      have HW := Lib.hid (fun W => works09_any W)
      go_wp2_with fail
      refine (HW.out _).mono ?_
      rintro e w6 ⟨rfl, hb6⟩
      have HB6 := Lib.hid (bnextK HNT.out.2.1 hb6)
      clear hb6
      go_wp2_with fail
      go_ret
      exact ⟨rfl, HB6.out⟩
    · have hne : nm a ≠ nm b := fun e => hab (nm_inj ha8 hb8 e)
      have hq : (nm a == nm b) = false := by simp [hne]
      have HWI := Lib.hid (Widest_any HNT.out.1 (nm a) (nm b) (by have := (named_len (nm_named a ha8)).2; unfold maxLen; omega) (by have := (named_len (nm_named b hb8)).2; unfold maxLen; omega))
      go_wp2_with fail
      refine HWI.out.mono ?_
      clear HWI
      rintro e w6 ⟨⟨m, z, rfl, hz, hm⟩, hb6⟩
      rw [HSM.out.ends ha8 hb8 hab] at hz hm
      subst hz
      obtain ⟨hm0, hm1, hm2, hm3⟩ := hm rfl
      have HNT6 := Lib.hid (HNT.out.far hb6); have HTB6 := Lib.hid (HTB.out.past hb6 HTB.out.lt)
      have HM2 := Lib.hid hm2; have HM3 := Lib.hid hm3
      clear hb6 hm2 hm3 hm
      have hml : ¬ m < 0 := by omega
      have hm256 : m ≤ 256 := by
        rcases HM2.out with h | h
        · omega
        · exact HSM.out.le256 ha8 hb8 hab h
      have HR2 : Hid (∀ W, NetNew w sN N bn bl W → Calls Try.prog 13 #[.pointer (some ⟨N, 0, none⟩), encS (nm a), encS (nm b), .int .i64 (m + 1)] W fun e w' => (∃ u, e = .returned (.tuple #[u, .int .i64 21])) ∧ NetNew w sN N bn bl w') := Lib.hid fun W hW => by
        refine (Route_any hW.1 (nm a) (nm b) (m + 1) (by have := (named_len (nm_named a ha8)).2; unfold maxLen; omega) (by have := (named_len (nm_named b hb8)).2; unfold maxLen; omega)).mono ?_
        rintro e w' ⟨⟨u, z, rfl, hc⟩, hb⟩
        refine ⟨?_, hW.far hb⟩
        rcases hc with ⟨q1, _⟩ | ⟨_, _, q2, _⟩ | ⟨_, p, l', q2, _⟩
        · exact absurd (HSM.out.route ha8 hb8 hab (by omega) (by omega)) q1
        · exact ⟨u, by rw [q2]⟩
        · rw [paths_none (HSM.out.mem ha8) (HSM.out.mem hb8) hne (m + 1) (HM3.out (m + 1) (by omega) (by omega))] at q2
          cases q2
      have HW := Lib.hid (fun W => works09_any W)
      have hwr : IntKind.i64.wrap (m + 1) = m + 1 := IntWalk.i64_in _ ⟨by omega, by omega⟩
      by_cases hmp : 0 < m
      · have HR1 : Hid (∀ W, NetNew w sN N bn bl W → Calls Try.prog 13 #[.pointer (some ⟨N, 0, none⟩), encS (nm a), encS (nm b), .int .i64 m] W fun e w' => (∃ (u : Value) (p : List Nat), e = .returned (.tuple #[u, .int .i64 0]) ∧ GoodP st p a b m ∧ NmRow w' u (p.map nm)) ∧ NetNew w sN N bn bl w' ∧ Below W.heap.size W w') := Lib.hid fun W hW => by
          refine (Route_any hW.1 (nm a) (nm b) m (by have := (named_len (nm_named a ha8)).2; unfold maxLen; omega) (by have := (named_len (nm_named b hb8)).2; unfold maxLen; omega)).mono ?_
          rintro e w' ⟨⟨u, z, rfl, hc⟩, hb⟩
          refine ⟨?_, hW.far hb, hb⟩
          obtain ⟨p, hp, hgood⟩ := HSM.out.path ha8 hb8 hab (HM2.out.resolve_left (by omega))
          rcases hc with ⟨q1, _⟩ | ⟨_, q2, _⟩ | ⟨_, p', l', q2, q3, q4⟩
          · exact absurd (HSM.out.route ha8 hb8 hab (by omega) (by omega)) q1
          · rw [hp] at q2; cases q2
          · rw [hp] at q2
            injection q2 with q2 _
            subst q2
            exact ⟨u, p, by rw [q3], hgood, HSM.out.row q4⟩
        have HL64 := Lib.hid HSM.out.len
        go_wp2_with fail
        refine (HR1.out _ HNT6.out).mono ?_
        clear HR1
        rintro e w7 ⟨⟨u, p, rfl, hgood, hrow⟩, hnt7, hb7⟩
        have HNT7 := Lib.hid hnt7; have HTB7 := Lib.hid (HTB6.out.past hb7 HTB6.out.lt)
        have HPA := Lib.hid (path_any st HL64.out p a b m hgood hrow)
        clear hnt7 hb7 hgood hrow
        go_wp2_with (first
          | (refine wpList_load_row rfl 25 _ rfl X rfl _ (stV st) (0, 0) _ HTB7.out Try.underlying25 rfl HIN.out ?_))
        refine HPA.out.mono ?_
        clear HPA
        rintro e w8 ⟨⟨z, hz, rfl⟩, hb8'⟩
        have HNT8 := Lib.hid (HNT7.out.far hb8')
        clear hz hb8'
        go_wp2_with fail
        refine (HR2.out _ HNT8.out).mono ?_
        clear HR2
        rintro e w9 ⟨⟨u2, rfl⟩, hnt9⟩
        have HNT9 := Lib.hid hnt9
        clear hnt9
        go_wp2_with fail
        refine (HW.out _).mono ?_
        rintro e wA ⟨rfl, hbA⟩
        have HBA := Lib.hid (bnextK HNT9.out.2.1 hbA)
        clear hbA
        go_wp2_with fail
        go_ret
        exact ⟨rfl, HBA.out⟩
      · have hmz : ¬ 0 < m := hmp
        go_wp2_with fail
        refine (HR2.out _ HNT6.out).mono ?_
        clear HR2
        rintro e w9 ⟨⟨u2, rfl⟩, hnt9⟩
        have HNT9 := Lib.hid hnt9
        clear hnt9
        go_wp2_with fail
        refine (HW.out _).mono ?_
        rintro e wA ⟨rfl, hbA⟩
        have HBA := Lib.hid (bnextK HNT9.out.2.1 hbA)
        clear hbA
        go_wp2_with fail
        go_ret
        exact ⟨rfl, HBA.out⟩
#print axioms NetworkWidens_walk
end Go.Proofs.Ytkmacmeeinpncaa
/- NetworkCuts: the walk. Conditions: as the statement says. -/
namespace Go.Proofs.Ytkmacmeeinpncaa
open Go.RowKit
set_option linter.unusedVariables false
theorem wpList_load_64 {ops : Array Oper} {rest : List Oper} {o : Oper} {a : Act} {w : World} {Q : Exit → Act → World → Prop} (x : Operand) (ho : o.op = .load 25 x) (hw : Region.wanted o (yielded ops a.tmps) = true)
    (g : Nat) (hx : a.eval x = .pointer (some ⟨g, 0, none⟩)) (cs : Array Value) (hg : Bk w g cs 25) (hi : (Try.prog.info? 25).map (·.size) = some cs.size)
    (h : wpList Try.prog ops Q rest (a.put o.dst (.agg cs)) w) : wpList Try.prog ops Q (o :: rest) a w :=
  wpList_step fun _ hK => by
    rw [if_pos hw]
    exact wp_load_row 25 x ho g hx 25 cs (0, 0) _ hg Try.underlying25 rfl hi (hK _ _ h)
theorem run_load_64 {o : Oper} {ev : Operand → Value} {w : World} (x : Operand) (ho : o.op = .load 25 x) (g : Nat) (hx : ev x = .pointer (some ⟨g, 0, none⟩)) (cs : Array Value) (hg : Bk w g cs 25)
    (hi : (Try.prog.info? 25).map (·.size) = some cs.size) : (execOp ev o).run Try.prog w = .ok (.value (.agg cs)) w := by
  unfold execOp
  simp only [ho, hx, Instr.loadAt, Instr.sureAddr, Sem.run_bind, Sem.run_pure, Result.andThen_ok, run_loadVar_row w g 25 25 cs (0, 0) _ hg Try.underlying25 rfl hi]
set_option maxRecDepth 100000 in
set_option maxHeartbeats 16000000 in
theorem NetworkCuts_walk (v : Value) (i : PrsArg) (a1 a2 a3 : Nat) (w : World) (hi : IsPrs w v i) (h1 : a1 < 256) (h2 : a2 < 256) (h3 : a3 < 256) :
    Calls Try.prog 3 #[v, .int .u8 (a1 : Int), .int .u8 (a2 : Int), .int .u8 (a3 : Int)] w (TrueP w) := by
  obtain ⟨A, n, c, l⟩ := i
  obtain ⟨rfl, hnc, hc, hln, hrd, hlt⟩ := hi
  simp only at hnc hc hln hrd hlt ⊢
  have HSM := Lib.hid (smallG_ok l (fun p hp => (hlt p hp).2.2))
  have HSA := Lib.hid (Small_any (c := c) l hrd (Nat.le_refl _) (by omega) hlt)
  have ra : Int.tmod (a1 : Int) 8 = ((a1 % 8 : Nat) : Int) := by rw [Int.tmod_eq_emod_of_nonneg (by omega)]; omega
  have rb : Int.tmod (a2 : Int) 8 = ((a2 % 8 : Nat) : Int) := by rw [Int.tmod_eq_emod_of_nonneg (by omega)]; omega
  have ha8 : a1 % 8 < 8 := Nat.mod_lt _ (by omega)
  have hb8 : a2 % 8 < 8 := Nat.mod_lt _ (by omega)
  generalize a1 % 8 = a at ra ha8
  generalize a2 % 8 = b at rb hb8
  have hai : (a : Int) < 8 := by omega
  have hbi : (b : Int) < 8 := by omega
  obtain ⟨x, hx⟩ : ∃ x : Int, (1 : Int) + (a3 : Int) = x := ⟨_, rfl⟩
  have hx1 : 1 ≤ x := by omega
  have hx2 : x ≤ 256 := by omega
  obtain ⟨⟨sN, st⟩, hsm⟩ : ∃ x, x = smallG l := ⟨_, rfl⟩
  have HX := Lib.hid hsm
  rw [← hsm] at HSM
  simp only at HSM
  have HIN : Hid ((Try.prog.info? 25).map (·.size) = some (stV st).size) := Lib.hid (by rw [show (stV st).size = 64 by unfold stV; simp [HSM.out.len]]; kernel_rfl)
  have HSZ : Hid ((stV (List.replicate 64 0)).size = (stV st).size) := Lib.hid (by unfold stV; simp [HSM.out.len])
  have HONE : Hid ((stV st).all (·.oneCell') = true) := Lib.hid (stV_one _)
  clear hsm hrd hlt
  go_enter Try.func3, Try.ntmps3
  go_wp2_with fail
  refine HSA.out.mono ?_
  clear HSA
  rintro e w1 ⟨N, bn, bl, rfl, hnet⟩
  rw [← HX.out] at hnet ⊢
  simp only at hnet ⊢
  have HNT1 := Lib.hid hnet
  clear hnet
  have hsz64 : (stV st).size = 64 := by unfold stV; simp [HSM.out.len]
  go_upto_region 2 with fail
  rw [lit64, run_storeCells_new w1 25 _ _ HIN.out HSZ.out HONE.out]
  obtain ⟨w2, hw2⟩ : ∃ z, z = w1.alloc (.cells (stV st) 25) := ⟨_, rfl⟩
  have HNT : Hid (NetNew w sN N bn bl w2) := Lib.hid (by rw [hw2]; exact HNT1.out.far (below_alloc _ _))
  have HTB : Hid (Bk w2 w1.heap.size (stV st) 25) := Lib.hid (by rw [hw2]; exact Bk.new w1 _ _)
  rw [← hw2]
  clear hw2 HNT1
  generalize w1.heap.size = X at HTB ⊢
  by_cases hab : a = b
  · subst hab
    have HMO : Hid (∀ W, NetNew w sN N bn bl W → Calls Try.prog 6 #[.pointer (some ⟨N, 0, none⟩), encS (nm a), encS (nm a), .int .i64 1] W fun e w' => (∃ m : Int, e = .returned (.tuple #[.int .i64 m, .int .i64 2])) ∧ Below W.heap.size W w') := Lib.hid fun W hW => by
      refine (Most_any hW.1 (nm a) (nm a) 1 (by have := (named_len (nm_named a ha8)).2; unfold maxLen; omega) (by have := (named_len (nm_named a ha8)).2; unfold maxLen; omega)).mono ?_
      rintro e w' ⟨⟨m, z, rfl, hz, _⟩, hb⟩
      refine ⟨⟨m, ?_⟩, hb⟩
      have : z = 2 := by rw [hz]; unfold routeE endsE twoE; rw [if_neg (by simp)]; rfl
      rw [this]
    go_upto_region 6 with fail
    have NT0 : Hid (NetNew w sN N bn bl w2.drew) := Lib.hid (HNT.out.far (Qw.below ⟨1, rfl⟩ _)); have TB0 : Hid (Bk w2.drew X (stV st) 25) := Lib.hid HTB.out
    go_cut [14, 15] from 48 to 60 (fun _ v15 wc => v15 = .int .i64 2 ∧ NetNew w sN N bn bl wc)
    case first =>
        refine wp_region_held_drew (S := (fun _ => True)) (by kernel_rfl) ?_ (fun hHeld => ?_)
        · (try dsimp only); all_goals trivial
        refine wpAnyH_take (i := 0) (oi := ⟨some 49, _, _, _, _, _⟩) (v := ?_) rfl (by kernel_rfl) (by kernel_rfl) (by kernel_rfl) (fun _ _ _ h => h) (Or.inl ⟨by rfl, ?_⟩) (by assumption) ?_
        rotate_left
        · (intro w hSw; (try dsimp only at hSw); go_simp; try with_reducible rfl)
        try simp only [Act.put, List.setIfInBounds_toArray, List.set_cons_zero, List.set_cons_succ]
        refine wpAnyH_take (i := 2) (oi := ⟨some 51, _, _, _, _, _⟩) (v := ?_) rfl (by kernel_rfl) (by kernel_rfl) (by kernel_rfl) (fun _ _ _ h => h) (Or.inl ⟨by rfl, ?_⟩) (by assumption) ?_
        rotate_left
        · (intro w hSw; (try dsimp only at hSw); go_simp; try with_reducible rfl)
        try simp only [Act.put, List.setIfInBounds_toArray, List.set_cons_zero, List.set_cons_succ]
        refine wpAnyH_take (i := 6) (oi := ⟨some 55, _, _, _, _, _⟩) (v := ?_) rfl (by kernel_rfl) (by kernel_rfl) (by kernel_rfl) (fun _ _ _ h => h) (Or.inl ⟨by rfl, ?_⟩) (by assumption) ?_
        rotate_left
        · (intro w hSw; (try dsimp only at hSw); go_simp; try with_reducible rfl)
        try simp only [Act.put, List.setIfInBounds_toArray, List.set_cons_zero, List.set_cons_succ]
        refine wpAnyH_ready (rs := [1]) (by kernel_rfl) (by simp) ?_
        refine AllReadyH.cons (o := ⟨some 50, _, _, _, _, _⟩) rfl (fun K hK => ?_) AllReadyH.nil
        go_simp
        refine (names_any _).mono ?_
        rintro e w3 ⟨rfl, hw3⟩
        obtain ⟨f3, b3⟩ := names_fact hw3
        have x3 : w3.cell? ⟨w2.heap.size, a, none⟩ = some (encS (nm a)) := f3 a ha8
        have NT := NT0.out.far b3
        have TB := TB0.out.past b3 TB0.out.lt
        clear hw3 f3
        go_wp2_with fail
        refine hK.out _ _ ?_ (fun hHeld => ?_)
        · (try dsimp only); all_goals trivial
        clear hK K
        try simp only [Act.put, List.setIfInBounds_toArray, List.set_cons_zero, List.set_cons_succ]
        refine wpAnyH_take (i := 3) (oi := ⟨some 52, _, _, _, _, _⟩) (v := ?_) rfl (by kernel_rfl) (by kernel_rfl) (by kernel_rfl) (fun _ _ _ h => h) (Or.inl ⟨by rfl, ?_⟩) (by assumption) ?_
        rotate_left
        · (intro w hSw; (try dsimp only at hSw); go_simp; try with_reducible rfl)
        try simp only [Act.put, List.setIfInBounds_toArray, List.set_cons_zero, List.set_cons_succ]
        refine wpAnyH_ready (rs := [4, 5]) (by kernel_rfl) (by simp) ?_
        refine AllReadyH.cons (o := ⟨some 53, _, _, _, _, _⟩) rfl (fun K hK => ?_) ?_
        · skip
          go_simp
          refine hK.out _ _ ?_ (fun hHeld => ?_)
          · (try dsimp only); all_goals trivial
          clear hK K
          try simp only [Act.put, List.setIfInBounds_toArray, List.set_cons_zero, List.set_cons_succ]
          refine wpAnyH_ready (rs := [5]) (by kernel_rfl) (by simp) ?_
          refine AllReadyH.cons (o := ⟨some 54, _, _, _, _, _⟩) rfl (fun K hK => ?_) AllReadyH.nil
          go_simp
          refine (names_any _).mono ?_
          rintro e wq ⟨rfl, hw4⟩
          obtain ⟨f4, b4⟩ := names_fact hw4
          have y4 := f4 a ha8
          have x3 : wq.cell? ⟨w2.heap.size, a, none⟩ = some (encS (nm a)) := (b4.cell (p := ⟨w2.heap.size, a, none⟩) (cell_ltO x3)).trans x3
          have NT := NT.far b4
          have TB := TB.past b4 TB.lt
          clear hw4 f4
          go_wp2_with fail
          refine hK.out _ _ ?_ (fun hHeld => ?_)
          · (try dsimp only); all_goals trivial
          clear hK K
          try simp only [Act.put, List.setIfInBounds_toArray, List.set_cons_zero, List.set_cons_succ]
          refine wpAnyH_take (i := 7) (oi := ⟨some 56, _, _, _, _, _⟩) (v := ?_) rfl (by kernel_rfl) (by kernel_rfl) (by kernel_rfl) (fun _ _ _ h => h) (Or.inl ⟨by rfl, ?_⟩) (by assumption) ?_
          rotate_left
          · (intro w hSw; (try dsimp only at hSw); go_simp; try with_reducible rfl)
          try simp only [Act.put, List.setIfInBounds_toArray, List.set_cons_zero, List.set_cons_succ]
          refine wpAnyH_ready (rs := [8]) (by kernel_rfl) (by simp) ?_
          refine AllReadyH.cons (o := ⟨some 57, _, _, _, _, _⟩) rfl (fun K hK => ?_) AllReadyH.nil
          go_simp
          refine hK.out _ _ ?_ (fun hHeld => ?_)
          · (try dsimp only); all_goals trivial
          clear hK K
          try simp only [Act.put, List.setIfInBounds_toArray, List.set_cons_zero, List.set_cons_succ]
          refine wpAnyH_ready (rs := [9]) (by kernel_rfl) (by simp) ?_
          refine AllReadyH.cons (o := ⟨some 58, _, _, _, _, _⟩) rfl (fun K hK => ?_) AllReadyH.nil
          go_simp
          refine (HMO.out _ NT).mono ?_
          rintro e w5 ⟨⟨m, rfl⟩, b5⟩
          have NT := NT.far b5
          go_wp2_with fail
          refine hK.out _ _ ?_ (fun hHeld => ?_)
          · (try dsimp only); all_goals trivial
          clear hK K
          try simp only [Act.put, List.setIfInBounds_toArray, List.set_cons_zero, List.set_cons_succ]
          refine wpAnyH_take (i := 10) (oi := ⟨some 48, _, _, _, _, _⟩) (v := ?_) rfl (by kernel_rfl) (by kernel_rfl) (by kernel_rfl) (fun _ _ _ h => h) (Or.inl ⟨by rfl, ?_⟩) (by assumption) ?_
          rotate_left
          · (intro w hSw; (try dsimp only at hSw); go_simp; try with_reducible rfl)
          try simp only [Act.put, List.setIfInBounds_toArray, List.set_cons_zero, List.set_cons_succ]
          refine wpAnyH_take (i := 11) (oi := ⟨some 59, _, _, _, _, _⟩) (v := ?_) rfl (by kernel_rfl) (by kernel_rfl) (by kernel_rfl) (fun _ _ _ h => h) (Or.inl ⟨by rfl, ?_⟩) (by assumption) ?_
          rotate_left
          · (intro w hSw; (try dsimp only at hSw); go_simp; try with_reducible rfl)
          try simp only [Act.put, List.setIfInBounds_toArray, List.set_cons_zero, List.set_cons_succ]
          refine wpAnyH_take (i := 12) (oi := ⟨some 60, _, _, _, _, _⟩) (v := ?_) rfl (by kernel_rfl) (by kernel_rfl) (by kernel_rfl) (fun _ _ _ h => h) (Or.inl ⟨by rfl, ?_⟩) (by assumption) ?_
          rotate_left
          · (intro w hSw; (try dsimp only at hSw); go_simp; try with_reducible rfl)
          try simp only [Act.put, List.setIfInBounds_toArray, List.set_cons_zero, List.set_cons_succ]
          refine wpAnyH_take (i := 13) (oi := ⟨some 14, _, _, _, _, _⟩) (v := ?_) rfl (by kernel_rfl) (by kernel_rfl) (by kernel_rfl) (fun _ _ _ h => h) (Or.inl ⟨by rfl, ?_⟩) (by assumption) ?_
          rotate_left
          · (intro w hSw; (try dsimp only at hSw); go_simp; try with_reducible rfl)
          try simp only [Act.put, List.setIfInBounds_toArray, List.set_cons_zero, List.set_cons_succ]
          refine wpAnyH_take (i := 14) (oi := ⟨some 15, _, _, _, _, _⟩) (v := ?_) rfl (by kernel_rfl) (by kernel_rfl) (by kernel_rfl) (fun _ _ _ h => h) (Or.inl ⟨by rfl, ?_⟩) (by assumption) ?_
          rotate_left
          · (intro w hSw; (try dsimp only at hSw); go_simp; try with_reducible rfl)
          try simp only [Act.put, List.setIfInBounds_toArray, List.set_cons_zero, List.set_cons_succ]
          refine wpAnyH_done (by kernel_rfl) ?_ _
          go_wp2_with fail
          go_meet
          exact ⟨rfl, NT⟩
        refine AllReadyH.cons (o := ⟨some 54, _, _, _, _, _⟩) rfl (fun K hK => ?_) AllReadyH.nil
        go_simp
        refine (names_any _).mono ?_
        rintro e wq ⟨rfl, hw4⟩
        obtain ⟨f4, b4⟩ := names_fact hw4
        have y4 := f4 a ha8
        have x3 : wq.cell? ⟨w2.heap.size, a, none⟩ = some (encS (nm a)) := (b4.cell (p := ⟨w2.heap.size, a, none⟩) (cell_ltO x3)).trans x3
        have NT := NT.far b4
        have TB := TB.past b4 TB.lt
        clear hw4 f4
        go_wp2_with fail
        refine hK.out _ _ ?_ (fun hHeld => ?_)
        · (try dsimp only); all_goals trivial
        clear hK K
        try simp only [Act.put, List.setIfInBounds_toArray, List.set_cons_zero, List.set_cons_succ]
        refine wpAnyH_take (i := 7) (oi := ⟨some 56, _, _, _, _, _⟩) (v := ?_) rfl (by kernel_rfl) (by kernel_rfl) (by kernel_rfl) (fun _ _ _ h => h) (Or.inl ⟨by rfl, ?_⟩) (by assumption) ?_
        rotate_left
        · (intro w hSw; (try dsimp only at hSw); go_simp; try with_reducible rfl)
        try simp only [Act.put, List.setIfInBounds_toArray, List.set_cons_zero, List.set_cons_succ]
        refine wpAnyH_ready (rs := [4, 8]) (by kernel_rfl) (by simp) ?_
        refine AllReadyH.cons (o := ⟨some 53, _, _, _, _, _⟩) rfl (fun K hK => ?_) ?_
        · skip
          go_simp
          refine hK.out _ _ ?_ (fun hHeld => ?_)
          · (try dsimp only); all_goals trivial
          clear hK K
          try simp only [Act.put, List.setIfInBounds_toArray, List.set_cons_zero, List.set_cons_succ]
          refine wpAnyH_ready (rs := [8]) (by kernel_rfl) (by simp) ?_
          refine AllReadyH.cons (o := ⟨some 57, _, _, _, _, _⟩) rfl (fun K hK => ?_) AllReadyH.nil
          go_simp
          refine hK.out _ _ ?_ (fun hHeld => ?_)
          · (try dsimp only); all_goals trivial
          clear hK K
          try simp only [Act.put, List.setIfInBounds_toArray, List.set_cons_zero, List.set_cons_succ]
          refine wpAnyH_ready (rs := [9]) (by kernel_rfl) (by simp) ?_
          refine AllReadyH.cons (o := ⟨some 58, _, _, _, _, _⟩) rfl (fun K hK => ?_) AllReadyH.nil
          go_simp
          refine (HMO.out _ NT).mono ?_
          rintro e w5 ⟨⟨m, rfl⟩, b5⟩
          have NT := NT.far b5
          go_wp2_with fail
          refine hK.out _ _ ?_ (fun hHeld => ?_)
          · (try dsimp only); all_goals trivial
          clear hK K
          try simp only [Act.put, List.setIfInBounds_toArray, List.set_cons_zero, List.set_cons_succ]
          refine wpAnyH_take (i := 10) (oi := ⟨some 48, _, _, _, _, _⟩) (v := ?_) rfl (by kernel_rfl) (by kernel_rfl) (by kernel_rfl) (fun _ _ _ h => h) (Or.inl ⟨by rfl, ?_⟩) (by assumption) ?_
          rotate_left
          · (intro w hSw; (try dsimp only at hSw); go_simp; try with_reducible rfl)
          try simp only [Act.put, List.setIfInBounds_toArray, List.set_cons_zero, List.set_cons_succ]
          refine wpAnyH_take (i := 11) (oi := ⟨some 59, _, _, _, _, _⟩) (v := ?_) rfl (by kernel_rfl) (by kernel_rfl) (by kernel_rfl) (fun _ _ _ h => h) (Or.inl ⟨by rfl, ?_⟩) (by assumption) ?_
          rotate_left
          · (intro w hSw; (try dsimp only at hSw); go_simp; try with_reducible rfl)
          try simp only [Act.put, List.setIfInBounds_toArray, List.set_cons_zero, List.set_cons_succ]
          refine wpAnyH_take (i := 12) (oi := ⟨some 60, _, _, _, _, _⟩) (v := ?_) rfl (by kernel_rfl) (by kernel_rfl) (by kernel_rfl) (fun _ _ _ h => h) (Or.inl ⟨by rfl, ?_⟩) (by assumption) ?_
          rotate_left
          · (intro w hSw; (try dsimp only at hSw); go_simp; try with_reducible rfl)
          try simp only [Act.put, List.setIfInBounds_toArray, List.set_cons_zero, List.set_cons_succ]
          refine wpAnyH_take (i := 13) (oi := ⟨some 14, _, _, _, _, _⟩) (v := ?_) rfl (by kernel_rfl) (by kernel_rfl) (by kernel_rfl) (fun _ _ _ h => h) (Or.inl ⟨by rfl, ?_⟩) (by assumption) ?_
          rotate_left
          · (intro w hSw; (try dsimp only at hSw); go_simp; try with_reducible rfl)
          try simp only [Act.put, List.setIfInBounds_toArray, List.set_cons_zero, List.set_cons_succ]
          refine wpAnyH_take (i := 14) (oi := ⟨some 15, _, _, _, _, _⟩) (v := ?_) rfl (by kernel_rfl) (by kernel_rfl) (by kernel_rfl) (fun _ _ _ h => h) (Or.inl ⟨by rfl, ?_⟩) (by assumption) ?_
          rotate_left
          · (intro w hSw; (try dsimp only at hSw); go_simp; try with_reducible rfl)
          try simp only [Act.put, List.setIfInBounds_toArray, List.set_cons_zero, List.set_cons_succ]
          refine wpAnyH_done (by kernel_rfl) ?_ _
          go_wp2_with fail
          go_meet
          exact ⟨rfl, NT⟩
        refine AllReadyH.cons (o := ⟨some 57, _, _, _, _, _⟩) rfl (fun K hK => ?_) AllReadyH.nil
        go_simp
        refine hK.out _ _ ?_ (fun hHeld => ?_)
        · (try dsimp only); all_goals trivial
        clear hK K
        try simp only [Act.put, List.setIfInBounds_toArray, List.set_cons_zero, List.set_cons_succ]
        refine wpAnyH_ready (rs := [4]) (by kernel_rfl) (by simp) ?_
        refine AllReadyH.cons (o := ⟨some 53, _, _, _, _, _⟩) rfl (fun K hK => ?_) AllReadyH.nil
        go_simp
        refine hK.out _ _ ?_ (fun hHeld => ?_)
        · (try dsimp only); all_goals trivial
        clear hK K
        try simp only [Act.put, List.setIfInBounds_toArray, List.set_cons_zero, List.set_cons_succ]
        refine wpAnyH_ready (rs := [9]) (by kernel_rfl) (by simp) ?_
        refine AllReadyH.cons (o := ⟨some 58, _, _, _, _, _⟩) rfl (fun K hK => ?_) AllReadyH.nil
        go_simp
        refine (HMO.out _ NT).mono ?_
        rintro e w5 ⟨⟨m, rfl⟩, b5⟩
        have NT := NT.far b5
        go_wp2_with fail
        refine hK.out _ _ ?_ (fun hHeld => ?_)
        · (try dsimp only); all_goals trivial
        clear hK K
        try simp only [Act.put, List.setIfInBounds_toArray, List.set_cons_zero, List.set_cons_succ]
        refine wpAnyH_take (i := 10) (oi := ⟨some 48, _, _, _, _, _⟩) (v := ?_) rfl (by kernel_rfl) (by kernel_rfl) (by kernel_rfl) (fun _ _ _ h => h) (Or.inl ⟨by rfl, ?_⟩) (by assumption) ?_
        rotate_left
        · (intro w hSw; (try dsimp only at hSw); go_simp; try with_reducible rfl)
        try simp only [Act.put, List.setIfInBounds_toArray, List.set_cons_zero, List.set_cons_succ]
        refine wpAnyH_take (i := 11) (oi := ⟨some 59, _, _, _, _, _⟩) (v := ?_) rfl (by kernel_rfl) (by kernel_rfl) (by kernel_rfl) (fun _ _ _ h => h) (Or.inl ⟨by rfl, ?_⟩) (by assumption) ?_
        rotate_left
        · (intro w hSw; (try dsimp only at hSw); go_simp; try with_reducible rfl)
        try simp only [Act.put, List.setIfInBounds_toArray, List.set_cons_zero, List.set_cons_succ]
        refine wpAnyH_take (i := 12) (oi := ⟨some 60, _, _, _, _, _⟩) (v := ?_) rfl (by kernel_rfl) (by kernel_rfl) (by kernel_rfl) (fun _ _ _ h => h) (Or.inl ⟨by rfl, ?_⟩) (by assumption) ?_
        rotate_left
        · (intro w hSw; (try dsimp only at hSw); go_simp; try with_reducible rfl)
        try simp only [Act.put, List.setIfInBounds_toArray, List.set_cons_zero, List.set_cons_succ]
        refine wpAnyH_take (i := 13) (oi := ⟨some 14, _, _, _, _, _⟩) (v := ?_) rfl (by kernel_rfl) (by kernel_rfl) (by kernel_rfl) (fun _ _ _ h => h) (Or.inl ⟨by rfl, ?_⟩) (by assumption) ?_
        rotate_left
        · (intro w hSw; (try dsimp only at hSw); go_simp; try with_reducible rfl)
        try simp only [Act.put, List.setIfInBounds_toArray, List.set_cons_zero, List.set_cons_succ]
        refine wpAnyH_take (i := 14) (oi := ⟨some 15, _, _, _, _, _⟩) (v := ?_) rfl (by kernel_rfl) (by kernel_rfl) (by kernel_rfl) (fun _ _ _ h => h) (Or.inl ⟨by rfl, ?_⟩) (by assumption) ?_
        rotate_left
        · (intro w hSw; (try dsimp only at hSw); go_simp; try with_reducible rfl)
        try simp only [Act.put, List.setIfInBounds_toArray, List.set_cons_zero, List.set_cons_succ]
        refine wpAnyH_done (by kernel_rfl) ?_ _
        go_wp2_with fail
        go_meet
        exact ⟨rfl, NT⟩
    case rest =>
      obtain ⟨w5, rfl⟩ : ∃ z : World, z = wc := ⟨_, rfl⟩
      obtain ⟨rfl, hnt⟩ := hcut
      have HNT5 := Lib.hid hnt
      have HW := Lib.hid (fun W => works09_any W)
      clear hnt
      go_wp2_with fail
      refine (HW.out _).mono ?_
      rintro e w6 ⟨rfl, hb6⟩
      have HB6 := Lib.hid (bnextK HNT5.out.2.1 hb6)
      clear hb6
      go_wp2_with fail
      go_ret
      exact ⟨rfl, HB6.out⟩
  · have hq0 : ((a : Int) == (b : Int)) = false := by simp; omega
    go_wp2_with fail
    go_loopw [17, 18, 19, 20] (fun lv sv _ _ wr => ∃ (m L : Nat), m ≤ 256 ∧ sv = .int .i64 m ∧ lv = .int .i64 L ∧ L = leastN st x a b m ∧ NetNew w sN N bn bl wr ∧ Bk wr X (stV st) 25) (fun _ sv _ _ _ => 256 - (intOf sv).toNat)
    case atStart => exact ⟨0, 8, Nat.zero_le _, rfl, rfl, rfl, HNT.out, HTB.out⟩
    case round =>
      obtain ⟨m, L, hm, rfl, rfl, hL, hnt, htb⟩ := hrel
      obtain ⟨wa, rfl⟩ : ∃ z : World, z = wr := ⟨_, rfl⟩
      clear HNT HTB
      have HNT := Lib.hid hnt; have HTB := Lib.hid htb; have HL := Lib.hid hL
      have hL8 : L ≤ 8 := by rw [hL]; exact leastN_8 _ _ _ _ _
      clear hnt htb hL
      by_cases hlt : m < 256
      · have hki : (m : Int) < 256 := by omega
        have sa := shr_and m a hlt ha8
        have sb := shr_and m b hlt hb8
        cases hta : m.testBit a with
        | true =>
          rw [hta, if_pos rfl] at sa
          have HV : Hid (L = leastN st x a b (m + 1)) := Lib.hid (by rw [leastN_skip (by unfold okSet; rw [hta]; rfl)]; exact HL.out)
          clear hta sb
          go_wp2_with fail
          clear sa
          go_roundw
          case rel => exact ⟨m + 1, L, by omega, by go_num, rfl, HV.out, HNT.out, HTB.out⟩
          case measure => simp [intOf] <;> omega
        | false =>
          rw [hta, if_neg (by simp)] at sa
          cases htb : m.testBit b with
          | true =>
            rw [htb, if_pos rfl] at sb
            have HV : Hid (L = leastN st x a b (m + 1)) := Lib.hid (by rw [leastN_skip (by unfold okSet; rw [htb]; simp)]; exact HL.out)
            clear hta htb
            go_wp2_with fail
            clear sa sb
            go_roundw
            case rel => exact ⟨m + 1, L, by omega, by go_num, rfl, HV.out, HNT.out, HTB.out⟩
            case measure => simp [intOf] <;> omega
          | false =>
            rw [htb, if_neg (by simp)] at sb
            have HRE := Lib.hid (fun W => reaches_any (w := W) st HSM.out.len a b m x ha8 hb8 hlt)
            have HVF : Hid (reachB8 st x m a b = true → L = leastN st x a b (m + 1)) := Lib.hid fun h => by rw [leastN_skip (by unfold okSet; rw [hta, htb, h]; rfl)]; exact HL.out
            have HVT : Hid (reachB8 st x m a b = false → min L (pc8 m 8) = leastN st x a b (m + 1)) := Lib.hid fun h => by rw [leastN_take (by unfold okSet; rw [hta, htb, h]; rfl), ← HL.out]
            generalize reachB8 st x m a b = r at HRE HVF HVT
            clear hta htb
            go_wp2_with (first
              | (refine wpList_load_64 _ rfl (by rfl) X rfl (stV st) HTB.out HIN.out ?_))
            refine (HRE.out _).mono ?_
            clear HRE sa sb
            rintro e w3 ⟨rfl, b3⟩
            have HNT3 := Lib.hid (HNT.out.far b3); have HTB3 := Lib.hid (HTB.out.past b3 HTB.out.lt)
            clear b3
            cases r with
            | true =>
              have HV := Lib.hid (HVF.out rfl)
              go_wp2_with fail
              go_roundw
              case rel => exact ⟨m + 1, L, by omega, by go_num, rfl, HV.out, HNT3.out, HTB3.out⟩
              case measure => simp [intOf] <;> omega
            | false =>
              have HV := Lib.hid (HVT.out rfl)
              clear HVF HVT
              go_wp2_with fail
              go_loopg [19, 20] 9 (fun g' zv iv wr => ∃ (k z : Nat), k ≤ 8 ∧ 8 - k < g' ∧ iv = .int .i64 k ∧ zv = .int .i64 z ∧ z = pc8 m k ∧ NetNew w sN N bn bl wr ∧ Bk wr X (stV st) 25)
              case atStart => exact ⟨0, 0, Nat.zero_le _, by omega, rfl, rfl, rfl, HNT3.out, HTB3.out⟩
              case round =>
                obtain ⟨k, z, hk, hg2, rfl, rfl, hz, hnt, htb⟩ := hrel
                obtain ⟨g', rfl⟩ : ∃ g', gk = g' + 1 := ⟨gk - 1, by omega⟩
                obtain ⟨wi, rfl⟩ : ∃ z : World, z = wr := ⟨_, rfl⟩
                have HNT4 := Lib.hid hnt; have HTB4 := Lib.hid htb; have HZ := Lib.hid hz
                have hz8 : z ≤ 8 := by have := pc8_le m k; omega
                clear hnt htb hz HNT3 HTB3
                by_cases hlt2 : k < 8
                · have hki2 : (k : Int) < 8 := by omega
                  have sk := shr_and m k hlt hlt2
                  have HS : Hid (pc8 m (k + 1) = pc8 m k + if m.testBit k then 1 else 0) := Lib.hid rfl
                  cases htk : m.testBit k with
                  | true =>
                    rw [htk, if_pos rfl] at sk
                    have HW2 : Hid (z + 1 = pc8 m (k + 1)) := Lib.hid (by rw [HS.out, htk, HZ.out]; rfl)
                    clear htk
                    go_wp2_with fail
                    clear sk
                    go_roundg g'
                    case measure => omega
                    case rel => exact ⟨k + 1, z + 1, by omega, by omega, by go_num, by go_num, HW2.out, HNT4.out, HTB4.out⟩
                  | false =>
                    rw [htk, if_neg (by simp)] at sk
                    have HW2 : Hid (z = pc8 m (k + 1)) := Lib.hid (by rw [HS.out, htk, HZ.out]; rfl)
                    clear htk
                    go_wp2_with fail
                    clear sk
                    go_roundg g'
                    case measure => omega
                    case rel => exact ⟨k + 1, z, by omega, by omega, by go_num, by first | rfl | go_num, HW2.out, HNT4.out, HTB4.out⟩
                · have hki2 : ¬ (k : Int) < 8 := by omega
                  obtain rfl : k = 8 := by omega
                  by_cases hle : L ≤ z
                  · have HW2 : Hid (L = leastN st x a b (m + 1)) := Lib.hid (by rw [← HV.out, ← HZ.out, Nat.min_eq_left hle])
                    have hle1 : ¬ (z : Int) < (L : Int) := by omega
                    have hle2 : (L : Int) ≤ (z : Int) := by omega
                    clear hle
                    go_wp2_with fail
                    all_goals (
                      go_roundw
                      case rel => exact ⟨m + 1, L, by omega, by go_num, by first | rfl | (congr 1; omega), HW2.out, HNT4.out, HTB4.out⟩
                      case measure => simp [intOf] <;> omega)
                  · have HW2 : Hid (z = leastN st x a b (m + 1)) := Lib.hid (by rw [← HV.out, ← HZ.out, Nat.min_eq_right (by omega)])
                    have hle1 : (z : Int) < (L : Int) := by omega
                    have hle2 : ¬ (L : Int) ≤ (z : Int) := by omega
                    clear hle
                    go_wp2_with fail
                    all_goals (
                      go_roundw
                      case rel => exact ⟨m + 1, z, by omega, by go_num, by first | rfl | (congr 1; omega), HW2.out, HNT4.out, HTB4.out⟩
                      case measure => simp [intOf] <;> omega)
      · have hki : ¬ (m : Int) < 256 := by omega
        have HM256 : Hid (m = 256) := Lib.hid (by omega)
        have ct : wa.cell? ⟨X, a * 8 + b, none⟩ = some (.int .i64 (stG st a b)) := by
          rw [HTB.out.cell, stV_get _ _ (by rw [HSM.out.len]; omega)]; rfl
        have HM : Hid (L + (if x ≤ stG st a b then 1 else 0) = mostG sN x (nm a) (nm b) 16) := Lib.hid (by rw [HL.out, HM256.out]; exact least_most HSM.out hx1 ha8 hb8 hab)
        have HMO := Lib.hid (fun W hW => most_small (w := w) (N := N) (bn := bn) (bl := bl) (W := W) HSM.out hx1 hx2 ha8 hb8 hab hW)
        have HPA : Hid (∀ k : Nat, 1 ≤ k → k ≤ 4 → ∀ W, NetNew w sN N bn bl W → Calls Try.prog 10 #[.pointer (some ⟨N, 0, none⟩), encS (nm a), encS (nm b), .int .i64 x, .int .i64 (k : Int)] W fun e w' =>
            ∃ v z, e = .returned (.tuple #[v, .int .i64 z]) ∧ ((mostG sN x (nm a) (nm b) 16 < k ∧ z = 21) ∨ (k ≤ mostG sN x (nm a) (nm b) 16 ∧ z = 0 ∧ (pathsG sN x (nm a) (nm b) k).length = k ∧ Disj (graphG sN x) a b (pathsG sN x (nm a) (nm b) k) ∧ NmRows w' v ((pathsG sN x (nm a) (nm b) k).map fun p => p.map nm))) ∧ Below W.heap.size W w') :=
          Lib.hid fun k hk1 hk4 W hW => paths_small (w := w) (N := N) (bn := bn) (bl := bl) (k := k) (W := W) HSM.out hx1 hx2 ha8 hb8 hab hk1 hk4 hW
        generalize hMd : mostG sN x (nm a) (nm b) 16 = M at HM HMO HPA
        have hM9 : M ≤ 9 := by have := HM.out; split at this <;> omega
        clear hMd
        generalize stG st a b = sv at ct HM
        go_upto_if 115 with fail
        clear ct
        go_cut [17] from 109 to 117 (fun v17 wc => v17 = .int .i64 M ∧ NetNew w sN N bn bl wc ∧ Bk wc X (stV st) 25)
        case first =>
          by_cases hxs : x ≤ sv
          · have HV : Hid (M = L + 1) := Lib.hid (by have := HM.out; rw [if_pos hxs] at this; omega)
            go_wp2_with fail
            go_meet
            exact ⟨by rw [HV.out]; go_num, HNT.out, HTB.out⟩
          · have HV : Hid (M = L) := Lib.hid (by have := HM.out; rw [if_neg hxs] at this; omega)
            go_wp2_with fail
            go_meet
            exact ⟨by rw [HV.out], HNT.out, HTB.out⟩
        case rest =>
          obtain ⟨w4, rfl⟩ : ∃ z : World, z = wc := ⟨_, rfl⟩
          obtain ⟨rfl, hnt, htb⟩ := hcut
          clear HNT HTB HL HM
          have HNT := Lib.hid hnt; have HTB := Lib.hid htb
          clear hnt htb hL8 hlt hm hki
          go_upto_region 22 with fail
          have NT0 : Hid (NetNew w sN N bn bl w4.drew) := Lib.hid (HNT.out.far (Qw.below ⟨1, rfl⟩ _)); have TB0 : Hid (Bk w4.drew X (stV st) 25) := Lib.hid HTB.out
          go_cut [21, 22] from 118 to 131 (fun v21 v22 wc => v21 = .int .i64 M ∧ v22 = .int .i64 0 ∧ NetNew w sN N bn bl wc ∧ Bk wc X (stV st) 25)
          case first =>
            refine wp_region_held_drew (S := (fun _ => True)) (by kernel_rfl) ?_ (fun hHeld => ?_)
            · (try dsimp only); all_goals trivial
            refine wpAnyH_take (i := 0) (oi := ⟨some 119, _, _, _, _, _⟩) (v := ?_) rfl (by kernel_rfl) (by kernel_rfl) (by kernel_rfl) (fun _ _ _ h => h) (Or.inl ⟨by rfl, ?_⟩) (by assumption) ?_
            rotate_left
            · (intro w hSw; (try dsimp only at hSw); go_simp; try with_reducible rfl)
            try simp only [Act.put, List.setIfInBounds_toArray, List.set_cons_zero, List.set_cons_succ]
            refine wpAnyH_take (i := 2) (oi := ⟨some 121, _, _, _, _, _⟩) (v := ?_) rfl (by kernel_rfl) (by kernel_rfl) (by kernel_rfl) (fun _ _ _ h => h) (Or.inl ⟨by rfl, ?_⟩) (by assumption) ?_
            rotate_left
            · (intro w hSw; (try dsimp only at hSw); go_simp; try with_reducible rfl)
            try simp only [Act.put, List.setIfInBounds_toArray, List.set_cons_zero, List.set_cons_succ]
            refine wpAnyH_take (i := 6) (oi := ⟨some 125, _, _, _, _, _⟩) (v := ?_) rfl (by kernel_rfl) (by kernel_rfl) (by kernel_rfl) (fun _ _ _ h => h) (Or.inl ⟨by rfl, ?_⟩) (by assumption) ?_
            rotate_left
            · (intro w hSw; (try dsimp only at hSw); go_simp; try with_reducible rfl)
            try simp only [Act.put, List.setIfInBounds_toArray, List.set_cons_zero, List.set_cons_succ]
            refine wpAnyH_take (i := 9) (oi := ⟨some 128, _, _, _, _, _⟩) (v := ?_) rfl (by kernel_rfl) (by kernel_rfl) (by kernel_rfl) (fun _ _ _ h => h) (Or.inl ⟨by rfl, ?_⟩) (by assumption) ?_
            rotate_left
            · (intro w hSw; (try dsimp only at hSw); go_simp; try with_reducible rfl)
            try simp only [Act.put, List.setIfInBounds_toArray, List.set_cons_zero, List.set_cons_succ]
            refine wpAnyH_ready (rs := [1]) (by kernel_rfl) (by simp) ?_
            refine AllReadyH.cons (o := ⟨some 120, _, _, _, _, _⟩) rfl (fun K hK => ?_) AllReadyH.nil
            go_simp
            refine (names_any _).mono ?_
            rintro e w3 ⟨rfl, hw3⟩
            obtain ⟨f3, b3⟩ := names_fact hw3
            have x3 : w3.cell? ⟨w4.heap.size, a, none⟩ = some (encS (nm a)) := f3 a ha8
            have NT := NT0.out.far b3
            have TB := TB0.out.past b3 TB0.out.lt
            clear hw3 f3
            go_wp2_with fail
            refine hK.out _ _ ?_ (fun hHeld => ?_)
            · (try dsimp only); all_goals trivial
            clear hK K
            try simp only [Act.put, List.setIfInBounds_toArray, List.set_cons_zero, List.set_cons_succ]
            refine wpAnyH_take (i := 3) (oi := ⟨some 122, _, _, _, _, _⟩) (v := ?_) rfl (by kernel_rfl) (by kernel_rfl) (by kernel_rfl) (fun _ _ _ h => h) (Or.inl ⟨by rfl, ?_⟩) (by assumption) ?_
            rotate_left
            · (intro w hSw; (try dsimp only at hSw); go_simp; try with_reducible rfl)
            try simp only [Act.put, List.setIfInBounds_toArray, List.set_cons_zero, List.set_cons_succ]
            refine wpAnyH_ready (rs := [4, 5]) (by kernel_rfl) (by simp) ?_
            refine AllReadyH.cons (o := ⟨some 123, _, _, _, _, _⟩) rfl (fun K hK => ?_) ?_
            · skip
              go_simp
              refine hK.out _ _ ?_ (fun hHeld => ?_)
              · (try dsimp only); all_goals trivial
              clear hK K
              try simp only [Act.put, List.setIfInBounds_toArray, List.set_cons_zero, List.set_cons_succ]
              refine wpAnyH_ready (rs := [5]) (by kernel_rfl) (by simp) ?_
              refine AllReadyH.cons (o := ⟨some 124, _, _, _, _, _⟩) rfl (fun K hK => ?_) AllReadyH.nil
              go_simp
              refine (names_any _).mono ?_
              rintro e wq ⟨rfl, hw4⟩
              obtain ⟨f4, b4⟩ := names_fact hw4
              have y4 := f4 b hb8
              have x3 : wq.cell? ⟨w4.heap.size, a, none⟩ = some (encS (nm a)) := (b4.cell (p := ⟨w4.heap.size, a, none⟩) (cell_ltO x3)).trans x3
              have NT := NT.far b4
              have TB := TB.past b4 TB.lt
              clear hw4 f4
              go_wp2_with fail
              refine hK.out _ _ ?_ (fun hHeld => ?_)
              · (try dsimp only); all_goals trivial
              clear hK K
              try simp only [Act.put, List.setIfInBounds_toArray, List.set_cons_zero, List.set_cons_succ]
              refine wpAnyH_take (i := 7) (oi := ⟨some 126, _, _, _, _, _⟩) (v := ?_) rfl (by kernel_rfl) (by kernel_rfl) (by kernel_rfl) (fun _ _ _ h => h) (Or.inl ⟨by rfl, ?_⟩) (by assumption) ?_
              rotate_left
              · (intro w hSw; (try dsimp only at hSw); go_simp; try with_reducible rfl)
              try simp only [Act.put, List.setIfInBounds_toArray, List.set_cons_zero, List.set_cons_succ]
              refine wpAnyH_ready (rs := [8]) (by kernel_rfl) (by simp) ?_
              refine AllReadyH.cons (o := ⟨some 127, _, _, _, _, _⟩) rfl (fun K hK => ?_) AllReadyH.nil
              go_simp
              refine hK.out _ _ ?_ (fun hHeld => ?_)
              · (try dsimp only); all_goals trivial
              clear hK K
              try simp only [Act.put, List.setIfInBounds_toArray, List.set_cons_zero, List.set_cons_succ]
              refine wpAnyH_ready (rs := [10]) (by kernel_rfl) (by simp) ?_
              refine AllReadyH.cons (o := ⟨some 129, _, _, _, _, _⟩) rfl (fun K hK => ?_) AllReadyH.nil
              go_simp
              refine (HMO.out _ NT).mono ?_
              rintro e w5 ⟨⟨m, rfl, rfl⟩, b5⟩
              have TB := TB.past b5 TB.lt
              have NT := NT.far b5
              go_wp2_with fail
              refine hK.out _ _ ?_ (fun hHeld => ?_)
              · (try dsimp only); all_goals trivial
              clear hK K
              try simp only [Act.put, List.setIfInBounds_toArray, List.set_cons_zero, List.set_cons_succ]
              refine wpAnyH_take (i := 11) (oi := ⟨some 118, _, _, _, _, _⟩) (v := ?_) rfl (by kernel_rfl) (by kernel_rfl) (by kernel_rfl) (fun _ _ _ h => h) (Or.inl ⟨by rfl, ?_⟩) (by assumption) ?_
              rotate_left
              · (intro w hSw; (try dsimp only at hSw); go_simp; try with_reducible rfl)
              try simp only [Act.put, List.setIfInBounds_toArray, List.set_cons_zero, List.set_cons_succ]
              refine wpAnyH_take (i := 12) (oi := ⟨some 130, _, _, _, _, _⟩) (v := ?_) rfl (by kernel_rfl) (by kernel_rfl) (by kernel_rfl) (fun _ _ _ h => h) (Or.inl ⟨by rfl, ?_⟩) (by assumption) ?_
              rotate_left
              · (intro w hSw; (try dsimp only at hSw); go_simp; try with_reducible rfl)
              try simp only [Act.put, List.setIfInBounds_toArray, List.set_cons_zero, List.set_cons_succ]
              refine wpAnyH_take (i := 13) (oi := ⟨some 131, _, _, _, _, _⟩) (v := ?_) rfl (by kernel_rfl) (by kernel_rfl) (by kernel_rfl) (fun _ _ _ h => h) (Or.inl ⟨by rfl, ?_⟩) (by assumption) ?_
              rotate_left
              · (intro w hSw; (try dsimp only at hSw); go_simp; try with_reducible rfl)
              try simp only [Act.put, List.setIfInBounds_toArray, List.set_cons_zero, List.set_cons_succ]
              refine wpAnyH_take (i := 14) (oi := ⟨some 21, _, _, _, _, _⟩) (v := ?_) rfl (by kernel_rfl) (by kernel_rfl) (by kernel_rfl) (fun _ _ _ h => h) (Or.inl ⟨by rfl, ?_⟩) (by assumption) ?_
              rotate_left
              · (intro w hSw; (try dsimp only at hSw); go_simp; try with_reducible rfl)
              try simp only [Act.put, List.setIfInBounds_toArray, List.set_cons_zero, List.set_cons_succ]
              refine wpAnyH_take (i := 15) (oi := ⟨some 22, _, _, _, _, _⟩) (v := ?_) rfl (by kernel_rfl) (by kernel_rfl) (by kernel_rfl) (fun _ _ _ h => h) (Or.inl ⟨by rfl, ?_⟩) (by assumption) ?_
              rotate_left
              · (intro w hSw; (try dsimp only at hSw); go_simp; try with_reducible rfl)
              try simp only [Act.put, List.setIfInBounds_toArray, List.set_cons_zero, List.set_cons_succ]
              refine wpAnyH_done (by kernel_rfl) ?_ _
              go_wp2_with fail
              go_meet
              exact ⟨rfl, rfl, NT, TB⟩
            refine AllReadyH.cons (o := ⟨some 124, _, _, _, _, _⟩) rfl (fun K hK => ?_) AllReadyH.nil
            go_simp
            refine (names_any _).mono ?_
            rintro e wq ⟨rfl, hw4⟩
            obtain ⟨f4, b4⟩ := names_fact hw4
            have y4 := f4 b hb8
            have x3 : wq.cell? ⟨w4.heap.size, a, none⟩ = some (encS (nm a)) := (b4.cell (p := ⟨w4.heap.size, a, none⟩) (cell_ltO x3)).trans x3
            have NT := NT.far b4
            have TB := TB.past b4 TB.lt
            clear hw4 f4
            go_wp2_with fail
            refine hK.out _ _ ?_ (fun hHeld => ?_)
            · (try dsimp only); all_goals trivial
            clear hK K
            try simp only [Act.put, List.setIfInBounds_toArray, List.set_cons_zero, List.set_cons_succ]
            refine wpAnyH_take (i := 7) (oi := ⟨some 126, _, _, _, _, _⟩) (v := ?_) rfl (by kernel_rfl) (by kernel_rfl) (by kernel_rfl) (fun _ _ _ h => h) (Or.inl ⟨by rfl, ?_⟩) (by assumption) ?_
            rotate_left
            · (intro w hSw; (try dsimp only at hSw); go_simp; try with_reducible rfl)
            try simp only [Act.put, List.setIfInBounds_toArray, List.set_cons_zero, List.set_cons_succ]
            refine wpAnyH_ready (rs := [4, 8]) (by kernel_rfl) (by simp) ?_
            refine AllReadyH.cons (o := ⟨some 123, _, _, _, _, _⟩) rfl (fun K hK => ?_) ?_
            · skip
              go_simp
              refine hK.out _ _ ?_ (fun hHeld => ?_)
              · (try dsimp only); all_goals trivial
              clear hK K
              try simp only [Act.put, List.setIfInBounds_toArray, List.set_cons_zero, List.set_cons_succ]
              refine wpAnyH_ready (rs := [8]) (by kernel_rfl) (by simp) ?_
              refine AllReadyH.cons (o := ⟨some 127, _, _, _, _, _⟩) rfl (fun K hK => ?_) AllReadyH.nil
              go_simp
              refine hK.out _ _ ?_ (fun hHeld => ?_)
              · (try dsimp only); all_goals trivial
              clear hK K
              try simp only [Act.put, List.setIfInBounds_toArray, List.set_cons_zero, List.set_cons_succ]
              refine wpAnyH_ready (rs := [10]) (by kernel_rfl) (by simp) ?_
              refine AllReadyH.cons (o := ⟨some 129, _, _, _, _, _⟩) rfl (fun K hK => ?_) AllReadyH.nil
              go_simp
              refine (HMO.out _ NT).mono ?_
              rintro e w5 ⟨⟨m, rfl, rfl⟩, b5⟩
              have TB := TB.past b5 TB.lt
              have NT := NT.far b5
              go_wp2_with fail
              refine hK.out _ _ ?_ (fun hHeld => ?_)
              · (try dsimp only); all_goals trivial
              clear hK K
              try simp only [Act.put, List.setIfInBounds_toArray, List.set_cons_zero, List.set_cons_succ]
              refine wpAnyH_take (i := 11) (oi := ⟨some 118, _, _, _, _, _⟩) (v := ?_) rfl (by kernel_rfl) (by kernel_rfl) (by kernel_rfl) (fun _ _ _ h => h) (Or.inl ⟨by rfl, ?_⟩) (by assumption) ?_
              rotate_left
              · (intro w hSw; (try dsimp only at hSw); go_simp; try with_reducible rfl)
              try simp only [Act.put, List.setIfInBounds_toArray, List.set_cons_zero, List.set_cons_succ]
              refine wpAnyH_take (i := 12) (oi := ⟨some 130, _, _, _, _, _⟩) (v := ?_) rfl (by kernel_rfl) (by kernel_rfl) (by kernel_rfl) (fun _ _ _ h => h) (Or.inl ⟨by rfl, ?_⟩) (by assumption) ?_
              rotate_left
              · (intro w hSw; (try dsimp only at hSw); go_simp; try with_reducible rfl)
              try simp only [Act.put, List.setIfInBounds_toArray, List.set_cons_zero, List.set_cons_succ]
              refine wpAnyH_take (i := 13) (oi := ⟨some 131, _, _, _, _, _⟩) (v := ?_) rfl (by kernel_rfl) (by kernel_rfl) (by kernel_rfl) (fun _ _ _ h => h) (Or.inl ⟨by rfl, ?_⟩) (by assumption) ?_
              rotate_left
              · (intro w hSw; (try dsimp only at hSw); go_simp; try with_reducible rfl)
              try simp only [Act.put, List.setIfInBounds_toArray, List.set_cons_zero, List.set_cons_succ]
              refine wpAnyH_take (i := 14) (oi := ⟨some 21, _, _, _, _, _⟩) (v := ?_) rfl (by kernel_rfl) (by kernel_rfl) (by kernel_rfl) (fun _ _ _ h => h) (Or.inl ⟨by rfl, ?_⟩) (by assumption) ?_
              rotate_left
              · (intro w hSw; (try dsimp only at hSw); go_simp; try with_reducible rfl)
              try simp only [Act.put, List.setIfInBounds_toArray, List.set_cons_zero, List.set_cons_succ]
              refine wpAnyH_take (i := 15) (oi := ⟨some 22, _, _, _, _, _⟩) (v := ?_) rfl (by kernel_rfl) (by kernel_rfl) (by kernel_rfl) (fun _ _ _ h => h) (Or.inl ⟨by rfl, ?_⟩) (by assumption) ?_
              rotate_left
              · (intro w hSw; (try dsimp only at hSw); go_simp; try with_reducible rfl)
              try simp only [Act.put, List.setIfInBounds_toArray, List.set_cons_zero, List.set_cons_succ]
              refine wpAnyH_done (by kernel_rfl) ?_ _
              go_wp2_with fail
              go_meet
              exact ⟨rfl, rfl, NT, TB⟩
            refine AllReadyH.cons (o := ⟨some 127, _, _, _, _, _⟩) rfl (fun K hK => ?_) AllReadyH.nil
            go_simp
            refine hK.out _ _ ?_ (fun hHeld => ?_)
            · (try dsimp only); all_goals trivial
            clear hK K
            try simp only [Act.put, List.setIfInBounds_toArray, List.set_cons_zero, List.set_cons_succ]
            refine wpAnyH_ready (rs := [4]) (by kernel_rfl) (by simp) ?_
            refine AllReadyH.cons (o := ⟨some 123, _, _, _, _, _⟩) rfl (fun K hK => ?_) AllReadyH.nil
            go_simp
            refine hK.out _ _ ?_ (fun hHeld => ?_)
            · (try dsimp only); all_goals trivial
            clear hK K
            try simp only [Act.put, List.setIfInBounds_toArray, List.set_cons_zero, List.set_cons_succ]
            refine wpAnyH_ready (rs := [10]) (by kernel_rfl) (by simp) ?_
            refine AllReadyH.cons (o := ⟨some 129, _, _, _, _, _⟩) rfl (fun K hK => ?_) AllReadyH.nil
            go_simp
            refine (HMO.out _ NT).mono ?_
            rintro e w5 ⟨⟨m, rfl, rfl⟩, b5⟩
            have TB := TB.past b5 TB.lt
            have NT := NT.far b5
            go_wp2_with fail
            refine hK.out _ _ ?_ (fun hHeld => ?_)
            · (try dsimp only); all_goals trivial
            clear hK K
            try simp only [Act.put, List.setIfInBounds_toArray, List.set_cons_zero, List.set_cons_succ]
            refine wpAnyH_take (i := 11) (oi := ⟨some 118, _, _, _, _, _⟩) (v := ?_) rfl (by kernel_rfl) (by kernel_rfl) (by kernel_rfl) (fun _ _ _ h => h) (Or.inl ⟨by rfl, ?_⟩) (by assumption) ?_
            rotate_left
            · (intro w hSw; (try dsimp only at hSw); go_simp; try with_reducible rfl)
            try simp only [Act.put, List.setIfInBounds_toArray, List.set_cons_zero, List.set_cons_succ]
            refine wpAnyH_take (i := 12) (oi := ⟨some 130, _, _, _, _, _⟩) (v := ?_) rfl (by kernel_rfl) (by kernel_rfl) (by kernel_rfl) (fun _ _ _ h => h) (Or.inl ⟨by rfl, ?_⟩) (by assumption) ?_
            rotate_left
            · (intro w hSw; (try dsimp only at hSw); go_simp; try with_reducible rfl)
            try simp only [Act.put, List.setIfInBounds_toArray, List.set_cons_zero, List.set_cons_succ]
            refine wpAnyH_take (i := 13) (oi := ⟨some 131, _, _, _, _, _⟩) (v := ?_) rfl (by kernel_rfl) (by kernel_rfl) (by kernel_rfl) (fun _ _ _ h => h) (Or.inl ⟨by rfl, ?_⟩) (by assumption) ?_
            rotate_left
            · (intro w hSw; (try dsimp only at hSw); go_simp; try with_reducible rfl)
            try simp only [Act.put, List.setIfInBounds_toArray, List.set_cons_zero, List.set_cons_succ]
            refine wpAnyH_take (i := 14) (oi := ⟨some 21, _, _, _, _, _⟩) (v := ?_) rfl (by kernel_rfl) (by kernel_rfl) (by kernel_rfl) (fun _ _ _ h => h) (Or.inl ⟨by rfl, ?_⟩) (by assumption) ?_
            rotate_left
            · (intro w hSw; (try dsimp only at hSw); go_simp; try with_reducible rfl)
            try simp only [Act.put, List.setIfInBounds_toArray, List.set_cons_zero, List.set_cons_succ]
            refine wpAnyH_take (i := 15) (oi := ⟨some 22, _, _, _, _, _⟩) (v := ?_) rfl (by kernel_rfl) (by kernel_rfl) (by kernel_rfl) (fun _ _ _ h => h) (Or.inl ⟨by rfl, ?_⟩) (by assumption) ?_
            rotate_left
            · (intro w hSw; (try dsimp only at hSw); go_simp; try with_reducible rfl)
            try simp only [Act.put, List.setIfInBounds_toArray, List.set_cons_zero, List.set_cons_succ]
            refine wpAnyH_done (by kernel_rfl) ?_ _
            go_wp2_with fail
            go_meet
            exact ⟨rfl, rfl, NT, TB⟩
          case rest =>
            obtain ⟨w5, rfl⟩ : ∃ z : World, z = wc := ⟨_, rfl⟩
            obtain ⟨rfl, rfl, hnt, htb⟩ := hcut
            clear HNT HTB NT0 TB0 HMO
            have HNT := Lib.hid hnt; have HTB := Lib.hid htb
            clear hnt htb
            go_wp2_with fail
            go_loopw [23, 24, 25, 26, 27, 28, 29, 30] (fun kv _ _ _ _ _ _ _ wr => ∃ k : Nat, 1 ≤ k ∧ k ≤ 5 ∧ kv = .int .i64 k ∧ NetNew w sN N bn bl wr ∧ Bk wr X (stV st) 25) (fun kv _ _ _ _ _ _ _ _ => 5 - (intOf kv).toNat)
            case atStart => exact ⟨1, by omega, by omega, rfl, HNT.out, HTB.out⟩
            case round =>
              obtain ⟨k, hk1, hk5, rfl, hnt, htb⟩ := hrel
              obtain ⟨w6, rfl⟩ : ∃ z : World, z = wr := ⟨_, rfl⟩
              clear HNT HTB
              have HNT := Lib.hid hnt; have HTB := Lib.hid htb
              clear hnt htb
              by_cases hk4 : k ≤ 4
              · have hki : (k : Int) ≤ 4 := by omega
                have HPB := Lib.hid (HPA.out k hk1 hk4)
                obtain ⟨ps, hps⟩ : ∃ ps, ps = pathsG sN x (nm a) (nm b) k := ⟨_, rfl⟩
                rw [← hps] at HPB
                clear hps
                go_upto_region 28 with fail
                have NT0 : Hid (NetNew w sN N bn bl w6.drew) := Lib.hid (HNT.out.far (Qw.below ⟨1, rfl⟩ _)); have TB0 : Hid (Bk w6.drew X (stV st) 25) := Lib.hid HTB.out
                go_cut [24, 25] from 143 to 157 (fun v24 v25 wc => (∃ z : Int, v25 = .int .i64 z ∧ ((M < k ∧ z = 21) ∨ (k ≤ M ∧ z = 0 ∧ ps.length = k ∧ Disj (graphG sN x) a b ps ∧ NmRows wc v24 (ps.map fun p => p.map nm)))) ∧ NetNew w sN N bn bl wc ∧ Bk wc X (stV st) 25)
                case first =>
                  refine wp_region_held_drew (S := (fun _ => True)) (by kernel_rfl) ?_ (fun hHeld => ?_)
                  · (try dsimp only); all_goals trivial
                  refine wpAnyH_take (i := 0) (oi := ⟨some 144, _, _, _, _, _⟩) (v := ?_) rfl (by kernel_rfl) (by kernel_rfl) (by kernel_rfl) (fun _ _ _ h => h) (Or.inl ⟨by rfl, ?_⟩) (by assumption) ?_
                  rotate_left
                  · (intro w hSw; (try dsimp only at hSw); go_simp; try with_reducible rfl)
                  try simp only [Act.put, List.setIfInBounds_toArray, List.set_cons_zero, List.set_cons_succ]
                  refine wpAnyH_take (i := 2) (oi := ⟨some 146, _, _, _, _, _⟩) (v := ?_) rfl (by kernel_rfl) (by kernel_rfl) (by kernel_rfl) (fun _ _ _ h => h) (Or.inl ⟨by rfl, ?_⟩) (by assumption) ?_
                  rotate_left
                  · (intro w hSw; (try dsimp only at hSw); go_simp; try with_reducible rfl)
                  try simp only [Act.put, List.setIfInBounds_toArray, List.set_cons_zero, List.set_cons_succ]
                  refine wpAnyH_take (i := 6) (oi := ⟨some 150, _, _, _, _, _⟩) (v := ?_) rfl (by kernel_rfl) (by kernel_rfl) (by kernel_rfl) (fun _ _ _ h => h) (Or.inl ⟨by rfl, ?_⟩) (by assumption) ?_
                  rotate_left
                  · (intro w hSw; (try dsimp only at hSw); go_simp; try with_reducible rfl)
                  try simp only [Act.put, List.setIfInBounds_toArray, List.set_cons_zero, List.set_cons_succ]
                  refine wpAnyH_take (i := 9) (oi := ⟨some 153, _, _, _, _, _⟩) (v := ?_) rfl (by kernel_rfl) (by kernel_rfl) (by kernel_rfl) (fun _ _ _ h => h) (Or.inl ⟨by rfl, ?_⟩) (by assumption) ?_
                  rotate_left
                  · (intro w hSw; (try dsimp only at hSw); go_simp; try with_reducible rfl)
                  try simp only [Act.put, List.setIfInBounds_toArray, List.set_cons_zero, List.set_cons_succ]
                  refine wpAnyH_take (i := 10) (oi := ⟨some 154, _, _, _, _, _⟩) (v := ?_) rfl (by kernel_rfl) (by kernel_rfl) (by kernel_rfl) (fun _ _ _ h => h) (Or.inl ⟨by rfl, ?_⟩) (by assumption) ?_
                  rotate_left
                  · (intro w hSw; (try dsimp only at hSw); go_simp; try with_reducible rfl)
                  try simp only [Act.put, List.setIfInBounds_toArray, List.set_cons_zero, List.set_cons_succ]
                  refine wpAnyH_ready (rs := [1]) (by kernel_rfl) (by simp) ?_
                  refine AllReadyH.cons (o := ⟨some 145, _, _, _, _, _⟩) rfl (fun K hK => ?_) AllReadyH.nil
                  go_simp
                  refine (names_any _).mono ?_
                  rintro e w3 ⟨rfl, hw3⟩
                  obtain ⟨f3, b3⟩ := names_fact hw3
                  have x3 : w3.cell? ⟨w6.heap.size, a, none⟩ = some (encS (nm a)) := f3 a ha8
                  have NT := NT0.out.far b3
                  have TB := TB0.out.past b3 TB0.out.lt
                  clear hw3 f3
                  go_wp2_with fail
                  refine hK.out _ _ ?_ (fun hHeld => ?_)
                  · (try dsimp only); all_goals trivial
                  clear hK K
                  try simp only [Act.put, List.setIfInBounds_toArray, List.set_cons_zero, List.set_cons_succ]
                  refine wpAnyH_take (i := 3) (oi := ⟨some 147, _, _, _, _, _⟩) (v := ?_) rfl (by kernel_rfl) (by kernel_rfl) (by kernel_rfl) (fun _ _ _ h => h) (Or.inl ⟨by rfl, ?_⟩) (by assumption) ?_
                  rotate_left
                  · (intro w hSw; (try dsimp only at hSw); go_simp; try with_reducible rfl)
                  try simp only [Act.put, List.setIfInBounds_toArray, List.set_cons_zero, List.set_cons_succ]
                  refine wpAnyH_ready (rs := [4, 5]) (by kernel_rfl) (by simp) ?_
                  refine AllReadyH.cons (o := ⟨some 148, _, _, _, _, _⟩) rfl (fun K hK => ?_) ?_
                  · skip
                    go_simp
                    refine hK.out _ _ ?_ (fun hHeld => ?_)
                    · (try dsimp only); all_goals trivial
                    clear hK K
                    try simp only [Act.put, List.setIfInBounds_toArray, List.set_cons_zero, List.set_cons_succ]
                    refine wpAnyH_ready (rs := [5]) (by kernel_rfl) (by simp) ?_
                    refine AllReadyH.cons (o := ⟨some 149, _, _, _, _, _⟩) rfl (fun K hK => ?_) AllReadyH.nil
                    go_simp
                    refine (names_any _).mono ?_
                    rintro e wq ⟨rfl, hw4⟩
                    obtain ⟨f4, b4⟩ := names_fact hw4
                    have y4 := f4 b hb8
                    have x3 : wq.cell? ⟨w6.heap.size, a, none⟩ = some (encS (nm a)) := (b4.cell (p := ⟨w6.heap.size, a, none⟩) (cell_ltO x3)).trans x3
                    have NT := NT.far b4
                    have TB := TB.past b4 TB.lt
                    clear hw4 f4
                    go_wp2_with fail
                    refine hK.out _ _ ?_ (fun hHeld => ?_)
                    · (try dsimp only); all_goals trivial
                    clear hK K
                    try simp only [Act.put, List.setIfInBounds_toArray, List.set_cons_zero, List.set_cons_succ]
                    refine wpAnyH_take (i := 7) (oi := ⟨some 151, _, _, _, _, _⟩) (v := ?_) rfl (by kernel_rfl) (by kernel_rfl) (by kernel_rfl) (fun _ _ _ h => h) (Or.inl ⟨by rfl, ?_⟩) (by assumption) ?_
                    rotate_left
                    · (intro w hSw; (try dsimp only at hSw); go_simp; try with_reducible rfl)
                    try simp only [Act.put, List.setIfInBounds_toArray, List.set_cons_zero, List.set_cons_succ]
                    refine wpAnyH_ready (rs := [8]) (by kernel_rfl) (by simp) ?_
                    refine AllReadyH.cons (o := ⟨some 152, _, _, _, _, _⟩) rfl (fun K hK => ?_) AllReadyH.nil
                    go_simp
                    refine hK.out _ _ ?_ (fun hHeld => ?_)
                    · (try dsimp only); all_goals trivial
                    clear hK K
                    try simp only [Act.put, List.setIfInBounds_toArray, List.set_cons_zero, List.set_cons_succ]
                    refine wpAnyH_ready (rs := [11]) (by kernel_rfl) (by simp) ?_
                    refine AllReadyH.cons (o := ⟨some 155, _, _, _, _, _⟩) rfl (fun K hK => ?_) AllReadyH.nil
                    go_simp
                    refine (HPB.out _ NT).mono ?_
                    rintro e w5 ⟨v, z, rfl, hq, b5⟩
                    have TB := TB.past b5 TB.lt
                    have NT := NT.far b5
                    go_wp2_with fail
                    refine hK.out _ _ ?_ (fun hHeld => ?_)
                    · (try dsimp only); all_goals trivial
                    clear hK K
                    try simp only [Act.put, List.setIfInBounds_toArray, List.set_cons_zero, List.set_cons_succ]
                    refine wpAnyH_take (i := 12) (oi := ⟨some 143, _, _, _, _, _⟩) (v := ?_) rfl (by kernel_rfl) (by kernel_rfl) (by kernel_rfl) (fun _ _ _ h => h) (Or.inl ⟨by rfl, ?_⟩) (by assumption) ?_
                    rotate_left
                    · (intro w hSw; (try dsimp only at hSw); go_simp; try with_reducible rfl)
                    try simp only [Act.put, List.setIfInBounds_toArray, List.set_cons_zero, List.set_cons_succ]
                    refine wpAnyH_take (i := 13) (oi := ⟨some 156, _, _, _, _, _⟩) (v := ?_) rfl (by kernel_rfl) (by kernel_rfl) (by kernel_rfl) (fun _ _ _ h => h) (Or.inl ⟨by rfl, ?_⟩) (by assumption) ?_
                    rotate_left
                    · (intro w hSw; (try dsimp only at hSw); go_simp; try with_reducible rfl)
                    try simp only [Act.put, List.setIfInBounds_toArray, List.set_cons_zero, List.set_cons_succ]
                    refine wpAnyH_take (i := 14) (oi := ⟨some 157, _, _, _, _, _⟩) (v := ?_) rfl (by kernel_rfl) (by kernel_rfl) (by kernel_rfl) (fun _ _ _ h => h) (Or.inl ⟨by rfl, ?_⟩) (by assumption) ?_
                    rotate_left
                    · (intro w hSw; (try dsimp only at hSw); go_simp; try with_reducible rfl)
                    try simp only [Act.put, List.setIfInBounds_toArray, List.set_cons_zero, List.set_cons_succ]
                    refine wpAnyH_take (i := 15) (oi := ⟨some 24, _, _, _, _, _⟩) (v := ?_) rfl (by kernel_rfl) (by kernel_rfl) (by kernel_rfl) (fun _ _ _ h => h) (Or.inl ⟨by rfl, ?_⟩) (by assumption) ?_
                    rotate_left
                    · (intro w hSw; (try dsimp only at hSw); go_simp; try with_reducible rfl)
                    try simp only [Act.put, List.setIfInBounds_toArray, List.set_cons_zero, List.set_cons_succ]
                    refine wpAnyH_take (i := 16) (oi := ⟨some 25, _, _, _, _, _⟩) (v := ?_) rfl (by kernel_rfl) (by kernel_rfl) (by kernel_rfl) (fun _ _ _ h => h) (Or.inl ⟨by rfl, ?_⟩) (by assumption) ?_
                    rotate_left
                    · (intro w hSw; (try dsimp only at hSw); go_simp; try with_reducible rfl)
                    try simp only [Act.put, List.setIfInBounds_toArray, List.set_cons_zero, List.set_cons_succ]
                    refine wpAnyH_done (by kernel_rfl) ?_ _
                    go_wp2_with fail
                    go_meet
                    exact ⟨⟨_, rfl, hq⟩, NT, TB⟩
                  refine AllReadyH.cons (o := ⟨some 149, _, _, _, _, _⟩) rfl (fun K hK => ?_) AllReadyH.nil
                  go_simp
                  refine (names_any _).mono ?_
                  rintro e wq ⟨rfl, hw4⟩
                  obtain ⟨f4, b4⟩ := names_fact hw4
                  have y4 := f4 b hb8
                  have x3 : wq.cell? ⟨w6.heap.size, a, none⟩ = some (encS (nm a)) := (b4.cell (p := ⟨w6.heap.size, a, none⟩) (cell_ltO x3)).trans x3
                  have NT := NT.far b4
                  have TB := TB.past b4 TB.lt
                  clear hw4 f4
                  go_wp2_with fail
                  refine hK.out _ _ ?_ (fun hHeld => ?_)
                  · (try dsimp only); all_goals trivial
                  clear hK K
                  try simp only [Act.put, List.setIfInBounds_toArray, List.set_cons_zero, List.set_cons_succ]
                  refine wpAnyH_take (i := 7) (oi := ⟨some 151, _, _, _, _, _⟩) (v := ?_) rfl (by kernel_rfl) (by kernel_rfl) (by kernel_rfl) (fun _ _ _ h => h) (Or.inl ⟨by rfl, ?_⟩) (by assumption) ?_
                  rotate_left
                  · (intro w hSw; (try dsimp only at hSw); go_simp; try with_reducible rfl)
                  try simp only [Act.put, List.setIfInBounds_toArray, List.set_cons_zero, List.set_cons_succ]
                  refine wpAnyH_ready (rs := [4, 8]) (by kernel_rfl) (by simp) ?_
                  refine AllReadyH.cons (o := ⟨some 148, _, _, _, _, _⟩) rfl (fun K hK => ?_) ?_
                  · skip
                    go_simp
                    refine hK.out _ _ ?_ (fun hHeld => ?_)
                    · (try dsimp only); all_goals trivial
                    clear hK K
                    try simp only [Act.put, List.setIfInBounds_toArray, List.set_cons_zero, List.set_cons_succ]
                    refine wpAnyH_ready (rs := [8]) (by kernel_rfl) (by simp) ?_
                    refine AllReadyH.cons (o := ⟨some 152, _, _, _, _, _⟩) rfl (fun K hK => ?_) AllReadyH.nil
                    go_simp
                    refine hK.out _ _ ?_ (fun hHeld => ?_)
                    · (try dsimp only); all_goals trivial
                    clear hK K
                    try simp only [Act.put, List.setIfInBounds_toArray, List.set_cons_zero, List.set_cons_succ]
                    refine wpAnyH_ready (rs := [11]) (by kernel_rfl) (by simp) ?_
                    refine AllReadyH.cons (o := ⟨some 155, _, _, _, _, _⟩) rfl (fun K hK => ?_) AllReadyH.nil
                    go_simp
                    refine (HPB.out _ NT).mono ?_
                    rintro e w5 ⟨v, z, rfl, hq, b5⟩
                    have TB := TB.past b5 TB.lt
                    have NT := NT.far b5
                    go_wp2_with fail
                    refine hK.out _ _ ?_ (fun hHeld => ?_)
                    · (try dsimp only); all_goals trivial
                    clear hK K
                    try simp only [Act.put, List.setIfInBounds_toArray, List.set_cons_zero, List.set_cons_succ]
                    refine wpAnyH_take (i := 12) (oi := ⟨some 143, _, _, _, _, _⟩) (v := ?_) rfl (by kernel_rfl) (by kernel_rfl) (by kernel_rfl) (fun _ _ _ h => h) (Or.inl ⟨by rfl, ?_⟩) (by assumption) ?_
                    rotate_left
                    · (intro w hSw; (try dsimp only at hSw); go_simp; try with_reducible rfl)
                    try simp only [Act.put, List.setIfInBounds_toArray, List.set_cons_zero, List.set_cons_succ]
                    refine wpAnyH_take (i := 13) (oi := ⟨some 156, _, _, _, _, _⟩) (v := ?_) rfl (by kernel_rfl) (by kernel_rfl) (by kernel_rfl) (fun _ _ _ h => h) (Or.inl ⟨by rfl, ?_⟩) (by assumption) ?_
                    rotate_left
                    · (intro w hSw; (try dsimp only at hSw); go_simp; try with_reducible rfl)
                    try simp only [Act.put, List.setIfInBounds_toArray, List.set_cons_zero, List.set_cons_succ]
                    refine wpAnyH_take (i := 14) (oi := ⟨some 157, _, _, _, _, _⟩) (v := ?_) rfl (by kernel_rfl) (by kernel_rfl) (by kernel_rfl) (fun _ _ _ h => h) (Or.inl ⟨by rfl, ?_⟩) (by assumption) ?_
                    rotate_left
                    · (intro w hSw; (try dsimp only at hSw); go_simp; try with_reducible rfl)
                    try simp only [Act.put, List.setIfInBounds_toArray, List.set_cons_zero, List.set_cons_succ]
                    refine wpAnyH_take (i := 15) (oi := ⟨some 24, _, _, _, _, _⟩) (v := ?_) rfl (by kernel_rfl) (by kernel_rfl) (by kernel_rfl) (fun _ _ _ h => h) (Or.inl ⟨by rfl, ?_⟩) (by assumption) ?_
                    rotate_left
                    · (intro w hSw; (try dsimp only at hSw); go_simp; try with_reducible rfl)
                    try simp only [Act.put, List.setIfInBounds_toArray, List.set_cons_zero, List.set_cons_succ]
                    refine wpAnyH_take (i := 16) (oi := ⟨some 25, _, _, _, _, _⟩) (v := ?_) rfl (by kernel_rfl) (by kernel_rfl) (by kernel_rfl) (fun _ _ _ h => h) (Or.inl ⟨by rfl, ?_⟩) (by assumption) ?_
                    rotate_left
                    · (intro w hSw; (try dsimp only at hSw); go_simp; try with_reducible rfl)
                    try simp only [Act.put, List.setIfInBounds_toArray, List.set_cons_zero, List.set_cons_succ]
                    refine wpAnyH_done (by kernel_rfl) ?_ _
                    go_wp2_with fail
                    go_meet
                    exact ⟨⟨_, rfl, hq⟩, NT, TB⟩
                  refine AllReadyH.cons (o := ⟨some 152, _, _, _, _, _⟩) rfl (fun K hK => ?_) AllReadyH.nil
                  go_simp
                  refine hK.out _ _ ?_ (fun hHeld => ?_)
                  · (try dsimp only); all_goals trivial
                  clear hK K
                  try simp only [Act.put, List.setIfInBounds_toArray, List.set_cons_zero, List.set_cons_succ]
                  refine wpAnyH_ready (rs := [4]) (by kernel_rfl) (by simp) ?_
                  refine AllReadyH.cons (o := ⟨some 148, _, _, _, _, _⟩) rfl (fun K hK => ?_) AllReadyH.nil
                  go_simp
                  refine hK.out _ _ ?_ (fun hHeld => ?_)
                  · (try dsimp only); all_goals trivial
                  clear hK K
                  try simp only [Act.put, List.setIfInBounds_toArray, List.set_cons_zero, List.set_cons_succ]
                  refine wpAnyH_ready (rs := [11]) (by kernel_rfl) (by simp) ?_
                  refine AllReadyH.cons (o := ⟨some 155, _, _, _, _, _⟩) rfl (fun K hK => ?_) AllReadyH.nil
                  go_simp
                  refine (HPB.out _ NT).mono ?_
                  rintro e w5 ⟨v, z, rfl, hq, b5⟩
                  have TB := TB.past b5 TB.lt
                  have NT := NT.far b5
                  go_wp2_with fail
                  refine hK.out _ _ ?_ (fun hHeld => ?_)
                  · (try dsimp only); all_goals trivial
                  clear hK K
                  try simp only [Act.put, List.setIfInBounds_toArray, List.set_cons_zero, List.set_cons_succ]
                  refine wpAnyH_take (i := 12) (oi := ⟨some 143, _, _, _, _, _⟩) (v := ?_) rfl (by kernel_rfl) (by kernel_rfl) (by kernel_rfl) (fun _ _ _ h => h) (Or.inl ⟨by rfl, ?_⟩) (by assumption) ?_
                  rotate_left
                  · (intro w hSw; (try dsimp only at hSw); go_simp; try with_reducible rfl)
                  try simp only [Act.put, List.setIfInBounds_toArray, List.set_cons_zero, List.set_cons_succ]
                  refine wpAnyH_take (i := 13) (oi := ⟨some 156, _, _, _, _, _⟩) (v := ?_) rfl (by kernel_rfl) (by kernel_rfl) (by kernel_rfl) (fun _ _ _ h => h) (Or.inl ⟨by rfl, ?_⟩) (by assumption) ?_
                  rotate_left
                  · (intro w hSw; (try dsimp only at hSw); go_simp; try with_reducible rfl)
                  try simp only [Act.put, List.setIfInBounds_toArray, List.set_cons_zero, List.set_cons_succ]
                  refine wpAnyH_take (i := 14) (oi := ⟨some 157, _, _, _, _, _⟩) (v := ?_) rfl (by kernel_rfl) (by kernel_rfl) (by kernel_rfl) (fun _ _ _ h => h) (Or.inl ⟨by rfl, ?_⟩) (by assumption) ?_
                  rotate_left
                  · (intro w hSw; (try dsimp only at hSw); go_simp; try with_reducible rfl)
                  try simp only [Act.put, List.setIfInBounds_toArray, List.set_cons_zero, List.set_cons_succ]
                  refine wpAnyH_take (i := 15) (oi := ⟨some 24, _, _, _, _, _⟩) (v := ?_) rfl (by kernel_rfl) (by kernel_rfl) (by kernel_rfl) (fun _ _ _ h => h) (Or.inl ⟨by rfl, ?_⟩) (by assumption) ?_
                  rotate_left
                  · (intro w hSw; (try dsimp only at hSw); go_simp; try with_reducible rfl)
                  try simp only [Act.put, List.setIfInBounds_toArray, List.set_cons_zero, List.set_cons_succ]
                  refine wpAnyH_take (i := 16) (oi := ⟨some 25, _, _, _, _, _⟩) (v := ?_) rfl (by kernel_rfl) (by kernel_rfl) (by kernel_rfl) (fun _ _ _ h => h) (Or.inl ⟨by rfl, ?_⟩) (by assumption) ?_
                  rotate_left
                  · (intro w hSw; (try dsimp only at hSw); go_simp; try with_reducible rfl)
                  try simp only [Act.put, List.setIfInBounds_toArray, List.set_cons_zero, List.set_cons_succ]
                  refine wpAnyH_done (by kernel_rfl) ?_ _
                  go_wp2_with fail
                  go_meet
                  exact ⟨⟨_, rfl, hq⟩, NT, TB⟩
                case rest =>
                  obtain ⟨w7, rfl⟩ : ∃ z : World, z = wc := ⟨_, rfl⟩
                  obtain ⟨⟨z, rfl, hq⟩, hnt, htb⟩ := hcut
                  clear HNT HTB NT0 TB0 HPB
                  have HNT := Lib.hid hnt; have HTB := Lib.hid htb
                  clear hnt htb
                  rcases hq with ⟨hMk, rfl⟩ | ⟨hkM, rfl, hlen, hdj, hrows⟩
                  · have hMki : (M : Int) < (k : Int) := by omega
                    go_wp2_with fail
                    go_roundw
                    case rel => exact ⟨k + 1, by omega, by omega, by go_num, HNT.out, HTB.out⟩
                    case measure => simp [intOf] <;> omega
                  · have hMki : ¬ (M : Int) < (k : Int) := by omega
                    have HDJ := Lib.hid hdj
                    have HLEN := Lib.hid hlen
                    obtain ⟨gp, cap, cur, rfl, hcap, hbk, hget⟩ := hrows
                    have hgl := hbk.lt
                    rw [List.length_map, hlen] at hcap ⊢
                    have HROW : Hid (∀ i p, ps[i]? = some p → ∃ u, w7.cell? ⟨gp, i, none⟩ = some u ∧ NmRow w7 u (p.map nm)) := Lib.hid fun i p hp => by
                      obtain ⟨u, q1, q2⟩ := hget i (p.map nm) (by rw [List.getElem?_map, hp]; rfl)
                      exact ⟨u, by rw [hbk.cell, q1], q2⟩
                    clear hdj hlen hbk hget
                    have HF7 : Hid (Below w7.heap.size w7 w7) := Lib.hid (Below.refl _ _)
                    go_wp2_with fail
                    go_loopg [26, 27, 28, 29, 30] 5 (fun g' uv sv iv _ _ wr => ∃ (i U : Nat) (s : Bool), i ≤ k ∧ k - i < g' ∧ iv = .int .i64 i ∧ uv = .int .i64 U ∧ sv = .bool s ∧ U = usedN (ps.take i) ∧ s = strB (ps.take i) ∧ NetNew w sN N bn bl wr ∧ Bk wr X (stV st) 25 ∧ Below w7.heap.size w7 wr)
                    case atStart => exact ⟨0, 0, false, Nat.zero_le _, by omega, rfl, rfl, rfl, rfl, rfl, HNT.out, HTB.out, HF7.out⟩
                    case round =>
                      obtain ⟨i, U, s, hik, hg2, rfl, rfl, rfl, hU, hs, hnt, htb, hbl⟩ := hrel
                      obtain ⟨g', rfl⟩ : ∃ g', gk = g' + 1 := ⟨gk - 1, by omega⟩
                      obtain ⟨wi, rfl⟩ : ∃ z : World, z = wr := ⟨_, rfl⟩
                      clear HNT HTB HF7
                      have HNT := Lib.hid hnt; have HTB := Lib.hid htb; have HBL := Lib.hid hbl
                      have HU := Lib.hid hU; have HSS := Lib.hid hs
                      have hn8 : (graphG sN x).n = 8 := HSM.out.len8
                      have hU256 : U < 256 := by rw [hU]; exact usedN_lt HDJ.out (by omega) hn8 i
                      clear hnt htb hbl hU hs
                      by_cases hlt : i < k
                      · have hki2 : (i : Int) < (k : Int) := by omega
                        obtain ⟨p, hp⟩ : ∃ p, ps[i]? = some p := ⟨_, List.getElem?_eq_getElem (by rw [HLEN.out]; exact hlt)⟩
                        obtain ⟨u, hu, hur⟩ := HROW.out i p hp
                        have CU0 : Hid (wi.drew.cell? ⟨gp, i, none⟩ = some u) := Lib.hid ((HBL.out.cell (p := ⟨gp, i, none⟩) hgl).trans hu)
                        have hpm := List.mem_of_getElem? hp
                        have HG := Lib.hid (HSM.out.good ha8 (HDJ.out.each p hpm))
                        have HMK : Hid (maskN (relays p) < 256) := Lib.hid (maskN_lt _ fun y hy => by have := relays_lt (HDJ.out.each p hpm) (by omega) y hy; omega)
                        have HUR := Lib.hid (hur.far HBL.out)
                        have HPT : Hid (∀ W, Below wi.heap.size wi W → Calls Try.prog 11 #[.agg (stV st), u, encS (nm a), encS (nm b), .int .i64 x] W (PathP p W)) := Lib.hid fun W hW => path_any st HSM.out.len p a b x HG.out (HUR.out.far hW)
                        obtain ⟨st1, st2⟩ := HDJ.out.step hp
                        rw [← HU.out] at st1
                        rw [← HSS.out] at st2
                        have HUN : Hid (U ||| maskN (relays p) = usedN (ps.take (i + 1))) := Lib.hid (by
                          rw [List.take_add_one, hp]
                          show _ = usedN (ps.take i ++ [p])
                          rw [usedN_snoc, ← HU.out])
                        have HSN : Hid ((s || decide (p.length = 2)) = strB (ps.take (i + 1))) := Lib.hid (by
                          rw [List.take_add_one, hp]
                          show _ = strB (ps.take i ++ [p])
                          rw [strB_snoc, ← HSS.out])
                        have hz := mask_zero HG.out.len
                        have hand := mask_ands p U HMK.out hU256 st1
                        have hor := i64_or_n U (maskN (relays p)) (by omega) (by have := HMK.out; omega)
                        obtain ⟨Q, hQ⟩ : ∃ Q, Q = maskN (relays p) := ⟨_, rfl⟩
                        obtain ⟨U', hU'⟩ : ∃ U', U' = U ||| maskN (relays p) := ⟨_, rfl⟩
                        rw [← hU'] at HUN hor
                        rw [← hQ] at hand hor hz
                        have HQ := Lib.hid hQ; have HAND := Lib.hid hand; have HOR := Lib.hid hor; have HZ := Lib.hid hz; have HST := Lib.hid st2
                        clear hU' hQ hand hor hz st1 st2 hp hu hur hpm
                        go_upto_region 38 with fail
                        have NT0 : Hid (NetNew w sN N bn bl wi.drew) := Lib.hid (HNT.out.far (Qw.below ⟨1, rfl⟩ _)); have TB0 : Hid (Bk wi.drew X (stV st) 25) := Lib.hid HTB.out
                        go_cut [29, 30] from 176 to 193 (fun v29 v30 wc => v29 = .int .i64 Q ∧ v30 = .bool true ∧ NetNew w sN N bn bl wc ∧ Bk wc X (stV st) 25 ∧ Below wi.heap.size wi wc)
                        case first =>
                          refine wp_region_held_drew (S := (fun W => Bk W X (stV st) 25 ∧ W.cell? ⟨gp, i, none⟩ = some u)) (by kernel_rfl) ?_ (fun hHeld => ?_)
                          · (try dsimp only); first | exact ⟨TB, CU⟩ | exact ⟨TB0.out, CU0.out⟩
                          refine wpAnyH_take (i := 0) (oi := ⟨some 177, _, _, _, _, _⟩) (v := .agg (stV st)) rfl (by kernel_rfl) (by kernel_rfl) (by kernel_rfl) (fun _ _ _ h => h) (Or.inl ⟨by rfl, ?_⟩) (by assumption) ?_
                          · (intro w hSw; (try dsimp only at hSw); exact run_load_64 _ rfl X rfl (stV st) hSw.1 HIN.out)
                          try simp only [Act.put, List.setIfInBounds_toArray, List.set_cons_zero, List.set_cons_succ]
                          refine wpAnyH_take (i := 1) (oi := ⟨some 178, _, _, _, _, _⟩) (v := ?_) rfl (by kernel_rfl) (by kernel_rfl) (by kernel_rfl) (fun _ _ _ h => h) (Or.inl ⟨by rfl, ?_⟩) (by assumption) ?_
                          rotate_left
                          · (intro w hSw; (try dsimp only at hSw); go_simp; try with_reducible rfl)
                          try simp only [Act.put, List.setIfInBounds_toArray, List.set_cons_zero, List.set_cons_succ]
                          refine wpAnyH_take (i := 2) (oi := ⟨some 179, _, _, _, _, _⟩) (v := ?_) rfl (by kernel_rfl) (by kernel_rfl) (by kernel_rfl) (fun _ _ _ h => h) (Or.inl ⟨by rfl, ?_⟩) (by assumption) ?_
                          rotate_left
                          · (intro w hSw; (try dsimp only at hSw); go_simp; try with_reducible rfl)
                          try simp only [Act.put, List.setIfInBounds_toArray, List.set_cons_zero, List.set_cons_succ]
                          refine wpAnyH_take (i := 3) (oi := ⟨some 180, _, _, _, _, _⟩) (v := ?_) rfl (by kernel_rfl) (by kernel_rfl) (by kernel_rfl) (fun _ _ _ h => h) (Or.inl ⟨by rfl, ?_⟩) (by assumption) ?_
                          rotate_left
                          · (intro w hSw; (try dsimp only at hSw); go_simp; try with_reducible rfl)
                          try simp only [Act.put, List.setIfInBounds_toArray, List.set_cons_zero, List.set_cons_succ]
                          refine wpAnyH_take (i := 4) (oi := ⟨some 181, _, _, _, _, _⟩) (v := ?_) rfl (by kernel_rfl) (by kernel_rfl) (by kernel_rfl) (fun _ _ _ h => h) (Or.inl ⟨by rfl, ?_⟩) (by assumption) ?_
                          rotate_left
                          · (intro w hSw; (try dsimp only at hSw); go_simp; try with_reducible rfl)
                          try simp only [Act.put, List.setIfInBounds_toArray, List.set_cons_zero, List.set_cons_succ]
                          refine wpAnyH_take (i := 6) (oi := ⟨some 183, _, _, _, _, _⟩) (v := ?_) rfl (by kernel_rfl) (by kernel_rfl) (by kernel_rfl) (fun _ _ _ h => h) (Or.inl ⟨by rfl, ?_⟩) (by assumption) ?_
                          rotate_left
                          · (intro w hSw; (try dsimp only at hSw); go_simp; try with_reducible rfl)
                          try simp only [Act.put, List.setIfInBounds_toArray, List.set_cons_zero, List.set_cons_succ]
                          refine wpAnyH_take (i := 10) (oi := ⟨some 187, _, _, _, _, _⟩) (v := ?_) rfl (by kernel_rfl) (by kernel_rfl) (by kernel_rfl) (fun _ _ _ h => h) (Or.inl ⟨by rfl, ?_⟩) (by assumption) ?_
                          rotate_left
                          · (intro w hSw; (try dsimp only at hSw); go_simp; try with_reducible rfl)
                          try simp only [Act.put, List.setIfInBounds_toArray, List.set_cons_zero, List.set_cons_succ]
                          refine wpAnyH_take (i := 13) (oi := ⟨some 190, _, _, _, _, _⟩) (v := ?_) rfl (by kernel_rfl) (by kernel_rfl) (by kernel_rfl) (fun _ _ _ h => h) (Or.inl ⟨by rfl, ?_⟩) (by assumption) ?_
                          rotate_left
                          · (intro w hSw; (try dsimp only at hSw); go_simp; try with_reducible rfl)
                          try simp only [Act.put, List.setIfInBounds_toArray, List.set_cons_zero, List.set_cons_succ]
                          refine wpAnyH_ready (rs := [5]) (by kernel_rfl) (by simp) ?_
                          refine AllReadyH.cons (o := ⟨some 182, _, _, _, _, _⟩) rfl (fun K hK => ?_) AllReadyH.nil
                          go_simp
                          refine (names_any _).mono ?_
                          rintro e w3 ⟨rfl, hw3⟩
                          obtain ⟨f3, b3⟩ := names_fact hw3
                          have x3 : w3.cell? ⟨wi.heap.size, a, none⟩ = some (encS (nm a)) := f3 a ha8
                          have NT := NT0.out.far b3
                          have TB := TB0.out.past b3 TB0.out.lt
                          have CU := (b3.cell (p := ⟨gp, i, none⟩) (cell_ltO CU0.out)).trans CU0.out
                          have BI : Below wi.heap.size wi w3 := bnextK (Qw.below ⟨1, rfl⟩ _) b3
                          clear hw3 f3
                          go_wp2_with fail
                          refine hK.out _ _ ?_ (fun hHeld => ?_)
                          · (try dsimp only); first | exact ⟨TB, CU⟩ | exact ⟨TB0.out, CU0.out⟩
                          clear hK K
                          try simp only [Act.put, List.setIfInBounds_toArray, List.set_cons_zero, List.set_cons_succ]
                          refine wpAnyH_take (i := 7) (oi := ⟨some 184, _, _, _, _, _⟩) (v := ?_) rfl (by kernel_rfl) (by kernel_rfl) (by kernel_rfl) (fun _ _ _ h => h) (Or.inl ⟨by rfl, ?_⟩) (by assumption) ?_
                          rotate_left
                          · (intro w hSw; (try dsimp only at hSw); go_simp; try with_reducible rfl)
                          try simp only [Act.put, List.setIfInBounds_toArray, List.set_cons_zero, List.set_cons_succ]
                          refine wpAnyH_ready (rs := [8, 9]) (by kernel_rfl) (by simp) ?_
                          refine AllReadyH.cons (o := ⟨some 185, _, _, _, _, _⟩) rfl (fun K hK => ?_) ?_
                          · skip
                            go_simp
                            refine hK.out _ _ ?_ (fun hHeld => ?_)
                            · (try dsimp only); first | exact ⟨TB, CU⟩ | exact ⟨TB0.out, CU0.out⟩
                            clear hK K
                            try simp only [Act.put, List.setIfInBounds_toArray, List.set_cons_zero, List.set_cons_succ]
                            refine wpAnyH_ready (rs := [9]) (by kernel_rfl) (by simp) ?_
                            refine AllReadyH.cons (o := ⟨some 186, _, _, _, _, _⟩) rfl (fun K hK => ?_) AllReadyH.nil
                            go_simp
                            refine (names_any _).mono ?_
                            rintro e wq ⟨rfl, hw4⟩
                            obtain ⟨f4, b4⟩ := names_fact hw4
                            have y4 := f4 b hb8
                            have x3 : wq.cell? ⟨wi.heap.size, a, none⟩ = some (encS (nm a)) := (b4.cell (p := ⟨wi.heap.size, a, none⟩) (cell_ltO x3)).trans x3
                            have NT := NT.far b4
                            have TB := TB.past b4 TB.lt
                            have CU := (b4.cell (p := ⟨gp, i, none⟩) (cell_ltO CU)).trans CU
                            have BI := bnextK BI b4
                            clear hw4 f4
                            go_wp2_with fail
                            refine hK.out _ _ ?_ (fun hHeld => ?_)
                            · (try dsimp only); first | exact ⟨TB, CU⟩ | exact ⟨TB0.out, CU0.out⟩
                            clear hK K
                            try simp only [Act.put, List.setIfInBounds_toArray, List.set_cons_zero, List.set_cons_succ]
                            refine wpAnyH_take (i := 11) (oi := ⟨some 188, _, _, _, _, _⟩) (v := ?_) rfl (by kernel_rfl) (by kernel_rfl) (by kernel_rfl) (fun _ _ _ h => h) (Or.inl ⟨by rfl, ?_⟩) (by assumption) ?_
                            rotate_left
                            · (intro w hSw; (try dsimp only at hSw); go_simp; try with_reducible rfl)
                            try simp only [Act.put, List.setIfInBounds_toArray, List.set_cons_zero, List.set_cons_succ]
                            refine wpAnyH_ready (rs := [12]) (by kernel_rfl) (by simp) ?_
                            refine AllReadyH.cons (o := ⟨some 189, _, _, _, _, _⟩) rfl (fun K hK => ?_) AllReadyH.nil
                            go_simp
                            refine hK.out _ _ ?_ (fun hHeld => ?_)
                            · (try dsimp only); first | exact ⟨TB, CU⟩ | exact ⟨TB0.out, CU0.out⟩
                            clear hK K
                            try simp only [Act.put, List.setIfInBounds_toArray, List.set_cons_zero, List.set_cons_succ]
                            refine wpAnyH_ready (rs := [14]) (by kernel_rfl) (by simp) ?_
                            refine AllReadyH.cons (o := ⟨some 191, _, _, _, _, _⟩) rfl (fun K hK => ?_) AllReadyH.nil
                            go_simp
                            refine (HPT.out _ BI).mono ?_
                            rintro e w5 ⟨⟨z, hz, rfl⟩, b5⟩
                            rw [← HQ.out] at hz
                            subst hz
                            have TB := TB.past b5 TB.lt
                            have NT := NT.far b5
                            have CU := (b5.cell (p := ⟨gp, i, none⟩) (cell_ltO CU)).trans CU
                            have BI := bnextK BI b5
                            go_wp2_with fail
                            refine hK.out _ _ ?_ (fun hHeld => ?_)
                            · (try dsimp only); first | exact ⟨TB, CU⟩ | exact ⟨TB0.out, CU0.out⟩
                            clear hK K
                            try simp only [Act.put, List.setIfInBounds_toArray, List.set_cons_zero, List.set_cons_succ]
                            refine wpAnyH_take (i := 15) (oi := ⟨some 176, _, _, _, _, _⟩) (v := ?_) rfl (by kernel_rfl) (by kernel_rfl) (by kernel_rfl) (fun _ _ _ h => h) (Or.inl ⟨by rfl, ?_⟩) (by assumption) ?_
                            rotate_left
                            · (intro w hSw; (try dsimp only at hSw); go_simp; try with_reducible rfl)
                            try simp only [Act.put, List.setIfInBounds_toArray, List.set_cons_zero, List.set_cons_succ]
                            refine wpAnyH_take (i := 16) (oi := ⟨some 192, _, _, _, _, _⟩) (v := ?_) rfl (by kernel_rfl) (by kernel_rfl) (by kernel_rfl) (fun _ _ _ h => h) (Or.inl ⟨by rfl, ?_⟩) (by assumption) ?_
                            rotate_left
                            · (intro w hSw; (try dsimp only at hSw); go_simp; try with_reducible rfl)
                            try simp only [Act.put, List.setIfInBounds_toArray, List.set_cons_zero, List.set_cons_succ]
                            refine wpAnyH_take (i := 17) (oi := ⟨some 193, _, _, _, _, _⟩) (v := ?_) rfl (by kernel_rfl) (by kernel_rfl) (by kernel_rfl) (fun _ _ _ h => h) (Or.inl ⟨by rfl, ?_⟩) (by assumption) ?_
                            rotate_left
                            · (intro w hSw; (try dsimp only at hSw); go_simp; try with_reducible rfl)
                            try simp only [Act.put, List.setIfInBounds_toArray, List.set_cons_zero, List.set_cons_succ]
                            refine wpAnyH_take (i := 18) (oi := ⟨some 29, _, _, _, _, _⟩) (v := ?_) rfl (by kernel_rfl) (by kernel_rfl) (by kernel_rfl) (fun _ _ _ h => h) (Or.inl ⟨by rfl, ?_⟩) (by assumption) ?_
                            rotate_left
                            · (intro w hSw; (try dsimp only at hSw); go_simp; try with_reducible rfl)
                            try simp only [Act.put, List.setIfInBounds_toArray, List.set_cons_zero, List.set_cons_succ]
                            refine wpAnyH_take (i := 19) (oi := ⟨some 30, _, _, _, _, _⟩) (v := ?_) rfl (by kernel_rfl) (by kernel_rfl) (by kernel_rfl) (fun _ _ _ h => h) (Or.inl ⟨by rfl, ?_⟩) (by assumption) ?_
                            rotate_left
                            · (intro w hSw; (try dsimp only at hSw); go_simp; try with_reducible rfl)
                            try simp only [Act.put, List.setIfInBounds_toArray, List.set_cons_zero, List.set_cons_succ]
                            refine wpAnyH_done (by kernel_rfl) ?_ _
                            go_wp2_with fail
                            go_meet
                            exact ⟨rfl, rfl, NT, TB, BI⟩
                          refine AllReadyH.cons (o := ⟨some 186, _, _, _, _, _⟩) rfl (fun K hK => ?_) AllReadyH.nil
                          go_simp
                          refine (names_any _).mono ?_
                          rintro e wq ⟨rfl, hw4⟩
                          obtain ⟨f4, b4⟩ := names_fact hw4
                          have y4 := f4 b hb8
                          have x3 : wq.cell? ⟨wi.heap.size, a, none⟩ = some (encS (nm a)) := (b4.cell (p := ⟨wi.heap.size, a, none⟩) (cell_ltO x3)).trans x3
                          have NT := NT.far b4
                          have TB := TB.past b4 TB.lt
                          have CU := (b4.cell (p := ⟨gp, i, none⟩) (cell_ltO CU)).trans CU
                          have BI := bnextK BI b4
                          clear hw4 f4
                          go_wp2_with fail
                          refine hK.out _ _ ?_ (fun hHeld => ?_)
                          · (try dsimp only); first | exact ⟨TB, CU⟩ | exact ⟨TB0.out, CU0.out⟩
                          clear hK K
                          try simp only [Act.put, List.setIfInBounds_toArray, List.set_cons_zero, List.set_cons_succ]
                          refine wpAnyH_take (i := 11) (oi := ⟨some 188, _, _, _, _, _⟩) (v := ?_) rfl (by kernel_rfl) (by kernel_rfl) (by kernel_rfl) (fun _ _ _ h => h) (Or.inl ⟨by rfl, ?_⟩) (by assumption) ?_
                          rotate_left
                          · (intro w hSw; (try dsimp only at hSw); go_simp; try with_reducible rfl)
                          try simp only [Act.put, List.setIfInBounds_toArray, List.set_cons_zero, List.set_cons_succ]
                          refine wpAnyH_ready (rs := [8, 12]) (by kernel_rfl) (by simp) ?_
                          refine AllReadyH.cons (o := ⟨some 185, _, _, _, _, _⟩) rfl (fun K hK => ?_) ?_
                          · skip
                            go_simp
                            refine hK.out _ _ ?_ (fun hHeld => ?_)
                            · (try dsimp only); first | exact ⟨TB, CU⟩ | exact ⟨TB0.out, CU0.out⟩
                            clear hK K
                            try simp only [Act.put, List.setIfInBounds_toArray, List.set_cons_zero, List.set_cons_succ]
                            refine wpAnyH_ready (rs := [12]) (by kernel_rfl) (by simp) ?_
                            refine AllReadyH.cons (o := ⟨some 189, _, _, _, _, _⟩) rfl (fun K hK => ?_) AllReadyH.nil
                            go_simp
                            refine hK.out _ _ ?_ (fun hHeld => ?_)
                            · (try dsimp only); first | exact ⟨TB, CU⟩ | exact ⟨TB0.out, CU0.out⟩
                            clear hK K
                            try simp only [Act.put, List.setIfInBounds_toArray, List.set_cons_zero, List.set_cons_succ]
                            refine wpAnyH_ready (rs := [14]) (by kernel_rfl) (by simp) ?_
                            refine AllReadyH.cons (o := ⟨some 191, _, _, _, _, _⟩) rfl (fun K hK => ?_) AllReadyH.nil
                            go_simp
                            refine (HPT.out _ BI).mono ?_
                            rintro e w5 ⟨⟨z, hz, rfl⟩, b5⟩
                            rw [← HQ.out] at hz
                            subst hz
                            have TB := TB.past b5 TB.lt
                            have NT := NT.far b5
                            have CU := (b5.cell (p := ⟨gp, i, none⟩) (cell_ltO CU)).trans CU
                            have BI := bnextK BI b5
                            go_wp2_with fail
                            refine hK.out _ _ ?_ (fun hHeld => ?_)
                            · (try dsimp only); first | exact ⟨TB, CU⟩ | exact ⟨TB0.out, CU0.out⟩
                            clear hK K
                            try simp only [Act.put, List.setIfInBounds_toArray, List.set_cons_zero, List.set_cons_succ]
                            refine wpAnyH_take (i := 15) (oi := ⟨some 176, _, _, _, _, _⟩) (v := ?_) rfl (by kernel_rfl) (by kernel_rfl) (by kernel_rfl) (fun _ _ _ h => h) (Or.inl ⟨by rfl, ?_⟩) (by assumption) ?_
                            rotate_left
                            · (intro w hSw; (try dsimp only at hSw); go_simp; try with_reducible rfl)
                            try simp only [Act.put, List.setIfInBounds_toArray, List.set_cons_zero, List.set_cons_succ]
                            refine wpAnyH_take (i := 16) (oi := ⟨some 192, _, _, _, _, _⟩) (v := ?_) rfl (by kernel_rfl) (by kernel_rfl) (by kernel_rfl) (fun _ _ _ h => h) (Or.inl ⟨by rfl, ?_⟩) (by assumption) ?_
                            rotate_left
                            · (intro w hSw; (try dsimp only at hSw); go_simp; try with_reducible rfl)
                            try simp only [Act.put, List.setIfInBounds_toArray, List.set_cons_zero, List.set_cons_succ]
                            refine wpAnyH_take (i := 17) (oi := ⟨some 193, _, _, _, _, _⟩) (v := ?_) rfl (by kernel_rfl) (by kernel_rfl) (by kernel_rfl) (fun _ _ _ h => h) (Or.inl ⟨by rfl, ?_⟩) (by assumption) ?_
                            rotate_left
                            · (intro w hSw; (try dsimp only at hSw); go_simp; try with_reducible rfl)
                            try simp only [Act.put, List.setIfInBounds_toArray, List.set_cons_zero, List.set_cons_succ]
                            refine wpAnyH_take (i := 18) (oi := ⟨some 29, _, _, _, _, _⟩) (v := ?_) rfl (by kernel_rfl) (by kernel_rfl) (by kernel_rfl) (fun _ _ _ h => h) (Or.inl ⟨by rfl, ?_⟩) (by assumption) ?_
                            rotate_left
                            · (intro w hSw; (try dsimp only at hSw); go_simp; try with_reducible rfl)
                            try simp only [Act.put, List.setIfInBounds_toArray, List.set_cons_zero, List.set_cons_succ]
                            refine wpAnyH_take (i := 19) (oi := ⟨some 30, _, _, _, _, _⟩) (v := ?_) rfl (by kernel_rfl) (by kernel_rfl) (by kernel_rfl) (fun _ _ _ h => h) (Or.inl ⟨by rfl, ?_⟩) (by assumption) ?_
                            rotate_left
                            · (intro w hSw; (try dsimp only at hSw); go_simp; try with_reducible rfl)
                            try simp only [Act.put, List.setIfInBounds_toArray, List.set_cons_zero, List.set_cons_succ]
                            refine wpAnyH_done (by kernel_rfl) ?_ _
                            go_wp2_with fail
                            go_meet
                            exact ⟨rfl, rfl, NT, TB, BI⟩
                          refine AllReadyH.cons (o := ⟨some 189, _, _, _, _, _⟩) rfl (fun K hK => ?_) AllReadyH.nil
                          go_simp
                          refine hK.out _ _ ?_ (fun hHeld => ?_)
                          · (try dsimp only); first | exact ⟨TB, CU⟩ | exact ⟨TB0.out, CU0.out⟩
                          clear hK K
                          try simp only [Act.put, List.setIfInBounds_toArray, List.set_cons_zero, List.set_cons_succ]
                          refine wpAnyH_ready (rs := [8]) (by kernel_rfl) (by simp) ?_
                          refine AllReadyH.cons (o := ⟨some 185, _, _, _, _, _⟩) rfl (fun K hK => ?_) AllReadyH.nil
                          go_simp
                          refine hK.out _ _ ?_ (fun hHeld => ?_)
                          · (try dsimp only); first | exact ⟨TB, CU⟩ | exact ⟨TB0.out, CU0.out⟩
                          clear hK K
                          try simp only [Act.put, List.setIfInBounds_toArray, List.set_cons_zero, List.set_cons_succ]
                          refine wpAnyH_ready (rs := [14]) (by kernel_rfl) (by simp) ?_
                          refine AllReadyH.cons (o := ⟨some 191, _, _, _, _, _⟩) rfl (fun K hK => ?_) AllReadyH.nil
                          go_simp
                          refine (HPT.out _ BI).mono ?_
                          rintro e w5 ⟨⟨z, hz, rfl⟩, b5⟩
                          rw [← HQ.out] at hz
                          subst hz
                          have TB := TB.past b5 TB.lt
                          have NT := NT.far b5
                          have CU := (b5.cell (p := ⟨gp, i, none⟩) (cell_ltO CU)).trans CU
                          have BI := bnextK BI b5
                          go_wp2_with fail
                          refine hK.out _ _ ?_ (fun hHeld => ?_)
                          · (try dsimp only); first | exact ⟨TB, CU⟩ | exact ⟨TB0.out, CU0.out⟩
                          clear hK K
                          try simp only [Act.put, List.setIfInBounds_toArray, List.set_cons_zero, List.set_cons_succ]
                          refine wpAnyH_take (i := 15) (oi := ⟨some 176, _, _, _, _, _⟩) (v := ?_) rfl (by kernel_rfl) (by kernel_rfl) (by kernel_rfl) (fun _ _ _ h => h) (Or.inl ⟨by rfl, ?_⟩) (by assumption) ?_
                          rotate_left
                          · (intro w hSw; (try dsimp only at hSw); go_simp; try with_reducible rfl)
                          try simp only [Act.put, List.setIfInBounds_toArray, List.set_cons_zero, List.set_cons_succ]
                          refine wpAnyH_take (i := 16) (oi := ⟨some 192, _, _, _, _, _⟩) (v := ?_) rfl (by kernel_rfl) (by kernel_rfl) (by kernel_rfl) (fun _ _ _ h => h) (Or.inl ⟨by rfl, ?_⟩) (by assumption) ?_
                          rotate_left
                          · (intro w hSw; (try dsimp only at hSw); go_simp; try with_reducible rfl)
                          try simp only [Act.put, List.setIfInBounds_toArray, List.set_cons_zero, List.set_cons_succ]
                          refine wpAnyH_take (i := 17) (oi := ⟨some 193, _, _, _, _, _⟩) (v := ?_) rfl (by kernel_rfl) (by kernel_rfl) (by kernel_rfl) (fun _ _ _ h => h) (Or.inl ⟨by rfl, ?_⟩) (by assumption) ?_
                          rotate_left
                          · (intro w hSw; (try dsimp only at hSw); go_simp; try with_reducible rfl)
                          try simp only [Act.put, List.setIfInBounds_toArray, List.set_cons_zero, List.set_cons_succ]
                          refine wpAnyH_take (i := 18) (oi := ⟨some 29, _, _, _, _, _⟩) (v := ?_) rfl (by kernel_rfl) (by kernel_rfl) (by kernel_rfl) (fun _ _ _ h => h) (Or.inl ⟨by rfl, ?_⟩) (by assumption) ?_
                          rotate_left
                          · (intro w hSw; (try dsimp only at hSw); go_simp; try with_reducible rfl)
                          try simp only [Act.put, List.setIfInBounds_toArray, List.set_cons_zero, List.set_cons_succ]
                          refine wpAnyH_take (i := 19) (oi := ⟨some 30, _, _, _, _, _⟩) (v := ?_) rfl (by kernel_rfl) (by kernel_rfl) (by kernel_rfl) (fun _ _ _ h => h) (Or.inl ⟨by rfl, ?_⟩) (by assumption) ?_
                          rotate_left
                          · (intro w hSw; (try dsimp only at hSw); go_simp; try with_reducible rfl)
                          try simp only [Act.put, List.setIfInBounds_toArray, List.set_cons_zero, List.set_cons_succ]
                          refine wpAnyH_done (by kernel_rfl) ?_ _
                          go_wp2_with fail
                          go_meet
                          exact ⟨rfl, rfl, NT, TB, BI⟩
                        case rest =>
                          obtain ⟨wj, rfl⟩ : ∃ z : World, z = wc := ⟨_, rfl⟩
                          obtain ⟨rfl, rfl, hnt, htb, hbj⟩ := hcut
                          clear HNT HTB NT0 TB0 CU0
                          have HNT := Lib.hid hnt; have HTB := Lib.hid htb
                          have HBJ := Lib.hid (bnextK HBL.out hbj)
                          clear hnt htb hbj
                          have hand := HAND.out; have hor := HOR.out
                          by_cases h2 : p.length = 2
                          · have hQ0 := HZ.out.2 h2
                            have hs0 := HST.out h2
                            have HSV : Hid (true = strB (ps.take (i + 1))) := Lib.hid (by rw [← HSN.out]; simp [h2])
                            subst hQ0
                            subst hs0
                            have hor' : Go.bits BinOp.or IntKind.i64 (U : Int) 0 = (U' : Int) := hor
                            have hand' : Go.bits BinOp.and IntKind.i64 0 (U : Int) = 0 := hand
                            clear h2 hand hor HAND HOR
                            go_wp2_with fail
                            clear hand' hor'
                            go_roundg g'
                            case measure => omega
                            case rel => exact ⟨i + 1, U', true, by omega, by omega, by go_num, rfl, rfl, HUN.out, HSV.out, HNT.out, HTB.out, HBJ.out⟩
                          · have hQ0 : ¬ Q = 0 := fun e => h2 (HZ.out.1 e)
                            have hQ1 : ((Q : Int) == 0) = false := by simp; omega
                            have HSV : Hid (s = strB (ps.take (i + 1))) := Lib.hid (by rw [← HSN.out]; simp [h2])
                            clear h2
                            cases s with
                            | true =>
                              go_wp2_with fail
                              clear hand hor
                              go_roundg g'
                              case measure => omega
                              case rel => exact ⟨i + 1, U', true, by omega, by omega, by go_num, rfl, rfl, HUN.out, HSV.out, HNT.out, HTB.out, HBJ.out⟩
                            | false =>
                              go_wp2_with fail
                              clear hand hor
                              go_roundg g'
                              case measure => omega
                              case rel => exact ⟨i + 1, U', false, by omega, by omega, by go_num, rfl, rfl, HUN.out, HSV.out, HNT.out, HTB.out, HBJ.out⟩
                      · have hki2 : ¬ (i : Int) < (k : Int) := by omega
                        go_wp2_with fail
                        go_roundw
                        case rel => exact ⟨k + 1, by omega, by omega, by go_num, HNT.out, HTB.out⟩
                        case measure => simp [intOf] <;> omega
              · have hki : ¬ (k : Int) ≤ 4 := by omega
                have HW := Lib.hid (fun W => works09_any W)
                go_wp2_with fail
                refine (HW.out _).mono ?_
                rintro e w8 ⟨rfl, hb8'⟩
                have HB8 := Lib.hid (bnextK HNT.out.2.1 hb8')
                clear hb8'
                go_wp2_with fail
                go_ret
                exact ⟨rfl, HB8.out⟩
#print axioms NetworkCuts_walk
end Go.Proofs.Ytkmacmeeinpncaa
