/- NetworkWidens: the walk. Conditions: as the statement says. -/
import Derived.Test.YtkmacmeeinpncaaNet35
import Derived.Test.YtkmacmeeinpncaaSm3
import Derived.Test.YtkmacmeeinpncaaOpenPrs
namespace Go.Proofs.Ytkmacmeeinpncaa
open Go.RowKit
set_option linter.unusedVariables false
def TrueP (w : World) (e : Ending) (w' : World) : Prop := e = .returned (.bool true) ∧ Below w.heap.size w w'
set_option maxRecDepth 100000 in
set_option maxHeartbeats 8000000 in
theorem NetworkWidens_walk (v : Value) (i : PrsArg) (a1 a2 : Nat) (w : World) (hi : IsPrs w v i) (h1 : a1 < 256) (h2 : a2 < 256) :
    Calls Try.prog 4 #[v, .int .u8 (a1 : Int), .int .u8 (a2 : Int)] w (TrueP w) := by
  obtain ⟨A, n, c, l⟩ := i
  obtain ⟨rfl, hnc, hc, hln, hrd, hlt⟩ := hi
  simp only at hnc hc hln hrd hlt ⊢
  have HSM := Lib.hid (smallG_ok l (fun p hp => (hlt p hp).2.2))
  have HSA := Lib.hid (Small_any (c := c) l hrd (Nat.le_refl _) (by omega) hlt)
  have ra : Int.tmod (a1 : Int) 8 = ((a1 % 8 : Nat) : Int) := by rw [Int.tmod_eq_emod_of_nonneg (by omega)]; omega
  have rb : Int.tmod (a2 : Int) 8 = ((a2 % 8 : Nat) : Int) := by rw [Int.tmod_eq_emod_of_nonneg (by omega)]; omega
  have ha8 : a1 % 8 < 8 := Nat.mod_lt _ (by omega)
  have hb8 : a2 % 8 < 8 := Nat.mod_lt _ (by omega)
  generalize a1 % 8 = a at ra ha8
  generalize a2 % 8 = b at rb hb8
  have hai : (a : Int) < 8 := by omega
  have hbi : (b : Int) < 8 := by omega
  obtain ⟨⟨sN, st⟩, hx⟩ : ∃ x, x = smallG l := ⟨_, rfl⟩
  have HX := Lib.hid hx
  rw [← hx] at HSM
  simp only at HSM
  have HIN : Hid ((Try.prog.info? 25).map (·.size) = some (stV st).size) := Lib.hid (by rw [show (stV st).size = 64 by unfold stV; simp [HSM.out.len]]; kernel_rfl)
  have HSZ : Hid ((stV (List.replicate 64 0)).size = (stV st).size) := Lib.hid (by unfold stV; simp [HSM.out.len])
  have HONE : Hid ((stV st).all (·.oneCell') = true) := Lib.hid (stV_one _)
  clear hx hrd hlt
  go_enter Try.func4, Try.ntmps4
  go_wp2_with fail
  refine HSA.out.mono ?_
  clear HSA
  rintro e w1 ⟨N, bn, bl, rfl, hnet⟩
  rw [← HX.out] at hnet ⊢
  simp only at hnet ⊢
  have HNT := Lib.hid hnet
  clear hnet
  have hsz64 : (stV st).size = 64 := by unfold stV; simp [HSM.out.len]
  go_wp2_with fail
  rw [lit64, run_storeCells_new w1 25 _ _ HIN.out HSZ.out HONE.out]
  go_wp2_with fail
  obtain ⟨w2, hw2⟩ : ∃ z, z = w1.alloc (.cells (stV st) 25) := ⟨_, rfl⟩
  have HNT2 : Hid (NetNew w sN N bn bl w2.drew) := Lib.hid (by rw [hw2]; exact (HNT.out.far (below_alloc _ _)).far (Qw.below ⟨1, rfl⟩ _))
  have HTB2 : Hid (Bk w2.drew w1.heap.size (stV st) 25) := Lib.hid (by rw [hw2]; exact Bk.new w1 _ _)
  rw [← hw2]
  clear hw2 HNT
  generalize w1.heap.size = X at HTB2 ⊢
  go_cut [10, 11] from 26 to 35 (fun v10 v11 wc => v10 = encS (nm a) ∧ v11 = encS (nm b) ∧ NetNew w sN N bn bl wc ∧ Bk wc X (stV st) 25)
  case first =>
    refine wp_region_held_drew (S := (fun _ => True)) (by kernel_rfl) ?_ (fun hHeld => ?_)
    · (try dsimp only); all_goals trivial
    refine wpAnyH_take (i := 1) (oi := ⟨some 27, _, _, _, _, _⟩) (v := ?_) rfl (by kernel_rfl) (by kernel_rfl) (by kernel_rfl) (fun _ _ _ h => h) (Or.inl ⟨by rfl, ?_⟩) (by assumption) ?_
    rotate_left
    · (intro w hSw; (try dsimp only at hSw); go_simp; try with_reducible rfl)
    try simp only [Act.put, List.setIfInBounds_toArray, List.set_cons_zero, List.set_cons_succ]
    refine wpAnyH_take (i := 2) (oi := ⟨some 28, _, _, _, _, _⟩) (v := ?_) rfl (by kernel_rfl) (by kernel_rfl) (by kernel_rfl) (fun _ _ _ h => h) (Or.inl ⟨by rfl, ?_⟩) (by assumption) ?_
    rotate_left
    · (intro w hSw; (try dsimp only at hSw); go_simp; try with_reducible rfl)
    try simp only [Act.put, List.setIfInBounds_toArray, List.set_cons_zero, List.set_cons_succ]
    refine wpAnyH_take (i := 6) (oi := ⟨some 32, _, _, _, _, _⟩) (v := ?_) rfl (by kernel_rfl) (by kernel_rfl) (by kernel_rfl) (fun _ _ _ h => h) (Or.inl ⟨by rfl, ?_⟩) (by assumption) ?_
    rotate_left
    · (intro w hSw; (try dsimp only at hSw); go_simp; try with_reducible rfl)
    try simp only [Act.put, List.setIfInBounds_toArray, List.set_cons_zero, List.set_cons_succ]
    refine wpAnyH_take (i := 7) (oi := ⟨some 33, _, _, _, _, _⟩) (v := ?_) rfl (by kernel_rfl) (by kernel_rfl) (by kernel_rfl) (fun _ _ _ h => h) (Or.inl ⟨by rfl, ?_⟩) (by assumption) ?_
    rotate_left
    · (intro w hSw; (try dsimp only at hSw); go_simp; try with_reducible rfl)
    try simp only [Act.put, List.setIfInBounds_toArray, List.set_cons_zero, List.set_cons_succ]
    refine wpAnyH_ready (rs := [0]) (by kernel_rfl) (by simp) ?_
    refine AllReadyH.cons (o := ⟨some 26, _, _, _, _, _⟩) rfl (fun K hK => ?_) AllReadyH.nil
    go_simp
    refine (names_any _).mono ?_
    rintro e w3 ⟨rfl, hw3⟩
    obtain ⟨f3, b3⟩ := names_fact hw3
    have x3 : w3.cell? ⟨w2.heap.size, a, none⟩ = some (encS (nm a)) := f3 a ha8
    have NT := HNT2.out.far b3
    have TB := HTB2.out.past b3 HTB2.out.lt
    clear hw3 f3
    go_wp2_with fail
    refine hK.out _ _ ?_ (fun hHeld => ?_)
    · (try dsimp only); all_goals trivial
    clear hK K
    try simp only [Act.put, List.setIfInBounds_toArray, List.set_cons_zero, List.set_cons_succ]
    refine wpAnyH_take (i := 3) (oi := ⟨some 29, _, _, _, _, _⟩) (v := ?_) rfl (by kernel_rfl) (by kernel_rfl) (by kernel_rfl) (fun _ _ _ h => h) (Or.inl ⟨by rfl, ?_⟩) (by assumption) ?_
    rotate_left
    · (intro w hSw; (try dsimp only at hSw); go_simp; try with_reducible rfl)
    try simp only [Act.put, List.setIfInBounds_toArray, List.set_cons_zero, List.set_cons_succ]
    refine wpAnyH_ready (rs := [4, 5]) (by kernel_rfl) (by simp) ?_
    refine AllReadyH.cons (o := ⟨some 30, _, _, _, _, _⟩) rfl (fun K hK => ?_) ?_
    · skip
      go_simp
      refine hK.out _ _ ?_ (fun hHeld => ?_)
      · (try dsimp only); all_goals trivial
      clear hK K
      try simp only [Act.put, List.setIfInBounds_toArray, List.set_cons_zero, List.set_cons_succ]
      refine wpAnyH_ready (rs := [5]) (by kernel_rfl) (by simp) ?_
      refine AllReadyH.cons (o := ⟨some 31, _, _, _, _, _⟩) rfl (fun K hK => ?_) AllReadyH.nil
      go_simp
      refine (names_any _).mono ?_
      rintro e w4 ⟨rfl, hw4⟩
      obtain ⟨f4, b4⟩ := names_fact hw4
      have y4 := f4 b hb8
      have x3 : w4.cell? ⟨w2.heap.size, a, none⟩ = some (encS (nm a)) := (b4.cell (p := ⟨w2.heap.size, a, none⟩) (cell_ltO x3)).trans x3
      have NT := NT.far b4
      have TB := TB.past b4 TB.lt
      clear hw4 f4
      go_wp2_with fail
      refine hK.out _ _ ?_ (fun hHeld => ?_)
      · (try dsimp only); all_goals trivial
      clear hK K
      try simp only [Act.put, List.setIfInBounds_toArray, List.set_cons_zero, List.set_cons_succ]
      refine wpAnyH_take (i := 8) (oi := ⟨some 34, _, _, _, _, _⟩) (v := ?_) rfl (by kernel_rfl) (by kernel_rfl) (by kernel_rfl) (fun _ _ _ h => h) (Or.inl ⟨by rfl, ?_⟩) (by assumption) ?_
      rotate_left
      · (intro w hSw; (try dsimp only at hSw); go_simp; try with_reducible rfl)
      try simp only [Act.put, List.setIfInBounds_toArray, List.set_cons_zero, List.set_cons_succ]
      refine wpAnyH_take (i := 10) (oi := ⟨some 10, _, _, _, _, _⟩) (v := ?_) rfl (by kernel_rfl) (by kernel_rfl) (by kernel_rfl) (fun _ _ _ h => h) (Or.inl ⟨by rfl, ?_⟩) (by assumption) ?_
      rotate_left
      · (intro w hSw; (try dsimp only at hSw); go_simp; try with_reducible rfl)
      try simp only [Act.put, List.setIfInBounds_toArray, List.set_cons_zero, List.set_cons_succ]
      refine wpAnyH_ready (rs := [9]) (by kernel_rfl) (by simp) ?_
      refine AllReadyH.cons (o := ⟨some 35, _, _, _, _, _⟩) rfl (fun K hK => ?_) AllReadyH.nil
      go_simp
      refine hK.out _ _ ?_ (fun hHeld => ?_)
      · (try dsimp only); all_goals trivial
      clear hK K
      try simp only [Act.put, List.setIfInBounds_toArray, List.set_cons_zero, List.set_cons_succ]
      refine wpAnyH_take (i := 11) (oi := ⟨some 11, _, _, _, _, _⟩) (v := ?_) rfl (by kernel_rfl) (by kernel_rfl) (by kernel_rfl) (fun _ _ _ h => h) (Or.inl ⟨by rfl, ?_⟩) (by assumption) ?_
      rotate_left
      · (intro w hSw; (try dsimp only at hSw); go_simp; try with_reducible rfl)
      try simp only [Act.put, List.setIfInBounds_toArray, List.set_cons_zero, List.set_cons_succ]
      refine wpAnyH_done (by kernel_rfl) ?_ _
      go_wp2_with fail
      go_meet
      exact ⟨rfl, rfl, NT, TB⟩
    refine AllReadyH.cons (o := ⟨some 31, _, _, _, _, _⟩) rfl (fun K hK => ?_) AllReadyH.nil
    go_simp
    refine (names_any _).mono ?_
    rintro e w4 ⟨rfl, hw4⟩
    obtain ⟨f4, b4⟩ := names_fact hw4
    have y4 := f4 b hb8
    have x3 : w4.cell? ⟨w2.heap.size, a, none⟩ = some (encS (nm a)) := (b4.cell (p := ⟨w2.heap.size, a, none⟩) (cell_ltO x3)).trans x3
    have NT := NT.far b4
    have TB := TB.past b4 TB.lt
    clear hw4 f4
    go_wp2_with fail
    refine hK.out _ _ ?_ (fun hHeld => ?_)
    · (try dsimp only); all_goals trivial
    clear hK K
    try simp only [Act.put, List.setIfInBounds_toArray, List.set_cons_zero, List.set_cons_succ]
    refine wpAnyH_take (i := 8) (oi := ⟨some 34, _, _, _, _, _⟩) (v := ?_) rfl (by kernel_rfl) (by kernel_rfl) (by kernel_rfl) (fun _ _ _ h => h) (Or.inl ⟨by rfl, ?_⟩) (by assumption) ?_
    rotate_left
    · (intro w hSw; (try dsimp only at hSw); go_simp; try with_reducible rfl)
    try simp only [Act.put, List.setIfInBounds_toArray, List.set_cons_zero, List.set_cons_succ]
    refine wpAnyH_ready (rs := [4, 9]) (by kernel_rfl) (by simp) ?_
    refine AllReadyH.cons (o := ⟨some 30, _, _, _, _, _⟩) rfl (fun K hK => ?_) ?_
    · skip
      go_simp
      refine hK.out _ _ ?_ (fun hHeld => ?_)
      · (try dsimp only); all_goals trivial
      clear hK K
      try simp only [Act.put, List.setIfInBounds_toArray, List.set_cons_zero, List.set_cons_succ]
      refine wpAnyH_take (i := 10) (oi := ⟨some 10, _, _, _, _, _⟩) (v := ?_) rfl (by kernel_rfl) (by kernel_rfl) (by kernel_rfl) (fun _ _ _ h => h) (Or.inl ⟨by rfl, ?_⟩) (by assumption) ?_
      rotate_left
      · (intro w hSw; (try dsimp only at hSw); go_simp; try with_reducible rfl)
      try simp only [Act.put, List.setIfInBounds_toArray, List.set_cons_zero, List.set_cons_succ]
      refine wpAnyH_ready (rs := [9]) (by kernel_rfl) (by simp) ?_
      refine AllReadyH.cons (o := ⟨some 35, _, _, _, _, _⟩) rfl (fun K hK => ?_) AllReadyH.nil
      go_simp
      refine hK.out _ _ ?_ (fun hHeld => ?_)
      · (try dsimp only); all_goals trivial
      clear hK K
      try simp only [Act.put, List.setIfInBounds_toArray, List.set_cons_zero, List.set_cons_succ]
      refine wpAnyH_take (i := 11) (oi := ⟨some 11, _, _, _, _, _⟩) (v := ?_) rfl (by kernel_rfl) (by kernel_rfl) (by kernel_rfl) (fun _ _ _ h => h) (Or.inl ⟨by rfl, ?_⟩) (by assumption) ?_
      rotate_left
      · (intro w hSw; (try dsimp only at hSw); go_simp; try with_reducible rfl)
      try simp only [Act.put, List.setIfInBounds_toArray, List.set_cons_zero, List.set_cons_succ]
      refine wpAnyH_done (by kernel_rfl) ?_ _
      go_wp2_with fail
      go_meet
      exact ⟨rfl, rfl, NT, TB⟩
    refine AllReadyH.cons (o := ⟨some 35, _, _, _, _, _⟩) rfl (fun K hK => ?_) AllReadyH.nil
    go_simp
    refine hK.out _ _ ?_ (fun hHeld => ?_)
    · (try dsimp only); all_goals trivial
    clear hK K
    try simp only [Act.put, List.setIfInBounds_toArray, List.set_cons_zero, List.set_cons_succ]
    refine wpAnyH_ready (rs := [4]) (by kernel_rfl) (by simp) ?_
    refine AllReadyH.cons (o := ⟨some 30, _, _, _, _, _⟩) rfl (fun K hK => ?_) AllReadyH.nil
    go_simp
    refine hK.out _ _ ?_ (fun hHeld => ?_)
    · (try dsimp only); all_goals trivial
    clear hK K
    try simp only [Act.put, List.setIfInBounds_toArray, List.set_cons_zero, List.set_cons_succ]
    refine wpAnyH_take (i := 10) (oi := ⟨some 10, _, _, _, _, _⟩) (v := ?_) rfl (by kernel_rfl) (by kernel_rfl) (by kernel_rfl) (fun _ _ _ h => h) (Or.inl ⟨by rfl, ?_⟩) (by assumption) ?_
    rotate_left
    · (intro w hSw; (try dsimp only at hSw); go_simp; try with_reducible rfl)
    try simp only [Act.put, List.setIfInBounds_toArray, List.set_cons_zero, List.set_cons_succ]
    refine wpAnyH_take (i := 11) (oi := ⟨some 11, _, _, _, _, _⟩) (v := ?_) rfl (by kernel_rfl) (by kernel_rfl) (by kernel_rfl) (fun _ _ _ h => h) (Or.inl ⟨by rfl, ?_⟩) (by assumption) ?_
    rotate_left
    · (intro w hSw; (try dsimp only at hSw); go_simp; try with_reducible rfl)
    try simp only [Act.put, List.setIfInBounds_toArray, List.set_cons_zero, List.set_cons_succ]
    refine wpAnyH_done (by kernel_rfl) ?_ _
    go_wp2_with fail
    go_meet
    exact ⟨rfl, rfl, NT, TB⟩
  case rest =>
    obtain ⟨w5, rfl⟩ : ∃ z : World, z = wc := ⟨_, rfl⟩
    obtain ⟨rfl, rfl, hnt, htb⟩ := hcut
    have HNT := Lib.hid hnt; have HTB := Lib.hid htb
    clear hnt htb HNT2 HTB2 ra rb hai hbi
    by_cases hab : a = b
    · subst hab
      have HW := Lib.hid (fun W => works09_any W)
      go_wp2_with fail
      refine (HW.out _).mono ?_
      rintro e w6 ⟨rfl, hb6⟩
      have HB6 := Lib.hid (bnextK HNT.out.2.1 hb6)
      clear hb6
      go_wp2_with fail
      go_ret
      exact ⟨rfl, HB6.out⟩
    · have hne : nm a ≠ nm b := fun e => hab (nm_inj ha8 hb8 e)
      have hq : (nm a == nm b) = false := by simp [hne]
      have HWI := Lib.hid (Widest_any HNT.out.1 (nm a) (nm b) (by have := (named_len (nm_named a ha8)).2; unfold maxLen; omega) (by have := (named_len (nm_named b hb8)).2; unfold maxLen; omega))
      go_wp2_with fail
      refine HWI.out.mono ?_
      clear HWI
      rintro e w6 ⟨⟨m, z, rfl, hz, hm⟩, hb6⟩
      rw [HSM.out.ends ha8 hb8 hab] at hz hm
      subst hz
      obtain ⟨hm0, hm1, hm2, hm3⟩ := hm rfl
      have HNT6 := Lib.hid (HNT.out.far hb6); have HTB6 := Lib.hid (HTB.out.past hb6 HTB.out.lt)
      have HM2 := Lib.hid hm2; have HM3 := Lib.hid hm3
      clear hb6 hm2 hm3 hm
      have hml : ¬ m < 0 := by omega
      have hm256 : m ≤ 256 := by
        rcases HM2.out with h | h
        · omega
        · exact HSM.out.le256 ha8 hb8 hab h
      have HR2 : Hid (∀ W, NetNew w sN N bn bl W → Calls Try.prog 13 #[.pointer (some ⟨N, 0, none⟩), encS (nm a), encS (nm b), .int .i64 (m + 1)] W fun e w' => (∃ u, e = .returned (.tuple #[u, .int .i64 21])) ∧ NetNew w sN N bn bl w') := Lib.hid fun W hW => by
        refine (Route_any hW.1 (nm a) (nm b) (m + 1) (by have := (named_len (nm_named a ha8)).2; unfold maxLen; omega) (by have := (named_len (nm_named b hb8)).2; unfold maxLen; omega)).mono ?_
        rintro e w' ⟨⟨u, z, rfl, hc⟩, hb⟩
        refine ⟨?_, hW.far hb⟩
        rcases hc with ⟨q1, _⟩ | ⟨_, _, q2, _⟩ | ⟨_, p, l', q2, _⟩
        · exact absurd (HSM.out.route ha8 hb8 hab (by omega) (by omega)) q1
        · exact ⟨u, by rw [q2]⟩
        · rw [paths_none (HSM.out.mem ha8) (HSM.out.mem hb8) hne (m + 1) (HM3.out (m + 1) (by omega) (by omega))] at q2
          cases q2
      have HW := Lib.hid (fun W => works09_any W)
      have hwr : IntKind.i64.wrap (m + 1) = m + 1 := IntWalk.i64_in _ ⟨by omega, by omega⟩
      by_cases hmp : 0 < m
      · have HR1 : Hid (∀ W, NetNew w sN N bn bl W → Calls Try.prog 13 #[.pointer (some ⟨N, 0, none⟩), encS (nm a), encS (nm b), .int .i64 m] W fun e w' => (∃ (u : Value) (p : List Nat), e = .returned (.tuple #[u, .int .i64 0]) ∧ GoodP st p a b m ∧ NmRow w' u (p.map nm)) ∧ NetNew w sN N bn bl w' ∧ Below W.heap.size W w') := Lib.hid fun W hW => by
          refine (Route_any hW.1 (nm a) (nm b) m (by have := (named_len (nm_named a ha8)).2; unfold maxLen; omega) (by have := (named_len (nm_named b hb8)).2; unfold maxLen; omega)).mono ?_
          rintro e w' ⟨⟨u, z, rfl, hc⟩, hb⟩
          refine ⟨?_, hW.far hb, hb⟩
          obtain ⟨p, hp, hgood⟩ := HSM.out.path ha8 hb8 hab (HM2.out.resolve_left (by omega))
          rcases hc with ⟨q1, _⟩ | ⟨_, q2, _⟩ | ⟨_, p', l', q2, q3, q4⟩
          · exact absurd (HSM.out.route ha8 hb8 hab (by omega) (by omega)) q1
          · rw [hp] at q2; cases q2
          · rw [hp] at q2
            injection q2 with q2 _
            subst q2
            exact ⟨u, p, by rw [q3], hgood, HSM.out.row q4⟩
        have HL64 := Lib.hid HSM.out.len
        go_wp2_with fail
        refine (HR1.out _ HNT6.out).mono ?_
        clear HR1
        rintro e w7 ⟨⟨u, p, rfl, hgood, hrow⟩, hnt7, hb7⟩
        have HNT7 := Lib.hid hnt7; have HTB7 := Lib.hid (HTB6.out.past hb7 HTB6.out.lt)
        have HPA := Lib.hid (path_any st HL64.out p a b m hgood hrow)
        clear hnt7 hb7 hgood hrow
        go_wp2_with (first
          | (refine wpList_load_row rfl 25 _ rfl X rfl _ (stV st) (0, 0) _ HTB7.out Try.underlying25 rfl HIN.out ?_))
        refine HPA.out.mono ?_
        clear HPA
        rintro e w8 ⟨⟨z, hz, rfl⟩, hb8'⟩
        have HNT8 := Lib.hid (HNT7.out.far hb8')
        clear hz hb8'
        go_wp2_with fail
        refine (HR2.out _ HNT8.out).mono ?_
        clear HR2
        rintro e w9 ⟨⟨u2, rfl⟩, hnt9⟩
        have HNT9 := Lib.hid hnt9
        clear hnt9
        go_wp2_with fail
        refine (HW.out _).mono ?_
        rintro e wA ⟨rfl, hbA⟩
        have HBA := Lib.hid (bnextK HNT9.out.2.1 hbA)
        clear hbA
        go_wp2_with fail
        go_ret
        exact ⟨rfl, HBA.out⟩
      · have hmz : ¬ 0 < m := hmp
        go_wp2_with fail
        refine (HR2.out _ HNT6.out).mono ?_
        clear HR2
        rintro e w9 ⟨⟨u2, rfl⟩, hnt9⟩
        have HNT9 := Lib.hid hnt9
        clear hnt9
        go_wp2_with fail
        refine (HW.out _).mono ?_
        rintro e wA ⟨rfl, hbA⟩
        have HBA := Lib.hid (bnextK HNT9.out.2.1 hbA)
        clear hbA
        go_wp2_with fail
        go_ret
        exact ⟨rfl, HBA.out⟩
#print axioms NetworkWidens_walk
end Go.Proofs.Ytkmacmeeinpncaa
