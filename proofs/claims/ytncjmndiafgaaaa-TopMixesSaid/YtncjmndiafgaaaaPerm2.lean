/- Contracts of the reference's Bits, of shuffle and of Perm (the program's and the reference's). Conditions: as each statement says. -/
import Derived.Test.YtncjmndiafgaaaaShuf
import Derived.Test.YtncjmndiafgaaaaToepWalk
import Derived.Deep.RegionHeld3
namespace Go.Proofs.Ytncjmndiafgaaaa
open Go.RowKit
set_option linter.unusedVariables false
/-- The address of an element of a slice of one-cell elements, as an operation of a region. -/
theorem exec_idx {P : Program} {t e : TypeId} (ht : P.underlying t = some (.slice e)) (hz : ∀ w, (sizeOf e).run P w = .ok 1 w) {ev : Operand → Value} {dst : Option Tmp} {ty : TypeId} {pos : String} {after : Array Edge} {guard : Option (Nat × Bool)} {x ix : Operand} {h n cap j : Nat} {k : IntKind}
    (h1 : ev x = .slice (some ⟨h, 0, none⟩) n cap) (h2 : ev ix = .int k (j : Int)) (h4 : j < n) (w : World) : (execOp ev ⟨dst, .indexAddr t x ix, ty, pos, after, guard⟩).run P w = .ok (.value (.pointer (some ⟨h, j, none⟩))) w := by
  have he : P.elem t = e := by simp [Program.elem, ht]
  have ht' : P.underlying t = some (.slice (P.elem t)) := by rw [he]; exact ht
  have h5 : (j : Int) < (n : Int) := by omega
  have hz' : (sizeOf (P.elem t)).run P w = .ok 1 w := by rw [he]; exact hz w
  have := run_indexAt_slice (P := P) (w := w) t ⟨h, 0, none⟩ n cap k (j : Int) ht'
  rw [if_pos ⟨by omega, h5⟩, hz'] at this
  simp only [execOp, h1, h2, Sem.run_bind, this, Result.andThen_ok, Sem.run_pure]
  simp [addr_add]
theorem i64_cells_get (l : List Int) (j : Nat) (h : j < l.length) : (l.map (Value.int .i64))[j]? = some (.int .i64 (l.getD j 0)) := by
  simp [List.getD, List.getElem?_eq_getElem h]
/-- What shuffle leaves: the row shuffled, the draws further. -/
def ShufPost (B b h n cap s : Nat) (l : List Int) (w : World) (e : Ending) (w' : World) : Prop :=
  (∃ u, e = .returned u) ∧ Upd B b (shuf (n - 1) s l).1 w w' ∧ w'.ownsRow B 3 1 (.slice (some ⟨h, 0, none⟩) n cap) n ((shuf (n - 1) s l).2.map (Value.int .i64))
set_option maxHeartbeats 1000000 in
theorem shuffle_any (b h n cap B s : Nat) (l : List Int) (w : World) (hl : l.length = n) (hn : n ≤ 65536) (hbB : b < B) (hBw : B ≤ w.heap.size) (hown : w.ownsRow B 3 1 (.slice (some ⟨h, 0, none⟩) n cap) n (l.map (Value.int .i64))) (hd : DrawAt w b s) :
    Calls Try.prog 71 #[.slice (some ⟨h, 0, none⟩) n cap, .func (.func 72) #[.pointer (some ⟨b, 0, none⟩)] #[]] w (ShufPost B b h n cap s l w) := by
  have HO := Lib.hid hown; have HD := Lib.hid hd; have HL := Lib.hid hl
  have hhB : B ≤ h := (hown.lt h rfl).1
  clear hown hd hl
  go_enter Try.func71, Try.ntmps71
  go_wp2
  go_loopw [4] (fun i wr => ∃ (z : Int) (s' : Nat) (l' : List Int), i = .int .i64 z ∧ -1 ≤ z ∧ z ≤ (n : Int) - 1 ∧ l'.length = n ∧ shuf (n - 1) s l = shuf z.toNat s' l' ∧ Upd B b s' w wr ∧ wr.ownsRow B 3 1 (.slice (some ⟨h, 0, none⟩) n cap) n (l'.map (Value.int .i64))) (fun i _ => (intOf i).toNat)
  case atStart => exact ⟨(n : Int) - 1, s, l, rfl, by omega, by omega, HL.out, by rw [show ((n : Int) - 1).toNat = n - 1 by omega], Upd.start HD.out, HO.out⟩
  case round =>
    obtain ⟨z, s', l', rfl, hz1, hz2, hl', hsh, hu, hown⟩ := hrel
    have HU := Lib.hid hu; have HW := Lib.hid hown; have HL' := Lib.hid hl'; have HS := Lib.hid hsh
    have hs2 := hu.size
    clear hu hown hl' hsh
    by_cases hlt : 0 < z
    · obtain ⟨i, rfl⟩ : ∃ i : Nat, z = (i : Int) + 1 := ⟨(z - 1).toNat, by omega⟩
      have hi : i + 1 < n := by omega
      go_wp2_with fail
      refine (Next_upd b s' wr.heap.size _ (Upd.at HD.out HU.out hbB) (by omega)).mono ?_
      rintro e w2 ⟨rfl, hu2, hs3⟩
      have HU2 := Lib.hid (HU.out.trans (hu2.mono (by omega)))
      have hown2 := ownsRow_upd HW.out hu2 hbB
      have hY : nextY s' < two64 := outY_lt (nextX_lt _)
      unfold two64 at hY
      have HSS : Hid (shuf (i + 1) s' l' = shuf i (nextS s') (swapL l' (i + 1) (nextY s' % (i + 2)))) := Lib.hid rfl
      clear hu2 hs3
      generalize hyy : nextY s' = y at hY HSS
      have HYY := Lib.hid hyy; clear hyy
      have hj : y % (i + 2) < i + 2 := Nat.mod_lt _ (by omega)
      have e1 : (i : Int) + 1 + 1 = ((i + 2 : Nat) : Int) := by omega
      have ej0 : (y : Int) % ((i : Int) + 2) = ((y % (i + 2) : Nat) : Int) := by simp
      generalize hjj : y % (i + 2) = j at hj HSS ej0
      have EJ := Lib.hid ej0
      have HJ := Lib.hid hjj; clear hjj
      have hi1 := i64_cells_get l' (i + 1) (by rw [HL'.out]; exact hi)
      have hi2 := i64_cells_get l' j (by rw [HL'.out]; omega)
      have c1 : w2.cell? ⟨h, i + 1, none⟩ = some (.int .i64 (l'.getD (i + 1) 0)) := by rw [hown2.cellAt (i + 1) (by omega)]; exact hi1
      have c2 : w2.cell? ⟨h, j, none⟩ = some (.int .i64 (l'.getD j 0)) := by rw [hown2.cellAt j (by omega)]; exact hi2
      have f1 : w2.frozen? ⟨h, i + 1, none⟩ = false := hown2.frozenAt _
      have f2 : w2.frozen? ⟨h, j, none⟩ = false := hown2.frozenAt _
      have HW2 := Lib.hid hown2
      clear hown2 hi1 hi2
      go_wp2_with fail
      clear ej0 e1 hY hz1 hz2
      have ej1 : (y : Int) % ((i : Int) + 2) = (j : Int) := EJ.out
      generalize (y : Int) % ((i : Int) + 2) = J at ej1 ⊢
      subst ej1
      have b1 : (0 : Int) ≤ (j : Int) := by omega
      have b2 : (j : Int) < (n : Int) := by omega
      have b3 : (i : Int) + 1 < (n : Int) := by omega
      have b4 : (0 : Int) ≤ (i : Int) + 1 := by omega
      obtain ⟨v', hy'⟩ := cell?_setCell_some (w := w2) (p := ⟨h, i + 1, none⟩) (x := .int .i64 (l'.getD j 0)) (q := ⟨h, j, none⟩) (v := .int .i64 (l'.getD j 0)) (by exact c2)
      have r1 := (HW2.out.stored (i + 1) (.int .i64 (l'.getD j 0))).1
      have r2 := (World.ownsRow.stored r1 j (.int .i64 (l'.getD (i + 1) 0))).1
      have r3 : ((l'.map (Value.int .i64)).set (i + 1) (.int .i64 (l'.getD j 0))).set j (.int .i64 (l'.getD (i + 1) 0)) = (swapL l' (i + 1) j).map (Value.int .i64) := by
        rw [swapL, List.map_set, List.map_set]
      rw [r3] at r2
      have R := Lib.hid r2
      clear r1 r2 r3
      generalize l'.getD j 0 = x2 at c2 hy' R
      generalize l'.getD (i + 1) 0 = x1 at c1 R
      have RS : Hid (shuf (n - 1) s l = shuf i (nextS s') (swapL l' (i + 1) j)) := Lib.hid (by rw [HS.out, ← HSS.out]; rfl)
      -- <REGION shuf
      refine wp_region_noPanic ?_
      refine wp_region_held_drew (S := fun _ => True) (by kernel_rfl) ?_ (fun hHeld => ?_)
      · (try dsimp only); try exact True.intro
      refine wpAnyH_take (i := 0) (oi := ⟨some 19, _, _, _, _, _⟩) (v := ?_) rfl (by kernel_rfl) (by kernel_rfl) (by kernel_rfl) (fun _ _ _ h => h) (Or.inl ⟨by rfl, ?_⟩) (by assumption) ?_
      rotate_left
      · (intro w hSw; (try dsimp only at hSw); go_simp; try with_reducible rfl)
      try simp only [Act.put, List.setIfInBounds_toArray, List.set_cons_zero, List.set_cons_succ]
      refine wpAnyH_take (i := 1) (oi := ⟨some 20, _, _, _, _, _⟩) (v := ?_) rfl (by kernel_rfl) (by kernel_rfl) (by kernel_rfl) (fun _ _ _ h => h) (Or.inl ⟨by rfl, ?_⟩) (by assumption) ?_
      rotate_left
      · (intro w hSw; (try dsimp only at hSw); go_simp; try with_reducible rfl)
      try simp only [Act.put, List.setIfInBounds_toArray, List.set_cons_zero, List.set_cons_succ]
      refine wpAnyH_take (i := 2) (oi := ⟨some 21, _, _, _, _, _⟩) (v := ?_) rfl (by kernel_rfl) (by kernel_rfl) (by kernel_rfl) (fun _ _ _ h => h) (Or.inl ⟨by rfl, ?_⟩) (by assumption) ?_
      rotate_left
      · (intro w hSw; (try dsimp only at hSw); go_simp; try with_reducible rfl)
      try simp only [Act.put, List.setIfInBounds_toArray, List.set_cons_zero, List.set_cons_succ]
      refine wpAnyH_take (i := 3) (oi := ⟨some 22, _, _, _, _, _⟩) (v := ?_) rfl (by kernel_rfl) (by kernel_rfl) (by kernel_rfl) (fun _ _ _ h => h) (Or.inl ⟨by rfl, ?_⟩) (by assumption) ?_
      rotate_left
      · (intro w hSw; (try dsimp only at hSw); go_simp; try with_reducible rfl)
      try simp only [Act.put, List.setIfInBounds_toArray, List.set_cons_zero, List.set_cons_succ]
      refine wpAnyH_take (i := 4) (oi := ⟨some 23, _, _, _, _, _⟩) (v := ?_) rfl (by kernel_rfl) (by kernel_rfl) (by kernel_rfl) (fun _ _ _ h => h) (Or.inl ⟨by rfl, ?_⟩) (by assumption) ?_
      rotate_left
      · (intro w hSw; (try dsimp only at hSw); go_simp; try with_reducible rfl)
      try simp only [Act.put, List.setIfInBounds_toArray, List.set_cons_zero, List.set_cons_succ]
      refine wpAnyH_take (i := 5) (oi := ⟨some 24, _, _, _, _, _⟩) (v := ?_) rfl (by kernel_rfl) (by kernel_rfl) (by kernel_rfl) (fun _ _ _ h => h) (Or.inl ⟨by rfl, ?_⟩) (by assumption) ?_
      rotate_left
      · (intro w hSw; (try dsimp only at hSw); go_simp; try with_reducible rfl)
      try simp only [Act.put, List.setIfInBounds_toArray, List.set_cons_zero, List.set_cons_succ]
      refine wpAnyH_take (i := 6) (oi := ⟨some 25, _, _, _, _, _⟩) (v := .pointer (some ⟨h, j, none⟩)) rfl (by kernel_rfl) (by kernel_rfl) (by kernel_rfl) (fun _ _ _ h => h) (Or.inl ⟨by rfl, ?_⟩) (by assumption) ?_
      · (intro w hSw; (try dsimp only at hSw); exact exec_idx Try.underlying95 Try.sizeOf3 rfl rfl (by omega) w)
      try simp only [Act.put, List.setIfInBounds_toArray, List.set_cons_zero, List.set_cons_succ]
      refine wpAnyH_take (i := 8) (oi := ⟨some 27, _, _, _, _, _⟩) (v := ?_) rfl (by kernel_rfl) (by kernel_rfl) (by kernel_rfl) (fun _ _ _ h => h) (Or.inl ⟨by rfl, ?_⟩) (by assumption) ?_
      rotate_left
      · (intro w hSw; (try dsimp only at hSw); go_simp; try with_reducible rfl)
      try simp only [Act.put, List.setIfInBounds_toArray, List.set_cons_zero, List.set_cons_succ]
      refine wpAnyH_take (i := 9) (oi := ⟨some 28, _, _, _, _, _⟩) (v := ?_) rfl (by kernel_rfl) (by kernel_rfl) (by kernel_rfl) (fun _ _ _ h => h) (Or.inl ⟨by rfl, ?_⟩) (by assumption) ?_
      rotate_left
      · (intro w hSw; (try dsimp only at hSw); go_simp; try with_reducible rfl)
      try simp only [Act.put, List.setIfInBounds_toArray, List.set_cons_zero, List.set_cons_succ]
      refine wpAnyH_take (i := 10) (oi := ⟨some 29, _, _, _, _, _⟩) (v := .pointer (some ⟨h, i + 1, none⟩)) rfl (by kernel_rfl) (by kernel_rfl) (by kernel_rfl) (fun _ _ _ h => h) (Or.inl ⟨by rfl, ?_⟩) (by assumption) ?_
      · (intro w hSw; (try dsimp only at hSw); exact exec_idx Try.underlying95 Try.sizeOf3 rfl rfl (by omega) w)
      try simp only [Act.put, List.setIfInBounds_toArray, List.set_cons_zero, List.set_cons_succ]
      refine wpAnyH_ready (rs := [7, 11]) (by kernel_rfl) (by simp) ?_
      refine AllReadyH.cons (o := ⟨some 26, _, _, _, _, _⟩) rfl (fun K hK => ?_) ?_
      · skip
        go_simp
        refine hK.out _ _ ?_ (fun hHeld => ?_)
        · (try dsimp only); try exact True.intro
        clear hK K
        try simp only [Act.put, List.setIfInBounds_toArray, List.set_cons_zero, List.set_cons_succ]
        refine wpAnyH_ready (rs := [11]) (by kernel_rfl) (by simp) ?_
        refine AllReadyH.cons (o := ⟨some 30, _, _, _, _, _⟩) rfl (fun K hK => ?_) AllReadyH.nil
        go_simp
        refine hK.out _ _ ?_ (fun hHeld => ?_)
        · (try dsimp only); try exact True.intro
        clear hK K
        try simp only [Act.put, List.setIfInBounds_toArray, List.set_cons_zero, List.set_cons_succ]
        refine wpAnyH_take (i := 12) (oi := ⟨some 31, _, _, _, _, _⟩) (v := .pointer (some ⟨h, i + 1, none⟩)) rfl (by kernel_rfl) (by kernel_rfl) (by kernel_rfl) (fun _ _ _ h => h) (Or.inl ⟨by rfl, ?_⟩) (by assumption) ?_
        · (intro w hSw; (try dsimp only at hSw); exact exec_idx Try.underlying95 Try.sizeOf3 rfl rfl (by omega) w)
        try simp only [Act.put, List.setIfInBounds_toArray, List.set_cons_zero, List.set_cons_succ]
        refine wpAnyH_ready (rs := [13]) (by kernel_rfl) (by simp) ?_
        refine AllReadyH.cons (o := ⟨none, _, _, _, _, _⟩) rfl (fun K hK => ?_) AllReadyH.nil
        go_simp
        refine hK.out _ _ ?_ (fun hHeld => ?_)
        · (try dsimp only); try exact True.intro
        clear hK K
        try simp only [Act.put, List.setIfInBounds_toArray, List.set_cons_zero, List.set_cons_succ]
        refine wpAnyH_take (i := 14) (oi := ⟨some 32, _, _, _, _, _⟩) (v := .pointer (some ⟨h, j, none⟩)) rfl (by kernel_rfl) (by kernel_rfl) (by kernel_rfl) (fun _ _ _ h => h) (Or.inl ⟨by rfl, ?_⟩) (by assumption) ?_
        · (intro w hSw; (try dsimp only at hSw); exact exec_idx Try.underlying95 Try.sizeOf3 rfl rfl (by omega) w)
        try simp only [Act.put, List.setIfInBounds_toArray, List.set_cons_zero, List.set_cons_succ]
        refine wpAnyH_ready (rs := [15]) (by kernel_rfl) (by simp) ?_
        refine AllReadyH.cons (o := ⟨none, _, _, _, _, _⟩) rfl (fun K hK => ?_) AllReadyH.nil
        go_simp
        refine hK.out _ _ ?_ (fun hHeld => ?_)
        · (try dsimp only); try exact True.intro
        clear hK K
        try simp only [Act.put, List.setIfInBounds_toArray, List.set_cons_zero, List.set_cons_succ]
        refine wpAnyH_done (by kernel_rfl) ?_ _
        refine NoPanic.normal ?_
        go_wp2_with fail
        exact ⟨⟨(i : Int), nextS s', swapL l' (i + 1) j, rfl, by omega, by omega, by rw [swapL_len]; exact HL'.out, RS.out, Upd.below HU2.out ((((Below.refl _ _).setCell (p := ⟨h, i + 1, none⟩) hhB _).setCell (p := ⟨h, j, none⟩) hhB _).drew), R.out⟩, by simp [intOf]⟩
      refine AllReadyH.cons (o := ⟨some 30, _, _, _, _, _⟩) rfl (fun K hK => ?_) AllReadyH.nil
      go_simp
      refine hK.out _ _ ?_ (fun hHeld => ?_)
      · (try dsimp only); try exact True.intro
      clear hK K
      try simp only [Act.put, List.setIfInBounds_toArray, List.set_cons_zero, List.set_cons_succ]
      refine wpAnyH_ready (rs := [7]) (by kernel_rfl) (by simp) ?_
      refine AllReadyH.cons (o := ⟨some 26, _, _, _, _, _⟩) rfl (fun K hK => ?_) AllReadyH.nil
      go_simp
      refine hK.out _ _ ?_ (fun hHeld => ?_)
      · (try dsimp only); try exact True.intro
      clear hK K
      try simp only [Act.put, List.setIfInBounds_toArray, List.set_cons_zero, List.set_cons_succ]
      refine wpAnyH_take (i := 12) (oi := ⟨some 31, _, _, _, _, _⟩) (v := .pointer (some ⟨h, i + 1, none⟩)) rfl (by kernel_rfl) (by kernel_rfl) (by kernel_rfl) (fun _ _ _ h => h) (Or.inl ⟨by rfl, ?_⟩) (by assumption) ?_
      · (intro w hSw; (try dsimp only at hSw); exact exec_idx Try.underlying95 Try.sizeOf3 rfl rfl (by omega) w)
      try simp only [Act.put, List.setIfInBounds_toArray, List.set_cons_zero, List.set_cons_succ]
      refine wpAnyH_ready (rs := [13]) (by kernel_rfl) (by simp) ?_
      refine AllReadyH.cons (o := ⟨none, _, _, _, _, _⟩) rfl (fun K hK => ?_) AllReadyH.nil
      go_simp
      refine hK.out _ _ ?_ (fun hHeld => ?_)
      · (try dsimp only); try exact True.intro
      clear hK K
      try simp only [Act.put, List.setIfInBounds_toArray, List.set_cons_zero, List.set_cons_succ]
      refine wpAnyH_take (i := 14) (oi := ⟨some 32, _, _, _, _, _⟩) (v := .pointer (some ⟨h, j, none⟩)) rfl (by kernel_rfl) (by kernel_rfl) (by kernel_rfl) (fun _ _ _ h => h) (Or.inl ⟨by rfl, ?_⟩) (by assumption) ?_
      · (intro w hSw; (try dsimp only at hSw); exact exec_idx Try.underlying95 Try.sizeOf3 rfl rfl (by omega) w)
      try simp only [Act.put, List.setIfInBounds_toArray, List.set_cons_zero, List.set_cons_succ]
      refine wpAnyH_ready (rs := [15]) (by kernel_rfl) (by simp) ?_
      refine AllReadyH.cons (o := ⟨none, _, _, _, _, _⟩) rfl (fun K hK => ?_) AllReadyH.nil
      go_simp
      refine hK.out _ _ ?_ (fun hHeld => ?_)
      · (try dsimp only); try exact True.intro
      clear hK K
      try simp only [Act.put, List.setIfInBounds_toArray, List.set_cons_zero, List.set_cons_succ]
      refine wpAnyH_done (by kernel_rfl) ?_ _
      refine NoPanic.normal ?_
      go_wp2_with fail
      exact ⟨⟨(i : Int), nextS s', swapL l' (i + 1) j, rfl, by omega, by omega, by rw [swapL_len]; exact HL'.out, RS.out, Upd.below HU2.out ((((Below.refl _ _).setCell (p := ⟨h, i + 1, none⟩) hhB _).setCell (p := ⟨h, j, none⟩) hhB _).drew), R.out⟩, by simp [intOf]⟩
      -- REGION>
    · go_wp2
      go_end0
      refine ⟨⟨_, rfl⟩, ?_⟩
      have e0 : z.toNat = 0 := by omega
      rw [HS.out, e0]
      exact ⟨HU.out, HW.out⟩
end Go.Proofs.Ytncjmndiafgaaaa
/- Contracts of Perm: the program's and the reference's. Conditions: as each statement says. -/
namespace Go.Proofs.Ytncjmndiafgaaaa
open Go.RowKit
set_option linter.unusedVariables false
theorem own_head {w : World} {base : Nat} {t : TypeId} {sz n : Nat} {v : Value} {xs : List Value} (h : w.ownsRow base t sz v n xs) (hn : 0 < n) : ∃ g cap, v = .slice (some ⟨g, 0, none⟩) n cap := by
  rcases h.2 with ⟨_, h0⟩ | ⟨g, cap, cur, hv, _⟩
  · omega
  · exact ⟨g, cap, hv⟩
theorem idL_fill (k n : Nat) (hk : k < n) : ((idL k).map (Value.int .i64) ++ List.replicate (n - k) (Value.int .i64 0)).set k (.int .i64 (k : Int)) = (idL (k + 1)).map (Value.int .i64) ++ List.replicate (n - (k + 1)) (Value.int .i64 0) := by
  rw [fill_set _ _ _ _ _ (by simp [idL]) hk, idL_snoc]; simp
set_option maxHeartbeats 1000000 in
theorem Perm_any (b s n : Nat) (w : World) (hd : DrawAt w b s) (hn : n ≤ 65536) :
    Calls Try.prog 67 #[.pointer (some ⟨b, 0, none⟩), .int .i64 n] w fun e w' => e = .returned (.tuple #[.slice (some ⟨w.heap.size, 0, none⟩) n n, .int .i64 0]) ∧ w'.ownsRow w.heap.size 3 1 (.slice (some ⟨w.heap.size, 0, none⟩) n n) n ((permL s n).map (Value.int .i64)) ∧ Upd w.heap.size b (permS s n) w w' := by
  have hmk := fun w => make_int w n (by omega)
  have hlt := hd.lt
  have HD := Lib.hid hd; clear hd
  go_enter Try.func67, Try.ntmps67
  go_wp2_with fail
  refine (size_in b s n _ HD.out (by omega) (by omega)).mono ?_
  rintro e w' ⟨rfl, rfl⟩
  go_wp2_with fail
  go_loopw [19] (fun i wr => ∃ k : Nat, k ≤ n ∧ i = .int .i64 k ∧ Below w.heap.size w wr ∧ wr.ownsRow w.heap.size 3 1 (.slice (some ⟨w.heap.size, 0, none⟩) n n) n ((idL k).map (Value.int .i64) ++ List.replicate (n - k) (Value.int .i64 0))) (fun i _ => n - (intOf i).toNat)
  case atStart =>
    refine ⟨0, Nat.zero_le _, rfl, (Below.refl _ _).alloc (Nat.le_refl _) _, ?_⟩
    refine own_of_row (g := w.heap.size) ?_ (by simp [idL]) (Nat.le_refl _) (by unfold maxLen; omega)
    rw [heap_alloc_new]
    simp [idL]
  case round =>
    obtain ⟨k, hk, rfl, hbw, hown⟩ := hrel
    by_cases hlt2 : k < n
    · have hki : (k : Int) < (n : Int) := by omega
      have hcl : wr.cell? ⟨w.heap.size, k, none⟩ = some (.int .i64 0) := by
        rw [hown.cellAt k (by omega), fill_get _ _ _ _ (by simp [idL]) hlt2]
      have hfr := hown.frozenAt k
      have HW := Lib.hid hown; clear hown
      go_wp2
      have h3 := (HW.out.stored k (.int .i64 (k : Int))).1
      rw [idL_fill k n hlt2] at h3
      go_roundw
      case rel => exact ⟨k + 1, by omega, by go_num, hbw.setCell (p := ⟨w.heap.size, k, none⟩) (Nat.le_refl _) _, h3⟩
      case measure => simp [intOf]; omega
    · obtain rfl : k = n := by omega
      have hs := hbw.size
      have hlt3 : w.heap.size < wr.heap.size := (hown.lt w.heap.size rfl).2
      have HB := Lib.hid hbw; have HW := Lib.hid hown; clear hbw hown
      go_wp2_with fail
      refine (shuffle_any b w.heap.size k k w.heap.size s (idL k) _ (idL_len k) hn hlt (by omega) (by have := HW.out; simpa using this) (HD.out.below HB.out hlt)).mono ?_
      intro e w2 hp
      obtain ⟨⟨u, rfl⟩, hu, hown2⟩ := hp
      have HU := Lib.hid (Upd.bel0 HB.out hu); have HW2 := Lib.hid hown2; clear hu hown2
      go_wp2
      go_ret2
      exact ⟨rfl, HW2.out, HU.out⟩
end Go.Proofs.Ytncjmndiafgaaaa
