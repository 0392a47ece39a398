/- The contract of the reference's Perm. Conditions: as the statement says. -/
import Derived.Test.YthmooplhhkafcaaPerm3
namespace Go.Proofs.Ythmooplhhkafcaa
open Go.RowKit
set_option linter.unusedVariables false
set_option maxRecDepth 100000 in
set_option maxHeartbeats 1000000 in
theorem refPerm_any (s n : Nat) (w : World) (hs : s < two64) (hn : n ≤ 65536) :
    Calls Try.prog 93 #[.int .u64 s, .int .i64 n] w (RetOwn w 3 1 n ((permL s n).map (Value.int .i64)) (fun v => .tuple #[.int .u64 (permS s n), v])) := by
  have HS0 := Lib.hid hs; clear hs
  obtain ⟨i0, hi0, hz0, hz1, hz2⟩ := info_parts info_int
  have HI0 := Lib.hid hi0; have HZ0 := Lib.hid hz0; have HZ1 := Lib.hid hz1; have HZ2 := Lib.hid hz2
  clear hi0 hz0 hz1 hz2
  go_enter Try.func93, Try.ntmps93
  go_wp2
  go_loopw [6, 7] (fun v i wr => ∃ k : Nat, k ≤ n ∧ i = .int .i64 k ∧ wr.ownsRow w.heap.size 3 1 v k ((idL k).map (Value.int .i64)) ∧ Below w.heap.size w wr) (fun _ i _ => n - (intOf i).toNat)
  case atStart => exact ⟨0, Nat.zero_le _, rfl, World.ownsRow_nil _ _ _ _, Below.refl _ _⟩
  case round =>
    obtain ⟨k, hk, rfl, hown, hbw⟩ := hrel
    have hsz := hbw.size
    by_cases hlt : k < n
    · have hki : (k : Int) < (n : Int) := by omega
      go_wp2_with (at_builtin; refine wpList_append_own _ rfl (.tmp 18) (.tmp 20) _ rfl w.heap.size 3 i0 _ 1 8 Try.underlying54 HI0.out HZ0.out HZ1.out HZ2.out rfl (by decide) _ k _ rfl (hown.alloc _) ⟨wr.heap.size, 0, none⟩ 1 1 [.int .i64 (k : Int)] rfl rfl (cell_one_new _ _ _) (by simp [Value.oneCell']) (by unfold maxLen; omega) (by omega) (by simp; omega) ?_; intro v1 w1 hown1 hg1 _)
      exact ⟨⟨k + 1, by omega, by go_num, by rw [idL_snoc, List.map_append]; exact hown1, (hbw.alloc hsz _).grown hg1 (by simp; omega) (fun g hg => (hown.lt g hg).1)⟩, by simp [intOf]; omega⟩
    · obtain rfl : k = n := by omega
      clear hlt hk
      have HO := Lib.hid hown; have HB := Lib.hid hbw; clear hown hbw hsz
      obtain ⟨wp, rfl⟩ : ∃ wp : World, wp = wr := ⟨_, rfl⟩
      go_wp2
      go_loopw [0, 8] (fun q i wr => ∃ (z : Int) (s' : Nat) (l' : List Int), i = .int .i64 z ∧ q = .int .u64 s' ∧ s' < two64 ∧ -1 ≤ z ∧ z ≤ (k : Int) - 1 ∧ l'.length = k ∧ shuf (k - 1) s (idL k) = shuf z.toNat s' l' ∧ Below w.heap.size w wr ∧ wr.ownsRow w.heap.size 3 1 _ k (l'.map (Value.int .i64))) (fun _ i _ => (intOf i).toNat)
      case atStart => exact ⟨(k : Int) - 1, s, idL k, rfl, rfl, HS0.out, by omega, by omega, idL_len k, by rw [show ((k : Int) - 1).toNat = k - 1 by omega], HB.out, HO.out⟩
      case round =>
        obtain ⟨z, s', l', rfl, rfl, hs', hz1, hz2, hl', hsh, hbw, hown⟩ := hrel
        have hHS := Lib.hid hs'; have HL' := Lib.hid hl'; have HS := Lib.hid hsh
        clear hs' hl' hsh
        by_cases hlt : 0 < z
        · obtain ⟨i, rfl⟩ : ∃ i : Nat, z = (i : Int) + 1 := ⟨(z - 1).toNat, by omega⟩
          have hi : i + 1 < k := by omega
          obtain ⟨g, cap, hv⟩ := own_head hown (by omega)
          subst hv
          have hge : w.heap.size ≤ g := (hown.lt g rfl).1
          have HW := Lib.hid hown; have HB2 := Lib.hid hbw; clear hown hbw
          have e1 : (i : Int) + 1 + 1 = ((i + 2 : Nat) : Int) := by omega
          go_wp2_with fail
          refine (refBelow_ex s' (i + 2) _ hHS.out (by omega) (by omega)).mono ?_
          rintro e w2 ⟨s3, j, hs3, hjj, rfl, hq⟩
          have HN : Hid (s3 < two64) := Lib.hid (by rw [hs3]; exact nextS_lt s')
          have HB3 := Lib.hid (HB2.out.trans (hq.below w.heap.size))
          have hown2 : w2.ownsRow w.heap.size 3 1 (.slice (some ⟨g, 0, none⟩) k cap) k (l'.map (Value.int .i64)) := by
            obtain ⟨d, rfl⟩ := hq; exact HW.out
          clear hq
          have HSS : Hid (shuf (i + 1) s' l' = shuf i s3 (swapL l' (i + 1) j)) := Lib.hid (by rw [hs3, hjj]; rfl)
          have hj : j < i + 2 := by rw [hjj]; exact Nat.mod_lt _ (by omega)
          clear hs3 hjj
          have c1 : w2.cell? ⟨g, i + 1, none⟩ = some (.int .i64 (l'.getD (i + 1) 0)) := by rw [hown2.cellAt (i + 1) (by omega)]; exact i64_cells_get _ _ (by rw [HL'.out]; exact hi)
          have c2 : w2.cell? ⟨g, j, none⟩ = some (.int .i64 (l'.getD j 0)) := by rw [hown2.cellAt j (by omega)]; exact i64_cells_get _ _ (by rw [HL'.out]; omega)
          have f1 : w2.frozen? ⟨g, i + 1, none⟩ = false := hown2.frozenAt _
          have f2 : w2.frozen? ⟨g, j, none⟩ = false := hown2.frozenAt _
          have b1 : (0 : Int) ≤ (j : Int) := by omega
          have b2 : (j : Int) < (k : Int) := by omega
          have b3 : (i : Int) + 1 < (k : Int) := by omega
          have b4 : (0 : Int) ≤ (i : Int) + 1 := by omega
          obtain ⟨v', hy'⟩ := cell?_setCell_some (w := w2) (p := ⟨g, i + 1, none⟩) (x := .int .i64 (l'.getD j 0)) (q := ⟨g, j, none⟩) (v := .int .i64 (l'.getD j 0)) (by exact c2)
          have r1 := (hown2.stored (i + 1) (.int .i64 (l'.getD j 0))).1
          have r2 := (World.ownsRow.stored r1 j (.int .i64 (l'.getD (i + 1) 0))).1
          have r3 : ((l'.map (Value.int .i64)).set (i + 1) (.int .i64 (l'.getD j 0))).set j (.int .i64 (l'.getD (i + 1) 0)) = (swapL l' (i + 1) j).map (Value.int .i64) := by
            rw [swapL, List.map_set, List.map_set]
          rw [r3] at r2
          have R := Lib.hid r2
          clear r1 r2 r3 hown2
          generalize l'.getD j 0 = x2 at c2 hy' R
          generalize l'.getD (i + 1) 0 = x1 at c1 R
          have RS : Hid (shuf (k - 1) s (idL k) = shuf i s3 (swapL l' (i + 1) j)) := Lib.hid (by rw [HS.out, ← HSS.out]; rfl)
          clear HSS HS
          go_wp2_with fail
          go_quiet (fail)
          have hy2 : ((w2.drewN nq).setCell ⟨g, i + 1, none⟩ (.int .i64 x2)).cell? ⟨g, j, none⟩ = some v' := hy'
          have f3 : ((w2.drewN nq).setCell ⟨g, i + 1, none⟩ (.int .i64 x2)).frozen? ⟨g, j, none⟩ = false := (setCell_frozen _ _ _ _).trans f2
          have f4 : (w2.setCell ⟨g, i + 1, none⟩ (.int .i64 x2)).frozen? ⟨g, j, none⟩ = false := (setCell_frozen _ _ _ _).trans f2
          go_wp2_with fail
          exact ⟨⟨(i : Int), s3, swapL l' (i + 1) j, rfl, rfl, HN.out, by omega, by omega, by rw [swapL_len]; exact HL'.out, RS.out, (((HB3.out.trans ((Qw.refl w2).drewN nq |>.below _)).setCell (p := ⟨g, i + 1, none⟩) hge _).setCell (p := ⟨g, j, none⟩) hge _), R.out⟩, by simp [intOf]⟩
        · have e0 : z.toNat = 0 := by omega
          have HW := Lib.hid (show RetOwn w 3 1 k ((permL s k).map (Value.int .i64)) (fun v => .tuple #[.int .u64 (permS s k), v]) (.returned (.tuple #[.int .u64 s', _])) wr from by
            have h1 : permL s k = l' := by rw [permL, HS.out, e0]; rfl
            have h2 : permS s k = s' := by rw [permS, HS.out, e0]; rfl
            rw [h1, h2]
            exact RetOwn.of (mk := fun v => .tuple #[.int .u64 s', v]) hown hbw)
          go_wp2
          go_ret2
          exact HW.out
end Go.Proofs.Ythmooplhhkafcaa
