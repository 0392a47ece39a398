/- The contract of own (a copy of a list of shares). Conditions: as the statement says. -/
import Derived.Test.YthmooplhhkafcaaShareV
import Derived.BigRegion
import Derived.Deep.RegionHeld3
namespace Go.Proofs.Ythmooplhhkafcaa
open Go.RowKit
set_option linter.unusedVariables false
theorem bcells2 {w w' : World} (h : Below w.heap.size w w') {b o : Nat} {v : Value} (hc : w.cell? ⟨b, o, none⟩ = some v) : w'.cell? ⟨b, o, none⟩ = some v := by
  refine (h.cell (p := ⟨b, o, none⟩) ?_).trans hc
  unfold World.cell? at hc
  split at hc
  · rename_i cc t fz hb; exact (Array.getElem?_eq_some_iff.1 hb).1
  · cases hc
set_option maxRecDepth 100000 in
set_option maxHeartbeats 2000000 in
theorem own_any (A : Option Addr) (n c : Nat) (l : List ShareV) (w : World) (hn : n ≤ 1000000) (h : ShR w w.heap.size A n l) :
    Calls Try.prog 21 #[.slice A n c] w (RetShares w n (l.map ShareV.view) id) := by
  have H := Lib.hid h
  clear h
  go_enter Try.func21, Try.ntmps21
  go_wp2_with fail
  go_loopw [3, 4] (fun vo v wr => ∃ (k : Nat) (m : List ShareV), k ≤ n ∧ v = .int .i64 k ∧ ShOwn wr w.heap.size vo k m ∧ m.map ShareV.view = (l.take k).map ShareV.view ∧ Below w.heap.size w wr) (fun _ v _ => n - (intOf v).toNat)
  case atStart => exact ⟨0, [], Nat.zero_le _, rfl, ShOwn.nil _ _, rfl, Below.refl _ _⟩
  case round =>
    obtain ⟨wa, rfl⟩ : ∃ wa : World, wa = wr := ⟨_, rfl⟩
    obtain ⟨k, m, hk, rfl, hown, hm, hbw⟩ := hrel
    have HO := Lib.hid hown; have HM := Lib.hid hm
    have hsz := hbw.size
    clear hown hm
    by_cases hlt : k < n
    · have hlt' : (k : Int) < (n : Int) := by omega
      have hkl : k < l.length := by rw [H.out.1]; exact hlt
      obtain ⟨b, off, rfl, hb, hc⟩ := H.out.2.1.2 (by omega)
      have hok := (H.out.2.2 _ (List.getElem_mem hkl))
      have c0 : wa.cell? ⟨b, off + k * 2, none⟩ = some (.int .u8 (l[k]).X) := (hbw.cell (p := ⟨b, off + k * 2, none⟩) hb).trans (hc _ _ (shCells_0 l k hkl))
      have c1 : wa.cell? ⟨b, off + k * 2 + 1, none⟩ = some (.slice (l[k]).A (l[k]).n (l[k]).c) := (hbw.cell (p := ⟨b, off + k * 2 + 1, none⟩) hb).trans (hc _ _ (shCells_1 l k hkl))
      have HV : Hid ((l.take (k + 1)).map ShareV.view = (l.take k).map ShareV.view ++ [(l[k]).view]) := Lib.hid (by rw [take_snoc _ _ hkl, List.map_append]; rfl)
      generalize l[k] = s at c0 c1 hok HV
      obtain ⟨X, A1, n1, cp1, Y⟩ := s
      obtain ⟨hX, hYB, hnc, hn1, hyl, hrd⟩ := hok
      dsimp only [ShareV.view] at c0 c1 hX hn1 hyl hrd hnc hYB HV
      have RY := Lib.hid ((hrd.below hbw).mono hsz)
      have HYB := Lib.hid hYB
      clear hc hkl hrd hYB
      go_wp2_with fail
      have hfar : ∀ W : World, (∃ o, W = wa.drew.alloc o ∨ W = (wa.alloc o).drew) → Below wa.heap.size wa W := by
        rintro W ⟨o, rfl | rfl⟩
        · exact ((Qw.refl wa).drew.below _).alloc (Nat.le_refl _) _
        · exact ((Below.refl _ _).alloc (Nat.le_refl _) _).trans ((Qw.refl _).drew.below _)
      refine wp_region_held_drew (S := fun w' => Below w.heap.size wa w') (by kernel_rfl) ?_ (fun hHeld => ?_)
      · (try dsimp only); first | exact Below.refl _ _ | exact (Qw.refl wa).drew.below _ | exact (hb2f.mono hsz).trans hb3 | exact ((hb2f.mono hsz)) | exact ((hb2f.mono hsz).alloc (by omega) _) | exact hHeld.alloc (Nat.le_trans hsz (by simp)) _ | (refine hHeld.alloc ?_ _; simp; omega)
      refine wpAnyH_take (i := 0) (oi := ⟨some 11, _, _, _, _, _⟩) (v := ?_) rfl (by kernel_rfl) (by kernel_rfl) (by kernel_rfl) (fun _ _ _ h => h) (Or.inl ⟨by rfl, ?_⟩) (by assumption) ?_
      rotate_left
      · (intro w hSw; (try dsimp only at hSw); go_simp; try with_reducible rfl)
      try simp only [Act.put, List.setIfInBounds_toArray, List.set_cons_zero, List.set_cons_succ]
      refine wpAnyH_take (i := 1) (oi := ⟨some 12, _, _, _, _, _⟩) (v := ?_) rfl (by kernel_rfl) (by kernel_rfl) (by kernel_rfl) (fun _ _ _ h => h) (Or.inl ⟨by rfl, ?_⟩) (by assumption) ?_
      rotate_left
      · (intro w hSw; (try dsimp only at hSw); go_simp; try with_reducible rfl)
      try simp only [Act.put, List.setIfInBounds_toArray, List.set_cons_zero, List.set_cons_succ]
      refine wpAnyH_take (i := 2) (oi := ⟨some 13, _, _, _, _, _⟩) (v := ?_) rfl (by kernel_rfl) (by kernel_rfl) (by kernel_rfl) (fun _ _ _ h => h) (Or.inl ⟨by rfl, ?_⟩) (by assumption) ?_
      rotate_left
      · (intro w hSw; (try dsimp only at hSw); go_simp; try with_reducible rfl)
      try simp only [Act.put, List.setIfInBounds_toArray, List.set_cons_zero, List.set_cons_succ]
      refine wpAnyH_take (i := 3) (oi := ⟨some 14, _, _, _, _, _⟩) (v := ?_) rfl (by kernel_rfl) (by kernel_rfl) (by kernel_rfl) (fun _ _ _ h => h) (Or.inl ⟨by rfl, ?_⟩) (by assumption) ?_
      rotate_left
      · (intro w hSw; (try dsimp only at hSw); go_simp; try with_reducible rfl)
      try simp only [Act.put, List.setIfInBounds_toArray, List.set_cons_zero, List.set_cons_succ]
      refine wpAnyH_take (i := 4) (oi := ⟨some 15, _, _, _, _, _⟩) (v := ?_) rfl (by kernel_rfl) (by kernel_rfl) (by kernel_rfl) (fun _ _ _ h => h) (Or.inl ⟨by rfl, ?_⟩) (by assumption) ?_
      rotate_left
      · (intro w hSw; (try dsimp only at hSw); go_simp; try with_reducible rfl)
      try simp only [Act.put, List.setIfInBounds_toArray, List.set_cons_zero, List.set_cons_succ]
      refine wpAnyH_take (i := 5) (oi := ⟨some 16, _, _, _, _, _⟩) (v := .int .u8 X) rfl (by kernel_rfl) (by kernel_rfl) (by kernel_rfl) (fun _ _ _ h => h) (Or.inl ⟨by rfl, ?_⟩) (by assumption) ?_
      · (intro w hSw; (try dsimp only at hSw); have hq := (hSw.cell (p := ⟨b, off + k * 2, none⟩) hb).trans c0; go_simp)
      try simp only [Act.put, List.setIfInBounds_toArray, List.set_cons_zero, List.set_cons_succ]
      refine wpAnyH_take (i := 7) (oi := ⟨some 18, _, _, _, _, _⟩) (v := ?_) rfl (by kernel_rfl) (by kernel_rfl) (by kernel_rfl) (fun _ _ _ h => h) (Or.inl ⟨by rfl, ?_⟩) (by assumption) ?_
      rotate_left
      · (intro w hSw; (try dsimp only at hSw); go_simp; try with_reducible rfl)
      try simp only [Act.put, List.setIfInBounds_toArray, List.set_cons_zero, List.set_cons_succ]
      refine wpAnyH_take (i := 8) (oi := ⟨some 19, _, _, _, _, _⟩) (v := ?_) rfl (by kernel_rfl) (by kernel_rfl) (by kernel_rfl) (fun _ _ _ h => h) (Or.inl ⟨by rfl, ?_⟩) (by assumption) ?_
      rotate_left
      · (intro w hSw; (try dsimp only at hSw); go_simp; try with_reducible rfl)
      try simp only [Act.put, List.setIfInBounds_toArray, List.set_cons_zero, List.set_cons_succ]
      refine wpAnyH_take (i := 9) (oi := ⟨some 20, _, _, _, _, _⟩) (v := ?_) rfl (by kernel_rfl) (by kernel_rfl) (by kernel_rfl) (fun _ _ _ h => h) (Or.inl ⟨by rfl, ?_⟩) (by assumption) ?_
      rotate_left
      · (intro w hSw; (try dsimp only at hSw); go_simp; try with_reducible rfl)
      try simp only [Act.put, List.setIfInBounds_toArray, List.set_cons_zero, List.set_cons_succ]
      refine wpAnyH_take (i := 10) (oi := ⟨some 21, _, _, _, _, _⟩) (v := ?_) rfl (by kernel_rfl) (by kernel_rfl) (by kernel_rfl) (fun _ _ _ h => h) (Or.inl ⟨by rfl, ?_⟩) (by assumption) ?_
      rotate_left
      · (intro w hSw; (try dsimp only at hSw); go_simp; try with_reducible rfl)
      try simp only [Act.put, List.setIfInBounds_toArray, List.set_cons_zero, List.set_cons_succ]
      refine wpAnyH_take (i := 11) (oi := ⟨some 22, _, _, _, _, _⟩) (v := .slice A1 n1 cp1) rfl (by kernel_rfl) (by kernel_rfl) (by kernel_rfl) (fun _ _ _ h => h) (Or.inl ⟨by rfl, ?_⟩) (by assumption) ?_
      · (intro w hSw; (try dsimp only at hSw); have hq := (hSw.cell (p := ⟨b, off + k * 2 + 1, none⟩) hb).trans c1; go_simp)
      try simp only [Act.put, List.setIfInBounds_toArray, List.set_cons_zero, List.set_cons_succ]
      refine wpAnyH_ready (rs := [6]) (by kernel_rfl) (by simp) ?_
      refine AllReadyH.cons (o := ⟨some 17, _, _, _, _, _⟩) rfl (fun K hK => ?_) AllReadyH.nil
      go_simp
      refine hK.out _ _ ?_ (fun hHeld => ?_)
      · (try dsimp only); first | exact Below.refl _ _ | exact (Qw.refl wa).drew.below _ | exact (hb2f.mono hsz).trans hb3 | exact ((hb2f.mono hsz)) | exact ((hb2f.mono hsz).alloc (by omega) _) | exact hHeld.alloc (Nat.le_trans hsz (by simp)) _ | (refine hHeld.alloc ?_ _; simp; omega)
      clear hK K
      try simp only [Act.put, List.setIfInBounds_toArray, List.set_cons_zero, List.set_cons_succ]
      refine wpAnyH_ready (rs := [12]) (by kernel_rfl) (by simp) ?_
      refine AllReadyH.cons (o := ⟨some 23, _, _, _, _, _⟩) rfl (fun K hK => ?_) AllReadyH.nil
      refine step_copyB elB_u8 (.tmp 17) (.tmp 22) (by rfl) (by rfl) (by rfl) (by rfl) (RY.out.below (hfar _ (by first | exact ⟨_, .inl rfl⟩ | exact ⟨_, .inr rfl⟩))) (by omega) (by decide) ?_
      intro A2 c2 w2 hc2 hr2 ho2 hb2
      have hb2f := (hfar _ (by first | exact ⟨_, .inl rfl⟩ | exact ⟨_, .inr rfl⟩)).trans (hb2.mono (hfar _ (by first | exact ⟨_, .inl rfl⟩ | exact ⟨_, .inr rfl⟩)).size)
      have HO2 := Lib.hid (HO.out.past hb2f)
      have HSN : Hid (ShareV.own w2 w.heap.size ⟨X, A2, n1, c2, Y⟩) := Lib.hid ⟨hX, HYB.out, hc2, hn1, hyl, fun h0 => ownsRow_mono (ho2 h0) (Nat.le_trans hsz (hfar _ (by first | exact ⟨_, .inl rfl⟩ | exact ⟨_, .inr rfl⟩)).size)⟩
      have hs2 := hb2f.size
      refine hK.out _ _ ?_ (fun hHeld => ?_)
      · (try dsimp only); first | exact Below.refl _ _ | exact (Qw.refl wa).drew.below _ | exact (hb2f.mono hsz).trans hb3 | exact ((hb2f.mono hsz)) | exact ((hb2f.mono hsz).alloc (by omega) _) | exact hHeld.alloc (Nat.le_trans hsz (by simp)) _ | (refine hHeld.alloc ?_ _; simp; omega)
      clear hK K
      try simp only [Act.put, List.setIfInBounds_toArray, List.set_cons_zero, List.set_cons_succ]
      refine wpAnyH_take (i := 13) (oi := ⟨some 24, _, _, _, _, _⟩) (v := ?_) rfl (by kernel_rfl) (by kernel_rfl) (by kernel_rfl) (fun _ _ _ h => h) (Or.inl ⟨by rfl, ?_⟩) (by assumption) ?_
      rotate_left
      · (intro w hSw; (try dsimp only at hSw); go_simp; try with_reducible rfl)
      try simp only [Act.put, List.setIfInBounds_toArray, List.set_cons_zero, List.set_cons_succ]
      refine wpAnyH_ready (rs := [14]) (by kernel_rfl) (by simp) ?_
      refine AllReadyH.cons (o := ⟨some 25, _, _, _, _, _⟩) rfl (fun K hK => ?_) AllReadyH.nil
      go_simp
      refine hK.out _ _ ?_ (fun hHeld => ?_)
      · (try dsimp only); first | exact Below.refl _ _ | exact (Qw.refl wa).drew.below _ | exact (hb2f.mono hsz).trans hb3 | exact ((hb2f.mono hsz)) | exact ((hb2f.mono hsz).alloc (by omega) _) | exact hHeld.alloc (Nat.le_trans hsz (by simp)) _ | (refine hHeld.alloc ?_ _; simp; omega)
      clear hK K
      try simp only [Act.put, List.setIfInBounds_toArray, List.set_cons_zero, List.set_cons_succ]
      refine wpAnyH_ready (rs := [15]) (by kernel_rfl) (by simp) ?_
      refine AllReadyH.cons (o := ⟨some 26, _, _, _, _, _⟩) rfl (fun K hK => ?_) AllReadyH.nil
      refine step_push elB_share (.tmp 11) (.tmp 25) (by rfl) (by rfl) w.heap.size k _ (by rfl) HO2.out.2.1 (by rfl) (by rfl) (by intro u hu; simp at hu; rcases hu with rfl | rfl <;> rfl) (by omega) (by decide) (by omega) ?_
      intro v3 w3 hown3 hb3 hg3
      refine hK.out _ _ ?_ (fun hHeld => ?_)
      · (try dsimp only); first | exact Below.refl _ _ | exact (Qw.refl wa).drew.below _ | exact (hb2f.mono hsz).trans hb3 | exact ((hb2f.mono hsz)) | exact ((hb2f.mono hsz).alloc (by omega) _) | exact hHeld.alloc (Nat.le_trans hsz (by simp)) _ | (refine hHeld.alloc ?_ _; simp; omega)
      clear hK K
      try simp only [Act.put, List.setIfInBounds_toArray, List.set_cons_zero, List.set_cons_succ]
      refine wpAnyH_take (i := 16) (oi := ⟨some 3, _, _, _, _, _⟩) (v := ?_) rfl (by kernel_rfl) (by kernel_rfl) (by kernel_rfl) (fun _ _ _ h => h) (Or.inl ⟨by rfl, ?_⟩) (by assumption) ?_
      rotate_left
      · (intro w hSw; (try dsimp only at hSw); go_simp; try with_reducible rfl)
      try simp only [Act.put, List.setIfInBounds_toArray, List.set_cons_zero, List.set_cons_succ]
      refine wpAnyH_done (by kernel_rfl) ?_ _
      go_wp2_with fail
      refine ⟨⟨k + 1, m ++ [⟨X, A2, n1, c2, Y⟩], hlt, by go_num, (HO2.out.push HSN.out (by simpa using hown3) hg3), by rw [List.map_append, HM.out, HV.out]; rfl, hbw.trans hHeld⟩, by simp [intOf]; omega⟩
    · have hlt' : ¬ (k : Int) < (n : Int) := by omega
      obtain rfl : k = n := by omega
      have hm := HM.out
      rw [List.take_of_length_le (by rw [H.out.1]; exact Nat.le_refl _)] at hm
      go_wp2_with fail
      go_ret
      exact RetShares.of (mk := id) HO.out hm hbw
end Go.Proofs.Ythmooplhhkafcaa
