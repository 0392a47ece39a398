/- Comparing the links' names. Conditions: as each statement says. -/
import Derived.Test.YtblilfbhohnbgaaGreatNet60
import Derived.Sort.Statements
import Derived.Sort.Grow
namespace Go.Proofs.YtblilfbhohnbgaaGreat
open Go.RowKit
set_option linter.unusedVariables false
/-- How two strings compare. -/
def cmpS (a b : Nm) : Int := if a < b then -1 else if b < a then 1 else 0
def cmpP (x y : Nm × Nm) : Int := if cmpS x.1 y.1 = 0 then cmpS x.2 y.2 else cmpS x.1 y.1
theorem lt_asymm9 {a b : Nm} (h : a < b) : ¬ b < a := fun h2 => List.lt_irrefl _ (List.lt_trans h h2)
theorem lt_tri9 {a b : Nm} (h1 : ¬ a < b) (h2 : ¬ b < a) : a = b := List.le_antisymm (List.not_lt.1 h2) (List.not_lt.1 h1)
theorem cmpS_zero {a b : Nm} : cmpS a b = 0 ↔ a = b := by
  unfold cmpS
  by_cases h1 : a < b
  · rw [if_pos h1]; exact ⟨fun h => by omega, fun h => by subst h; exact absurd h1 (List.lt_irrefl _)⟩
  · rw [if_neg h1]
    by_cases h2 : b < a
    · rw [if_pos h2]; exact ⟨fun h => by omega, fun h => by subst h; exact absurd h2 (List.lt_irrefl _)⟩
    · rw [if_neg h2]; exact ⟨fun _ => lt_tri9 h1 h2, fun _ => rfl⟩
theorem cmpS_neg {a b : Nm} : cmpS a b < 0 ↔ a < b := by
  unfold cmpS
  by_cases h1 : a < b
  · rw [if_pos h1]; simp [h1]
  · rw [if_neg h1]
    by_cases h2 : b < a
    · rw [if_pos h2]; simp [h1]
    · rw [if_neg h2]; simp [h1]
theorem cmpP_neg {x y : Nm × Nm} : cmpP x y < 0 ↔ x.1 < y.1 ∨ (x.1 = y.1 ∧ x.2 < y.2) := by
  unfold cmpP
  by_cases h : cmpS x.1 y.1 = 0
  · rw [if_pos h, cmpS_neg]
    have e := cmpS_zero.1 h
    rw [e]
    exact ⟨fun h => .inr ⟨rfl, h⟩, fun h => h.resolve_left (List.lt_irrefl _) |>.2⟩
  · rw [if_neg h, cmpS_neg]
    exact ⟨.inl, fun h' => h'.resolve_right (fun h2 => h (cmpS_zero.2 h2.1))⟩
theorem cmpP_lt {x y : Nm × Nm} : decide (cmpP x y < 0) = decide (x.1 < y.1 ∨ (x.1 = y.1 ∧ x.2 < y.2)) := by
  by_cases h : cmpP x y < 0
  · rw [decide_eq_true h, decide_eq_true (cmpP_neg.1 h)]
  · rw [decide_eq_false h, decide_eq_false (fun h2 => h (cmpP_neg.2 h2))]
theorem cmpS_any (a b : Nm) (w : World) : Calls Tryz.prog 80 #[encS a, encS b] w fun e w' => e = .returned (.int .i64 (cmpS a b)) ∧ w = w' := by
  by_cases h1 : a < b
  · have hb : Op.bytesLess a b = true := by rw [Go.Proofs.bytesLess_eq]; exact decide_eq_true h1
    have hc : cmpS a b = -1 := by unfold cmpS; rw [if_pos h1]
    rw [hc]
    clear h1 hc
    go_enter Tryz.func80, Tryz.ntmps80
    go_wp2_with (go_at_call 103; refine (nan_any _ _).mono ?_; rintro e w' ⟨rfl, rfl⟩)
    go_ret
    exact ⟨rfl, rfl⟩
  · have hb : Op.bytesLess a b = false := by rw [Go.Proofs.bytesLess_eq]; exact decide_eq_false h1
    by_cases h2 : b < a
    · have he : (a == b) = false := by
        rw [beq_eq_false_iff_ne]
        rintro rfl
        exact List.lt_irrefl _ h2
      have hc : cmpS a b = 1 := by unfold cmpS; rw [if_neg h1, if_pos h2]
      rw [hc]
      clear h1 h2 hc
      go_enter Tryz.func80, Tryz.ntmps80
      go_wp2_with (go_at_call 103; refine (nan_any _ _).mono ?_; rintro e w' ⟨rfl, rfl⟩)
      go_ret
      exact ⟨rfl, rfl⟩
    · have he : (a == b) = true := by rw [beq_iff_eq]; exact lt_tri9 h1 h2
      have hc : cmpS a b = 0 := by unfold cmpS; rw [if_neg h1, if_neg h2]
      rw [hc]
      clear h1 h2 hc
      go_enter Tryz.func80, Tryz.ntmps80
      go_wp2_with (go_at_call 103; refine (nan_any _ _).mono ?_; rintro e w' ⟨rfl, rfl⟩)
      go_ret
      exact ⟨rfl, rfl⟩
set_option maxRecDepth 100000 in
set_option maxHeartbeats 2000000 in
theorem cmpStrs_any (hA hB : Nat) (x y : Nm × Nm) (w : World) (a0 : w.cell? ⟨hA, 0, none⟩ = some (encS x.1)) (a1 : w.cell? ⟨hA, 1, none⟩ = some (encS x.2)) (b0 : w.cell? ⟨hB, 0, none⟩ = some (encS y.1)) (b1 : w.cell? ⟨hB, 1, none⟩ = some (encS y.2)) :
    Calls Tryz.prog 61 #[.slice (some ⟨hA, 0, none⟩) 2 2, .slice (some ⟨hB, 0, none⟩) 2 2] w fun e w' => e = .returned (.int .i64 (cmpP x y)) ∧ w = w' := by
  obtain ⟨x1, x2⟩ := x
  obtain ⟨y1, y2⟩ := y
  dsimp only at a0 a1 b0 b1
  have HP : Hid (cmpP (x1, x2) (y1, y2) = if cmpS x1 y1 = 0 then cmpS x2 y2 else cmpS x1 y1) := Lib.hid rfl
  have HC := Lib.hid (fun a b W => cmpS_any a b W)
  generalize cmpP (x1, x2) (y1, y2) = p at *
  go_enter Tryz.func61, Tryz.ntmps61
  go_wp2_with fail
  go_loopw [5, 6, 7, 8, 11] (fun _ _ _ _ i wr => ∃ k : Nat, k ≤ 2 ∧ i = .int .i64 k ∧ (0 < k → cmpS x1 y1 = 0) ∧ (k = 2 → cmpS x2 y2 = 0) ∧ w = wr) (fun _ _ _ _ i _ => 2 - (intOf i).toNat)
  case atStart => exact ⟨0, by omega, rfl, fun h => absurd h (by omega), fun h => absurd h (by omega), rfl⟩
  case round =>
    obtain ⟨k, hk, rfl, h1, h2, rfl⟩ := hrel
    match k, hk with
    | 0, _ =>
      obtain ⟨c, hc⟩ : ∃ c, c = cmpS x1 y1 := ⟨_, rfl⟩
      have HCE := Lib.hid hc
      have HC1 := Lib.hid (HC.out x1 y1 w)
      rw [← hc] at HC1
      clear h1 h2 hc
      go_wp2_with fail
      refine HC1.out.mono ?_
      rintro e w2 ⟨rfl, rfl⟩
      by_cases h0 : c = 0
      · subst h0
        go_wp2_with fail
        go_roundw
        case rel => exact ⟨1, by omega, by go_num, fun _ => HCE.out.symm, fun h => absurd h (by omega), trivial⟩
        case measure => simp [intOf]
      · have hb : (c != 0) = true := by simp [h0]
        go_wp2_with fail
        go_ret
        exact ⟨by rw [HP.out, ← HCE.out, if_neg h0]; rfl, rfl⟩
    | 1, _ =>
      have HC0 := Lib.hid (h1 (by omega))
      obtain ⟨c, hc⟩ : ∃ c, c = cmpS x2 y2 := ⟨_, rfl⟩
      have HCE := Lib.hid hc
      have HC1 := Lib.hid (HC.out x2 y2 w)
      rw [← hc] at HC1
      clear h1 h2 hc
      go_wp2_with fail
      refine HC1.out.mono ?_
      rintro e w2 ⟨rfl, rfl⟩
      by_cases h0 : c = 0
      · subst h0
        go_wp2_with fail
        go_roundw
        case rel => exact ⟨2, by omega, by go_num, fun _ => HC0.out, fun _ => HCE.out.symm, trivial⟩
        case measure => simp [intOf]
      · have hb : (c != 0) = true := by simp [h0]
        go_wp2_with fail
        go_ret
        exact ⟨by rw [HP.out, ← HCE.out, if_pos HC0.out]; rfl, rfl⟩
    | 2, _ =>
      have HC0 := Lib.hid (h1 (by omega)); have HC2 := Lib.hid (h2 rfl)
      clear h1 h2
      go_wp2_with fail
      go_ret
      exact ⟨by rw [HP.out, if_pos HC0.out, HC2.out]; rfl, rfl⟩
end Go.Proofs.YtblilfbhohnbgaaGreat
