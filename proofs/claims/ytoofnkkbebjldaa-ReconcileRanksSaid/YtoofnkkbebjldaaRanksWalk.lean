/- The walk of ReconcileRanks: it returns true for any input. Conditions: none beyond the arguments' types. -/
import Derived.Test.YtoofnkkbebjldaaRecNewA
namespace Go.Proofs.Ytoofnkkbebjldaa
open Go.RowKit
set_option linter.unusedVariables false
theorem rank_bad {P B n : Int} {s : Nat} {l : List QuestionArg} (h : saneE P B n ≠ 0) : rankE P B n l = saneE P B n ∧ rankV P B s n l = 0 := by
  have e : rankE P B n l = saneE P B n := by unfold rankE; rw [if_pos h]
  exact ⟨e, by unfold rankV; rw [if_neg (by rw [e]; exact h)]⟩
theorem Rank_any (P B : Int) (s : Nat) (n : Int) (A : Option Addr) (m c : Nat) (l : List QuestionArg) (w : World) (hs2 : s < two64) (hm : m ≤ 4096) (hl : l.length = m) (h : Rd w w.heap.size 3 A m (q3Cells l)) :
    Calls Try.prog 43 #[casV P B s, .int .i64 n, .slice A m c] w (RankP P B s n l w) := by
  by_cases h0 : saneE P B n = 0
  · obtain ⟨h1, h2, h3, h4, h5, h6⟩ := saneE_ok.1 h0
    obtain ⟨n, rfl⟩ := Int.eq_ofNat_of_zero_le h5
    obtain ⟨P, rfl⟩ := Int.eq_ofNat_of_zero_le (a := P) (by omega)
    obtain ⟨B, rfl⟩ := Int.eq_ofNat_of_zero_le (a := B) (by omega)
    exact Rank_go P B s n A m c l w (by omega) (by omega) (by omega) (by omega) hs2 (by omega) hm hl h
  · obtain ⟨k1, k2⟩ := rank_bad (s := s) (l := l) h0
    obtain ⟨E, hE⟩ : ∃ E, E = saneE P B n := ⟨_, rfl⟩
    rw [← hE] at h0 k1
    have HE := Lib.hid hE; have HK := Lib.hid (And.intro k1 k2)
    have hEb : (E != 0) = true := by simpa using h0
    clear hE h0 k1 k2 h
    go_enter Try.func43, Try.ntmps43
    go_wp2_with fail
    refine (sane_any P B s n _).mono ?_
    rintro e w1 ⟨rfl, hb1⟩
    rw [← HE.out]
    have HB := Lib.hid (((Below.refl w.heap.size w).alloc (Nat.le_refl _) _).trans (hb1.mono (by simp)))
    clear hb1
    go_wp2_with fail
    go_ret2
    exact ⟨⟨0, E, HK.out.2.symm, HK.out.1.symm, rfl⟩, HB.out⟩
theorem refRank_any (P B : Int) (s : Nat) (n : Int) (A : Option Addr) (m c : Nat) (l : List QuestionArg) (w : World) (hs2 : s < two64) (hm : m ≤ 4096) (hl : l.length = m) (h : Rd w w.heap.size 3 A m (q3Cells l)) :
    Calls Try.prog 44 #[casV P B s, .int .i64 n, .slice A m c] w (RankP P B s n l w) := by
  by_cases h0 : saneE P B n = 0
  · obtain ⟨h1, h2, h3, h4, h5, h6⟩ := saneE_ok.1 h0
    obtain ⟨n, rfl⟩ := Int.eq_ofNat_of_zero_le h5
    obtain ⟨P, rfl⟩ := Int.eq_ofNat_of_zero_le (a := P) (by omega)
    obtain ⟨B, rfl⟩ := Int.eq_ofNat_of_zero_le (a := B) (by omega)
    exact refRank_go P B s n A m c l w (by omega) (by omega) (by omega) (by omega) hs2 (by omega) hm hl h
  · obtain ⟨k1, k2⟩ := rank_bad (s := s) (l := l) h0
    obtain ⟨E, hE⟩ : ∃ E, E = saneE P B n := ⟨_, rfl⟩
    rw [← hE] at h0 k1
    have HE := Lib.hid hE; have HK := Lib.hid (And.intro k1 k2)
    have hEb : (E != 0) = true := by simpa using h0
    clear hE h0 k1 k2 h
    go_enter Try.func44, Try.ntmps44
    go_wp2_with fail
    refine (reflengths_any P B s n _).mono ?_
    rintro e w1 ⟨rfl, hb1⟩
    rw [← HE.out]
    have HB := Lib.hid (((Below.refl w.heap.size w).alloc (Nat.le_refl _) _).trans (hb1.mono (by simp)))
    clear hb1
    go_wp2_with fail
    go_ret2
    exact ⟨⟨0, E, HK.out.2.symm, HK.out.1.symm, rfl⟩, HB.out⟩
set_option maxRecDepth 100000 in
set_option maxHeartbeats 4000000 in
theorem ReconcileRanks_walk (v0 : Value) (i0 : CascadeArg) (n : Int) (v2 : Value) (i2 : QuestsArg) (w : World) (hx0 : IsCascade w v0 i0) (_ : -9223372036854775808 ≤ n ∧ n ≤ 9223372036854775807) (hx2 : IsQuests w v2 i2) :
    Calls Try.prog 11 #[v0, .int .i64 n, v2] w fun e w' => e = .returned (.bool true) ∧ Below w.heap.size w w' := by
  obtain ⟨P, B, s⟩ := i0
  obtain ⟨A, m, c, l⟩ := i2
  obtain ⟨rfl, _, _, hs⟩ := hx0
  obtain ⟨rfl, hc, hm, hl, h⟩ := hx2
  simp only at hl hc hs ⊢
  have hs2 : s < two64 := hs
  have H := Lib.hid h; have HL := Lib.hid hl
  clear h hs hl hm hc
  by_cases hbig : 200 < m
  · have j0 : (200 : Int) < (m : Int) := by omega
    go_enter Try.func11, Try.ntmps11
    go_wp2_with fail
    refine (works_any _).mono ?_
    rintro e w2 ⟨rfl, hb2⟩
    have HB := Lib.hid (bnext ((Below.refl _ _).alloc (Nat.le_refl _) _) hb2)
    clear hb2
    go_wp2_with fail
    go_ret
    exact ⟨rfl, HB.out⟩
  · have j0 : ¬ ((200 : Int) < (m : Int)) := by omega
    have HP := Lib.hid (BoxI.mk (heap_alloc_new w (.cells (casC P B s) 24)) : BoxI _ w.heap.size P B (.int .u64 s) 24)
    have HB0 := Lib.hid ((Below.refl w.heap.size w).alloc (Nat.le_refl _) (.cells (casC P B s) 24))
    go_enter Try.func11, Try.ntmps11
    go_wp2_with fail
    refine (Rank_any P B s n A m c l _ hs2 (by omega) HL.out (H.out.past ((Below.refl _ _).alloc (Nat.le_refl _) _))).mono ?_
    rintro e w1 ⟨⟨V, E, hV, hE, rfl⟩, hb1⟩
    have HP1 := Lib.hid (HP.out.past hb1); have HB1 := Lib.hid (bnext HB0.out hb1); have HV := Lib.hid hV; have HE := Lib.hid hE
    have c0 := HP1.out.c0; have c1 := HP1.out.c1; have c2 := HP1.out.c2
    clear hb1 hV hE HP HB0
    go_wp2_with fail
    refine (refRank_any P B s n A m c l _ hs2 (by omega) HL.out (H.out.past HB1.out)).mono ?_
    rintro e w2 ⟨⟨V2, E2, hV2, hE2, rfl⟩, hb2⟩
    obtain rfl : V2 = V := hV2.trans HV.out.symm
    obtain rfl : E2 = E := hE2.trans HE.out.symm
    have HB2 := Lib.hid (bnext HB1.out hb2)
    clear hb2 hV2 hE2 HV HE c0 c1 c2
    go_wp2_with fail
    refine (works_any _).mono ?_
    rintro e w3 ⟨rfl, hb3⟩
    have HB3 := Lib.hid (bnext HB2.out hb3)
    clear hb3
    go_wp2_with fail
    go_ret
    exact ⟨rfl, HB3.out⟩
end Go.Proofs.Ytoofnkkbebjldaa
