/- The walk of AlgebraToeplitz: it returns true for every seed, bit string and number. -/
import Derived.Test.YtahfkhnhmnjbeaaKnown
import Derived.Test.YtahfkhnhmnjbeaaToep2
import Derived.Test.YtahfkhnhmnjbeaaOpen
namespace Go.Proofs.Ytahfkhnhmnjbeaa
open Go.RowKit
theorem sameB_self (xs : List Bool) : sameB xs xs = true := by simp [sameB]
theorem Same_self (A A' : Option Addr) (n m c c' : Nat) (xs : List Bool) (w : World) (hn : n ≤ 1073741824) (hm : m ≤ 1073741824) (h : Rd w w.heap.size 1 A n (xs.map Value.bool)) (h' : Rd w w.heap.size 1 A' m (xs.map Value.bool)) :
    Calls Try.prog 26 #[.slice A n c, .slice A' m c'] w fun e w' => e = .returned (.bool true) ∧ Below w.heap.size w w' := by
  have := Same_any A A' n m c c' xs xs w hn hm h h'
  rw [sameB_self] at this
  exact this
theorem Toep_big (i0 i1 : BitsArg) (out : Int) (w : World) (hx0 : i0.n ≤ 9223372036854775807) (hx1 : i1.n ≤ 9223372036854775807) (hb : 1200 < i0.n ∨ 600 < i1.n) :
    Calls Try.prog 6 #[.slice i0.A i0.n i0.c, .slice i1.A i1.n i1.c, .int .i64 out] w fun e w' => e = .returned (.bool true) ∧ Below w.heap.size w w' := by
  by_cases h0 : 1200 < i0.n
  · have h0' : (1200 : Int) < (i0.n : Int) := by omega
    clear hb h0
    go_enter Try.func6, Try.ntmps6
    go_wp2_with (go_at_call 15; refine (known_any _).mono ?_; rintro e w9 ⟨rfl, hb9⟩)
    go_ret
    exact ⟨rfl, hb9⟩
  · have h0' : (i0.n : Int) ≤ 1200 := by omega
    have h1' : (600 : Int) < (i1.n : Int) := by omega
    clear hb h0
    go_enter Try.func6, Try.ntmps6
    go_wp2_with (go_at_call 15; refine (known_any _).mono ?_; rintro e w9 ⟨rfl, hb9⟩)
    go_ret
    exact ⟨rfl, hb9⟩
/-- Up to the call of Toeplitz. -/
theorem Toep_in (A A' : Option Addr) (s cs n c : Nat) (seed a : List Bool) (out E : Int) (w : World) (hs : (s : Int) ≤ 1200) (hn : (n : Int) ≤ 600)
    (h : Rd w w.heap.size 1 A s (seed.map Value.bool)) (h' : Rd w w.heap.size 1 A' n (a.map Value.bool)) (hE : E = toepE n s out) :
    Calls Try.prog 6 #[.slice A s cs, .slice A' n c, .int .i64 out] w fun e w' => e = .returned (.bool true) ∧ Below w.heap.size w w' := by
  have H := Lib.hid h; clear h
  have H' := Lib.hid h'; clear h'
  by_cases h0 : E = 0
  · have e0 : toepE n s out = 0 := by rw [← hE, h0]
    have e1 : n ≤ 512 ∧ 0 ≤ out ∧ out ≤ 512 ∧ (s : Int) = seedB n out := by
      unfold toepE at e0
      split at e0
      · omega
      · split at e0
        · omega
        · split at e0
          · omega
          · rename_i h3; refine ⟨by omega, by omega, by omega, ?_⟩; omega
    obtain ⟨g1, g2, g3, g4⟩ := e1
    obtain ⟨o, rfl⟩ := Int.eq_ofNat_of_zero_le g2
    have hso : s = n + o - 1 := by unfold seedB at g4; split at g4 <;> omega
    have hg4 : ((s : Int) != seedB n o) = false := by rw [bne_eq_false_iff_eq]; exact g4
    have HSO := Lib.hid hso
    clear hE h0 e0 g4 hso
    go_enter Try.func6, Try.ntmps6
    go_wp2_with fail
    refine (kept_any _ _ _ seed _ (by omega) H.out).mono ?_
    rintro e w1 ⟨A1, c1, rfl, hc1, hown1, hb1⟩
    have R1 := Lib.hid (Rd.own hown1); clear hown1
    have s1 := hb1.size
    dsimp only [id]
    go_wp2_with fail
    refine (kept_any _ _ _ a _ (by omega) ((H'.out.below hb1).mono s1)).mono ?_
    rintro e w2 ⟨A2, c2, rfl, hc2, hown2, hb2⟩
    have R2 := Lib.hid (Rd.own hown2); clear hown2
    have s2 := hb2.size
    have R1' := Lib.hid ((R1.out.below hb2).mono s2); clear R1
    dsimp only [id]
    go_wp2_with fail
    refine (Toeplitz_ok _ _ _ _ _ _ o seed a _ (by omega) (by omega) HSO.out hc1 R1'.out R2.out).mono ?_
    rintro e w3 ⟨A3, c3, rfl, hc3, hown3, hb3⟩
    have R3 := Lib.hid (Rd.own hown3); clear hown3
    have s3 := hb3.size
    have b3 : Below w.heap.size w w3 := (hb1.trans (hb2.mono s1)).trans (hb3.mono (by omega))
    have T1 := Lib.hid ((R1'.out.below hb3).mono s3); clear R1'
    have T2 := Lib.hid ((R2.out.below hb3).mono s3); clear R2
    clear hb1 hb2 hb3
    go_wp2_with fail
    refine (Same_self _ _ _ _ _ _ seed _ (by omega) (by omega) T1.out ((H.out.below b3).mono (by omega))).mono ?_
    rintro e w4 ⟨rfl, hb4⟩
    have s4 := hb4.size
    have b4 := b3.trans (hb4.mono (by omega))
    go_wp2_with fail
    refine (Same_self _ _ _ _ _ _ a _ (by omega) (by omega) ((T2.out.below hb4).mono s4) ((H'.out.below b4).mono (by omega))).mono ?_
    rintro e w5 ⟨rfl, hb5⟩
    have s5 := hb5.size
    have b5 := b4.trans (hb5.mono (by omega))
    go_wp2_with fail
    refine (SeedBits_any _ _ _ (by omega) (by omega) (by omega) (by omega)).mono ?_
    rintro e w' ⟨rfl, rfl⟩
    go_wp2_with fail
    refine (refToeplitz_any _ _ _ _ _ _ o seed a _ (by omega) (by omega) HSO.out ((H.out.below b5).mono (by omega)) ((H'.out.below b5).mono (by omega))).mono ?_
    rintro e w6 ⟨A6, c6, rfl, hc6, hown6, hb6⟩
    have R6 := Lib.hid (Rd.own hown6); clear hown6
    have s6 := hb6.size
    have b6 := b5.trans (hb6.mono (by omega))
    dsimp only [id]
    go_wp2_with fail
    refine (Same_self _ _ _ _ _ _ (toepL seed a o a.length) _ (by omega) (by omega) ((((R3.out.below hb4).mono s4).below hb5).mono s5 |>.below hb6 |>.mono s6) R6.out).mono ?_
    rintro e w7 ⟨rfl, hb7⟩
    have s7 := hb7.size
    have b7 := b6.trans (hb7.mono (by omega))
    go_wp2_with fail
    refine (known_any _).mono ?_
    rintro e w8 ⟨rfl, hb8⟩
    go_wp2_with fail
    go_ret
    exact ⟨rfl, b7.trans (hb8.mono (by omega))⟩
  · have hne : toepE n s out ≠ 0 := by rw [← hE]; exact h0
    have hc : (512 < n ∧ E = 4) ∨ (n ≤ 512 ∧ out < 0 ∧ E = 3) ∨ (n ≤ 512 ∧ 0 ≤ out ∧ 512 < out ∧ E = 3) ∨ (n ≤ 512 ∧ 0 ≤ out ∧ out ≤ 512 ∧ ((s : Int) != seedB n out) = true ∧ E = 22) := by
      rw [bne_iff_ne]
      unfold toepE at hE hne
      repeat' split at hE
      all_goals omega
    have HNE := Lib.hid hne
    have HE : Hid (toepE n s out = E) := Lib.hid hE.symm
    clear hE h0 hne
    rcases hc with ⟨g1, hE⟩ | ⟨g1, g2, hE⟩ | ⟨g1, g2, g3, hE⟩ | ⟨g1, g2, g3, g4, hE⟩
    all_goals
      rw [hE] at HE
      clear hE
      have g1' := Int.ofNat_le.2 g1
      go_enter Try.func6, Try.ntmps6
      go_wp2_with fail
      refine (kept_any _ _ _ seed _ (by omega) H.out).mono ?_
      rintro e w1 ⟨A1, c1, rfl, hc1, hown1, hb1⟩
      have R1 := Lib.hid (Rd.own hown1); clear hown1
      have s1 := hb1.size
      dsimp only [id]
      go_wp2_with fail
      refine (kept_any _ _ _ a _ (by omega) ((H'.out.below hb1).mono s1)).mono ?_
      rintro e w2 ⟨A2, c2, rfl, hc2, hown2, hb2⟩
      have R2 := Lib.hid (Rd.own hown2); clear hown2
      have s2 := hb2.size
      have b2 : Below w.heap.size w w2 := hb1.trans (hb2.mono s1)
      dsimp only [id]
      go_wp2_with fail
      refine (Toeplitz_bad _ _ _ _ _ _ _ _ (by omega) HNE.out).mono ?_
      rw [HE.out]
      rintro e w' ⟨rfl, rfl⟩
      go_wp2_with fail
      refine (Same_self _ _ _ _ _ _ seed _ (by omega) (by omega) ((R1.out.below hb2).mono s2) ((H.out.below b2).mono (by omega))).mono ?_
      rintro e w4 ⟨rfl, hb4⟩
      have s4 := hb4.size
      have b4 := b2.trans (hb4.mono (by omega))
      go_wp2_with fail
      refine (Same_self _ _ _ _ _ _ a _ (by omega) (by omega) ((R2.out.below hb4).mono s4) ((H'.out.below b4).mono (by omega))).mono ?_
      rintro e w5 ⟨rfl, hb5⟩
      have s5 := hb5.size
      have b5 := b4.trans (hb5.mono (by omega))
      clear hb1 hb2 hb4 b2 b4
      go_wp2_with (first | (go_at_call 27; refine (SeedBits_any _ _ _ (by omega) (by omega) (by omega) (by omega)).mono ?_; rintro e w' ⟨rfl, rfl⟩) | (go_at_call 15; refine (known_any _).mono ?_; rintro e w8 ⟨rfl, hb8⟩))
      go_ret
      exact ⟨rfl, b5.trans (hb8.mono (by omega))⟩
theorem AlgebraToeplitz_walk (v0 : Value) (i0 : BitsArg) (v1 : Value) (i1 : BitsArg) (out : Int) (w : World) (hx0 : IsBits w v0 i0) (hx1 : IsBits w v1 i1) (_ : -9223372036854775808 ≤ out ∧ out ≤ 9223372036854775807) :
    Calls Try.prog 6 #[v0, v1, .int .i64 out] w fun e w' => e = .returned (.bool true) ∧ Below w.heap.size w w' := by
  obtain ⟨rfl, a1, a2, a3, a4⟩ := hx0
  obtain ⟨rfl, b1, b2, b3, b4⟩ := hx1
  by_cases hb : 1200 < i0.n ∨ 600 < i1.n
  · exact Toep_big i0 i1 out w (by omega) (by omega) hb
  · exact Toep_in _ _ _ _ _ _ i0.bs i1.bs out _ w (by omega) (by omega) a4 b4 rfl
end Go.Proofs.Ytahfkhnhmnjbeaa
