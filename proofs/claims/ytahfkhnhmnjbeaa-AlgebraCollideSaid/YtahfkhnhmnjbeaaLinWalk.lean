/- The walk of AlgebraLinear: it returns true for every seed and bit strings. -/
import Derived.Test.YtahfkhnhmnjbeaaToepWalk
import Derived.Deep.RegionHeld3
namespace Go.Proofs.Ytahfkhnhmnjbeaa
open Go.RowKit
set_option linter.unusedVariables false
/-- A slice expression from the start, within the length. -/
theorem slice_head {P : Program} {t e : TypeId} {sz : Nat} (ht' : P.underlying t = some (.slice e)) (hz' : ∀ w, (sizeOf e).run P w = .ok sz w)
    {w : World} {B n : Nat} {A : Option Addr} {xs : List Value} (h : Rd w B sz A n xs) (E : Int) (hi c : Nat) (hE : E = (hi : Int)) (hhi : hi ≤ n) (hc : n ≤ c) :
    ∃ A2, (∀ w', (Instr.sliceAt t (.slice A n c) none (some (.int .i64 E)) none).run P w' = .ok (.slice A2 hi c) w') ∧ Rd w B sz A2 hi (xs.take (hi * sz)) := by
  subst hE
  have he : P.elem t = e := by simp [Program.elem, ht']
  have ht : P.underlying t = some (.slice (P.elem t)) := by rw [he]; exact ht'
  have hz : ∀ w, (sizeOf (P.elem t)).run P w = .ok sz w := by rw [he]; exact hz'
  have hr := h.cut (Nat.zero_le hi) hhi hc
  simp only [Nat.zero_mul, List.drop_zero, Nat.sub_zero] at hr
  refine ⟨_, fun w' => ?_, hr⟩
  rw [run_sliceAt_slice (h := ht), run_slice_h (ht := ht) (h0 := by omega) (h2 := by omega), hz]
  simp [Result.andThen, sliced]
theorem toepL_xor (seed a b : List Bool) (o n : Nat) (ha : a.length = n) (hb : b.length = n) : toepL seed (xorL a b) o (xorL a b).length = xorL (toepL seed a o a.length) (toepL seed b o b.length) := by
  apply List.ext_getElem
  · simp [toepL, xorL]
  · intro i h1 h2
    have hx : (xorL a b).length = n := by rw [xorL_len (by omega), ha]
    simp only [toepL, xorL, List.getElem_map, List.getElem_range, List.getElem_zipWith]
    have hx' : (List.zipWith (fun x y => x != y) a b).length = n := hx
    rw [hx', tb_xor seed a b n i n (by omega) (by omega), ha, hb]
theorem Linear_known (s na nb : Nat) (A A' A'' : Option Addr) (c c' c'' : Nat) (w : World) (hs : s ≤ 9223372036854775807) (hna : na ≤ 9223372036854775807) (hnb : nb ≤ 9223372036854775807)
    (hb : na = 0 ∨ nb = 0 ∨ s < min (min na nb) 200 ∨ 400 < s) :
    Calls Try.prog 8 #[.slice A s c, .slice A' na c', .slice A'' nb c''] w fun e w' => e = .returned (.bool true) ∧ Below w.heap.size w w' := by
  have h4 : ((nb : Int) < na ∧ (200 : Int) < nb) ∨ ((nb : Int) < na ∧ ¬ (200 : Int) < nb) ∨ (¬ (nb : Int) < na ∧ (200 : Int) < na) ∨ (¬ (nb : Int) < na ∧ ¬ (200 : Int) < na) := by omega
  by_cases h0 : na = 0 ∨ nb = 0
  · clear hb
    rcases h4 with ⟨g1, g2⟩ | ⟨g1, g2⟩ | ⟨g1, g2⟩ | ⟨g1, g2⟩
    · exact absurd h0 (by omega)
    · obtain rfl : nb = 0 := by omega
      clear h0
      go_enter Try.func8, Try.ntmps8
      go_wp2_with (go_at_call 15; refine (known_any _).mono ?_; rintro e w9 ⟨rfl, hb9⟩)
      go_ret
      exact ⟨rfl, hb9⟩
    · exact absurd h0 (by omega)
    · obtain rfl : na = 0 := by omega
      clear h0
      go_enter Try.func8, Try.ntmps8
      go_wp2_with (go_at_call 15; refine (known_any _).mono ?_; rintro e w9 ⟨rfl, hb9⟩)
      go_ret
      exact ⟨rfl, hb9⟩
  · have n0 : ((na : Int) == 0) = false := by rw [beq_eq_false_iff_ne]; omega
    have n1 : ((nb : Int) == 0) = false := by rw [beq_eq_false_iff_ne]; omega
    by_cases h1 : s < min (min na nb) 200
    · clear h0 hb
      rcases h4 with ⟨g1, g2⟩ | ⟨g1, g2⟩ | ⟨g1, g2⟩ | ⟨g1, g2⟩
      all_goals
        first
          | have h5 : (s : Int) < 200 := by omega
          | skip
        have h6 : (s : Int) < na := by omega
        have h7 : (s : Int) < nb := by omega
        clear h1
        go_enter Try.func8, Try.ntmps8
        go_wp2_with (go_at_call 15; refine (known_any _).mono ?_; rintro e w9 ⟨rfl, hb9⟩)
        go_ret
        exact ⟨rfl, hb9⟩
    · have h2 : (400 : Int) < (s : Int) := by omega
      clear h0 hb
      rcases h4 with ⟨g1, g2⟩ | ⟨g1, g2⟩ | ⟨g1, g2⟩ | ⟨g1, g2⟩
      all_goals
        first
          | have h6 : ¬ (s : Int) < nb := by omega
          | skip
        first
          | have h7 : ¬ (s : Int) < na := by omega
          | skip
        clear h1
        go_enter Try.func8, Try.ntmps8
        go_wp2_with (go_at_call 15; refine (known_any _).mono ?_; rintro e w9 ⟨rfl, hb9⟩)
        go_ret
        exact ⟨rfl, hb9⟩
set_option maxRecDepth 100000 in
set_option maxHeartbeats 1000000 in
theorem Linear_core (s na nb n o : Nat) (A A' A'' : Option Addr) (c c' c'' : Nat) (seed a b : List Bool) (w : World) (E : Int) (hE : E = (n : Int)) (hs : s ≤ 400) (hns : n ≤ s) (hna : n ≤ na) (hnb : n ≤ nb) (hn1 : 1 ≤ n) (hn2 : n ≤ 200)
    (hna' : na ≤ 9223372036854775807) (hnb' : nb ≤ 9223372036854775807)
    (ho : s - n + 1 = o) (hc : s ≤ c) (hc' : na ≤ c') (hc'' : nb ≤ c'')
    (h : Rd w w.heap.size 1 A s (seed.map Value.bool)) (h' : Rd w w.heap.size 1 A' na (a.map Value.bool)) (h'' : Rd w w.heap.size 1 A'' nb (b.map Value.bool))
    (hm : ((nb : Int) < na ∧ (200 : Int) < nb ∧ E = 200) ∨ ((nb : Int) < na ∧ ¬ (200 : Int) < nb ∧ E = nb) ∨ (¬ (nb : Int) < na ∧ (200 : Int) < na ∧ E = 200) ∨ (¬ (nb : Int) < na ∧ ¬ (200 : Int) < na ∧ E = na)) :
    Calls Try.prog 8 #[.slice A s c, .slice A' na c', .slice A'' nb c''] w fun e w' => e = .returned (.bool true) ∧ Below w.heap.size w w' := by
  have hoE : (s : Int) - E + 1 = (o : Int) := by omega
  have hE0 : (E == 0) = false := by rw [beq_eq_false_iff_ne]; omega
  have hsE : ¬ (s : Int) < E := by omega
  obtain ⟨A3, hs3, hr3⟩ := slice_head (P := Try.prog) (t := 45) (sz := 1) Try.underlying45 Try.sizeOf4 h' E n c' hE hna hc'
  obtain ⟨A4, hs4, hr4⟩ := slice_head (P := Try.prog) (t := 45) (sz := 1) Try.underlying45 Try.sizeOf4 h'' E n c'' hE hnb hc''
  rw [Nat.mul_one, ← List.map_take] at hr3 hr4
  have l3 : (a.take n).length = n := by have := hr3.1; simpa using this
  have l4 : (b.take n).length = n := by have := hr4.1; simpa using this
  have HX := Lib.hid (toepL_xor seed (a.take n) (b.take n) o n l3 l4)
  have HXL : Hid ((xorL (a.take n) (b.take n)).length = n) := Lib.hid (by rw [xorL_len (by omega), l3])
  have H := Lib.hid h; have H3 := Lib.hid hr3; have H4 := Lib.hid hr4
  have HSO : Hid (s = n + o - 1) := Lib.hid (by omega)
  have HN : Hid (n ≤ 200 ∧ o ≤ 400) := Lib.hid ⟨hn2, by omega⟩
  have HCN := Lib.hid hc
  have ho4 : (o : Int) ≤ 400 := by omega
  have hs4' : (s : Int) ≤ 400 := by omega
  have o1 : n ≤ 1073741824 := by omega
  have o2 : o ≤ 512 := by omega
  have o3 : n ≤ 512 := by omega
  have O1 := Lib.hid o1; have O2 := Lib.hid o2; have O3 := Lib.hid o3
  clear h h' h'' hr3 hr4 l3 l4 ho hc hc' hc'' hn1 hn2 hns hna hnb hE o1 o2 o3
  generalize a.take n = a' at HX HXL H3
  generalize b.take n = b' at HX HXL H4
  rcases hm with ⟨g1, g2, rfl⟩ | ⟨g1, g2, rfl⟩ | ⟨g1, g2, rfl⟩ | ⟨g1, g2, rfl⟩
  all_goals
    go_enter Try.func8, Try.ntmps8
    go_wp2_with fail
    go_region_held3 (fun _ => True) (exact True.intro)
      ((go_at_call 32; refine (Xor_any _ _ _ _ _ a' b' _ O1.out (H3.out.drew) (H4.out.drew)).mono ?_; rintro e w1 ⟨A5, c5, rfl, hc5, hown5, hb0⟩))
    have hb1 : Below w.heap.size w w1 := ((Qw.refl w).drew |>.below w.heap.size).trans hb0
    have s1 := hb1.size
    have R5 := Lib.hid (Rd.own hown5); clear hown5
    try dsimp only [id]
    go_wp2_with fail
    refine (Toeplitz_ok _ _ _ _ _ _ o seed a' _ O3.out O2.out HSO.out HCN.out ((H.out.below hb1).mono s1) ((H3.out.below hb1).mono s1)).mono ?_
    rintro e w2 ⟨A6, c6, rfl, hc6, hown6, hb2⟩
    have s2 := hb2.size
    have b2 : Below w.heap.size w w2 := hb1.trans (hb2.mono s1)
    have R6 := Lib.hid (Rd.own hown6); clear hown6
    have R5' := Lib.hid ((R5.out.below hb2).mono s2); clear R5
    try dsimp only [id]
    go_wp2_with fail
    refine (Toeplitz_ok _ _ _ _ _ _ o seed b' _ O3.out O2.out HSO.out HCN.out ((H.out.below b2).mono (by omega)) ((H4.out.below b2).mono (by omega))).mono ?_
    rintro e w3 ⟨A7, c7, rfl, hc7, hown7, hb3⟩
    have s3 := hb3.size
    have b3 : Below w.heap.size w w3 := b2.trans (hb3.mono (by omega))
    have R7 := Lib.hid (Rd.own hown7); clear hown7
    have R5 := Lib.hid ((R5'.out.below hb3).mono s3); clear R5'
    have R6' := Lib.hid ((R6.out.below hb3).mono s3); clear R6
    try dsimp only [id]
    go_wp2_with fail
    refine (Toeplitz_ok _ _ _ _ _ _ o seed (xorL a' b') _ O3.out O2.out HSO.out HCN.out ((H.out.below b3).mono (by omega)) R5.out).mono ?_
    rintro e w4 ⟨A8, c8, rfl, hc8, hown8, hb4⟩
    have s4 := hb4.size
    have b4 : Below w.heap.size w w4 := b3.trans (hb4.mono (by omega))
    have R8 := Lib.hid (Rd.own hown8); clear hown8
    rw [HX.out] at R8
    have R6 := Lib.hid ((R6'.out.below hb4).mono s4); clear R6'
    have R7' := Lib.hid ((R7.out.below hb4).mono s4); clear R7
    try dsimp only [id]
    go_wp2_with fail
    refine (Xor_any _ _ _ _ _ _ _ _ (by have := O2.out; omega) R6.out R7'.out).mono ?_
    rintro e w5 ⟨A9, c9, rfl, hc9, hown9, hb5⟩
    have s5 := hb5.size
    have b5 : Below w.heap.size w w5 := b4.trans (hb5.mono (by omega))
    have R9 := Lib.hid (Rd.own hown9); clear hown9
    have R8' := Lib.hid ((R8.out.below hb5).mono s5); clear R8
    try dsimp only [id]
    go_wp2_with fail
    refine (Same_self _ _ _ _ _ _ _ _ (by have := O2.out; omega) (by have := O2.out; omega) R8'.out R9.out).mono ?_
    rintro e w6 ⟨rfl, hb6⟩
    have s6 := hb6.size
    have b6 : Below w.heap.size w w6 := b5.trans (hb6.mono (by omega))
    go_wp2_with fail
    refine (known_any _).mono ?_
    rintro e w8 ⟨rfl, hb8⟩
    go_wp2_with fail
    go_ret
    exact ⟨rfl, b6.trans (hb8.mono (by omega))⟩
theorem AlgebraLinear_walk (v0 : Value) (i0 : BitsArg) (v1 : Value) (i1 : BitsArg) (v2 : Value) (i2 : BitsArg) (w : World) (hx0 : IsBits w v0 i0) (hx1 : IsBits w v1 i1) (hx2 : IsBits w v2 i2) :
    Calls Try.prog 8 #[v0, v1, v2] w fun e w' => e = .returned (.bool true) ∧ Below w.heap.size w w' := by
  obtain ⟨rfl, a1, a2, a3, a4⟩ := hx0
  obtain ⟨rfl, b1, b2, b3, b4⟩ := hx1
  obtain ⟨rfl, c1, c2, c3, c4⟩ := hx2
  by_cases hb : i1.n = 0 ∨ i2.n = 0 ∨ i0.n < min (min i1.n i2.n) 200 ∨ 400 < i0.n
  · exact Linear_known _ _ _ _ _ _ _ _ _ w (by omega) (by omega) (by omega) hb
  · exact Linear_core i0.n i1.n i2.n (min (min i1.n i2.n) 200) (i0.n - min (min i1.n i2.n) 200 + 1) _ _ _ _ _ _ i0.bs i1.bs i2.bs w (min (min i1.n i2.n) 200 : Nat) rfl (by omega) (by omega) (by omega) (by omega) (by omega) (by omega)
      (by omega) (by omega) rfl a1 b1 c1 a4 b4 c4 (by omega)
end Go.Proofs.Ytahfkhnhmnjbeaa
