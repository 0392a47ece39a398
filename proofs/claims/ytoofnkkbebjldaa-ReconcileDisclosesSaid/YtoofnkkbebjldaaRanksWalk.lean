/- The walk of ReconcileRanks: it returns true for any input. Conditions: none beyond the arguments' types. -/
import Derived.Test.YtoofnkkbebjldaaRecNewA
namespace Go.Proofs.Ytoofnkkbebjldaa
open Go.RowKit
set_option linter.unusedVariables false
theorem rank_bad {P B n : Int} {s : Nat} {l : List QuestionArg} (h : saneE P B n ≠ 0) : rankE P B n l = saneE P B n ∧ rankV P B s n l = 0 := by
  have e : rankE P B n l = saneE P B n := by unfold rankE; rw [if_pos h]
  exact ⟨e, by unfold rankV; rw [if_neg (by rw [e]; exact h)]⟩
theorem Rank_any (P B : Int) (s : Nat) (n : Int) (A : Option Addr) (m c : Nat) (l : List QuestionArg) (w : World) (hs2 : s < two64) (hm : m ≤ 4096) (hl : l.length = m) (h : Rd w w.heap.size 3 A m (q3Cells l)) :
    Calls Try.prog 43 #[casV P B s, .int .i64 n, .slice A m c] w (RankP P B s n l w) := by
  by_cases h0 : saneE P B n = 0
  · obtain ⟨h1, h2, h3, h4, h5, h6⟩ := saneE_ok.1 h0
    obtain ⟨n, rfl⟩ := Int.eq_ofNat_of_zero_le h5
    obtain ⟨P, rfl⟩ := Int.eq_ofNat_of_zero_le (a := P) (by omega)
    obtain ⟨B, rfl⟩ := Int.eq_ofNat_of_zero_le (a := B) (by omega)
    exact Rank_go P B s n A m c l w (by omega) (by omega) (by omega) (by omega) hs2 (by omega) hm hl h
  · obtain ⟨k1, k2⟩ := rank_bad (s := s) (l := l) h0
    obtain ⟨E, hE⟩ : ∃ E, E = saneE P B n := ⟨_, rfl⟩
    rw [← hE] at h0 k1
    have HE := Lib.hid hE; have HK := Lib.hid (And.intro k1 k2)
    have hEb : (E != 0) = true := by simpa using h0
    clear hE h0 k1 k2 h
    go_enter Try.func43, Try.ntmps43
    go_wp2_with fail
    refine (sane_any P B s n _).mono ?_
    rintro e w1 ⟨rfl, hb1⟩
    rw [← HE.out]
    have HB := Lib.hid (((Below.refl w.heap.size w).alloc (Nat.le_refl _) _).trans (hb1.mono (by simp)))
    clear hb1
    go_wp2_with fail
    go_ret2
    exact ⟨⟨0, E, HK.out.2.symm, HK.out.1.symm, rfl⟩, HB.out⟩
theorem refRank_any (P B : Int) (s : Nat) (n : Int) (A : Option Addr) (m c : Nat) (l : List QuestionArg) (w : World) (hs2 : s < two64) (hm : m ≤ 4096) (hl : l.length = m) (h : Rd w w.heap.size 3 A m (q3Cells l)) :
    Calls Try.prog 44 #[casV P B s, .int .i64 n, .slice A m c] w (RankP P B s n l w) := by
  by_cases h0 : saneE P B n = 0
  · obtain ⟨h1, h2, h3, h4, h5, h6⟩ := saneE_ok.1 h0
    obtain ⟨n, rfl⟩ := Int.eq_ofNat_of_zero_le h5
    obtain ⟨P, rfl⟩ := Int.eq_ofNat_of_zero_le (a := P) (by omega)
    obtain ⟨B, rfl⟩ := Int.eq_ofNat_of_zero_le (a := B) (by omega)
    exact refRank_go P B s n A m c l w (by omega) (by omega) (by omega) (by omega) hs2 (by omega) hm hl h
  · obtain ⟨k1, k2⟩ := rank_bad (s := s) (l := l) h0
    obtain ⟨E, hE⟩ : ∃ E, E = saneE P B n := ⟨_, rfl⟩
    rw [← hE] at h0 k1
    have HE := Lib.hid hE; have HK := Lib.hid (And.intro k1 k2)
    have hEb : (E != 0) = true := by simpa using h0
    clear hE h0 k1 k2 h
    go_enter Try.func44, Try.ntmps44
    go_wp2_with fail
    refine (reflengths_any P B s n _).mono ?_
    rintro e w1 ⟨rfl, hb1⟩
    rw [← HE.out]
    have HB := Lib.hid (((Below.refl w.heap.size w).alloc (Nat.le_refl _) _).trans (hb1.mono (by simp)))
    clear hb1
    go_wp2_with fail
    go_ret2
    exact ⟨⟨0, E, HK.out.2.symm, HK.out.1.symm, rfl⟩, HB.out⟩
set_option maxRecDepth 100000 in
set_option maxHeartbeats 4000000 in
theorem ReconcileRanks_walk (v0 : Value) (i0 : CascadeArg) (n : Int) (v2 : Value) (i2 : QuestsArg) (w : World) (hx0 : IsCascade w v0 i0) (_ : -9223372036854775808 ≤ n ∧ n ≤ 9223372036854775807) (hx2 : IsQuests w v2 i2) :
    Calls Try.prog 11 #[v0, .int .i64 n, v2] w fun e w' => e = .returned (.bool true) ∧ Below w.heap.size w w' := by
  obtain ⟨P, B, s⟩ := i0
  obtain ⟨A, m, c, l⟩ := i2
  obtain ⟨rfl, _, _, hs⟩ := hx0
  obtain ⟨rfl, hc, hm, hl, h⟩ := hx2
  simp only at hl hc hs ⊢
  have hs2 : s < two64 := hs
  have H := Lib.hid h; have HL := Lib.hid hl
  clear h hs hl hm hc
  by_cases hbig : 200 < m
  · have j0 : (200 : Int) < (m : Int) := by omega
    go_enter Try.func11, Try.ntmps11
    go_wp2_with fail
    refine (works_any _).mono ?_
    rintro e w2 ⟨rfl, hb2⟩
    have HB := Lib.hid (bnext ((Below.refl _ _).alloc (Nat.le_refl _) _) hb2)
    clear hb2
    go_wp2_with fail
    go_ret
    exact ⟨rfl, HB.out⟩
  · have j0 : ¬ ((200 : Int) < (m : Int)) := by omega
    have HP := Lib.hid (BoxI.mk (heap_alloc_new w (.cells (casC P B s) 24)) : BoxI _ w.heap.size P B (.int .u64 s) 24)
    have HB0 := Lib.hid ((Below.refl w.heap.size w).alloc (Nat.le_refl _) (.cells (casC P B s) 24))
    go_enter Try.func11, Try.ntmps11
    go_wp2_with fail
    refine (Rank_any P B s n A m c l _ hs2 (by omega) HL.out (H.out.past ((Below.refl _ _).alloc (Nat.le_refl _) _))).mono ?_
    rintro e w1 ⟨⟨V, E, hV, hE, rfl⟩, hb1⟩
    have HP1 := Lib.hid (HP.out.past hb1); have HB1 := Lib.hid (bnext HB0.out hb1); have HV := Lib.hid hV; have HE := Lib.hid hE
    have c0 := HP1.out.c0; have c1 := HP1.out.c1; have c2 := HP1.out.c2
    clear hb1 hV hE HP HB0
    go_wp2_with fail
    refine (refRank_any P B s n A m c l _ hs2 (by omega) HL.out (H.out.past HB1.out)).mono ?_
    rintro e w2 ⟨⟨V2, E2, hV2, hE2, rfl⟩, hb2⟩
    obtain rfl : V2 = V := hV2.trans HV.out.symm
    obtain rfl : E2 = E := hE2.trans HE.out.symm
    have HB2 := Lib.hid (bnext HB1.out hb2)
    clear hb2 hV2 hE2 HV HE c0 c1 c2
    go_wp2_with fail
    refine (works_any _).mono ?_
    rintro e w3 ⟨rfl, hb3⟩
    have HB3 := Lib.hid (bnext HB2.out hb3)
    clear hb3
    go_wp2_with fail
    go_ret
    exact ⟨rfl, HB3.out⟩
end Go.Proofs.Ytoofnkkbebjldaa
/- How many strings give the answers that were told. Conditions: as each statement says. -/
namespace Go.Proofs.Ytoofnkkbebjldaa
open Go.RowKit
set_option linter.unusedVariables false
/-- The bits of a number. -/
def numV (m i : Nat) : List Bool := (List.range m).map fun j => i / 2 ^ j % 2 == 1
theorem numV_len (m i : Nat) : (numV m i).length = m := by simp [numV]
theorem numV_low {m i : Nat} (h : i < 2 ^ m) : numV (m + 1) i = numV m i ++ [false] := by
  simp only [numV, List.range_succ, List.map_append, List.map_cons, List.map_nil]
  rw [Nat.div_eq_of_lt h]; rfl
theorem numV_high {m i : Nat} (h : i < 2 ^ m) : numV (m + 1) (2 ^ m + i) = numV m i ++ [true] := by
  simp only [numV, List.range_succ, List.map_append, List.map_cons, List.map_nil]
  congr 1
  · apply List.map_congr_left
    intro j hj
    rw [List.mem_range] at hj
    obtain ⟨d, rfl⟩ : ∃ d, m = j + 1 + d := ⟨m - (j + 1), by omega⟩
    have e : 2 ^ (j + 1 + d) = 2 ^ j * (2 * 2 ^ d) := by rw [Nat.pow_add, Nat.pow_succ, Nat.mul_assoc]
    rw [e, Nat.mul_add_div (Nat.two_pow_pos j), Nat.add_comm, Nat.add_mul_mod_self_left]
  · rw [Nat.add_div_left _ (Nat.two_pow_pos m), Nat.div_eq_of_lt h]; rfl
theorem allV_num : ∀ m, allV m = (List.range (2 ^ m)).map (numV m)
  | 0 => by simp [allV, numV]
  | m + 1 => by
    rw [allV, allV_num m, Nat.pow_succ, Nat.mul_two, List.range_add]
    simp only [List.map_append, List.map_map]
    congr 1
    · apply List.map_congr_left
      intro i hi
      rw [List.mem_range] at hi
      exact (numV_low hi).symm
    · apply List.map_congr_left
      intro i hi
      rw [List.mem_range] at hi
      exact (numV_high hi).symm
def qArg (q : Qn) : QuestionArg := ⟨q.p, q.f, q.t⟩
theorem q3_of : ∀ l : List Qn, q3Cells (l.map qArg) = qCells l
  | [] => rfl
  | q :: l => by simp [q3Cells, qCells, qArg, q3_of l]
/-- Does a string give these answers? -/
def fitL (s m : Nat) (l : List (Qn × Bool)) (w : List Bool) : Bool := l.all fun a => parL w (placesL s m a.1) == a.2
theorem fitL_snoc (s m : Nat) (l : List (Qn × Bool)) (w : List Bool) (k : Nat) (h : k < l.length) : fitL s m (l.take (k + 1)) w = (fitL s m (l.take k) w && (parL w (placesL s m (l[k]).1) == (l[k]).2)) := by
  unfold fitL
  rw [take_snoc _ _ h, List.all_append]; simp
theorem fitL_false {s m : Nat} {l : List (Qn × Bool)} {w : List Bool} {k : Nat} (h : fitL s m (l.take k) w = false) : fitL s m l w = false := by
  unfold fitL at *
  rw [List.all_eq_false] at *
  obtain ⟨x, hx, h⟩ := h
  exact ⟨x, List.mem_of_mem_take hx, h⟩
theorem placeE_q {P B s m : Nat} {q : Qn} (h0 : saneE P B m = 0) (h1 : q.p < P) (h2 : q.f < q.t) (h3 : q.t ≤ m) : placeE P B m (qArg q).f0 (qArg q).f1 (qArg q).f2 = 0 :=
  placeE_ok h0 (by simp only [qArg]; omega)
theorem rowQ_q {P B s m : Nat} {q : Qn} (h0 : placeE P B m (qArg q).f0 (qArg q).f1 (qArg q).f2 = 0) : rowQ P B s m (qArg q) = rowF m (placesL s m q) := by
  unfold rowQ placesX
  rw [if_pos h0]; rfl
theorem discl_count {P B s m : Nat} {y : List Bool} {l : List (Qn × Bool)} (h0 : saneE P B m = 0) (hy : y.length = m) (hl : l.length ≤ 4096) (hq : ∀ a ∈ l, a.1.p < P ∧ a.1.f < a.1.t ∧ a.1.t ≤ m) (ha : ∀ a ∈ l, a.2 = parL y (placesL s m a.1)) :
    rankE P B m ((l.map (·.1)).map qArg) = 0 ∧ rankV P B s m ((l.map (·.1)).map qArg) ≤ m ∧ ((List.range (2 ^ m)).countP fun i => fitL s m l (numV m i)) = 2 ^ (m - rankV P B s m ((l.map (·.1)).map qArg)) := by
  have hE : rankE P B m ((l.map (·.1)).map qArg) = 0 := by
    unfold rankE
    rw [if_neg (by rw [h0]; simp), if_neg (by simp; omega)]
    refine badE_none fun j hj => ?_
    simp only [List.getElem_map]
    have := hq _ (List.getElem_mem (by simpa using hj : j < l.length))
    exact placeE_q (s := s) h0 this.1 this.2.1 this.2.2
  have hV : rankV P B s m ((l.map (·.1)).map qArg) = (indL (rowsQ P B s m ((l.map (·.1)).map qArg))).length := by unfold rankV; rw [if_pos hE]
  have hrl : ∀ r ∈ rowsQ P B s m ((l.map (·.1)).map qArg), r.length = m := fun r hr => by have := rowsQ_len (P : Int) B s m _ r hr; simpa using this
  have hrows : rowsQ P B s m ((l.map (·.1)).map qArg) = l.map fun a => rowF m (placesL s m a.1) := by
    unfold rowsQ
    rw [List.map_map, List.map_map]
    apply List.map_congr_left
    intro a ha
    have := hq a ha
    exact rowQ_q (placeE_q (s := s) h0 this.1 this.2.1 this.2.2)
  refine ⟨hE, ?_, ?_⟩
  · rw [hV]; exact tri_le (indL_tri hrl)
  · rw [hV, ← rank_same hrl, ← same_count hrl hy, allV_num, List.countP_map]
    refine List.countP_congr fun i hi => ?_
    have hw := numV_len m i
    simp only [Function.comp, fitL, hrows, List.all_map]
    have e : ∀ a ∈ l, (parL (numV m i) (placesL s m a.1) == a.2) = (dotL (rowF m (placesL s m a.1)) (numV m i) == dotL (rowF m (placesL s m a.1)) y) := by
      intro a hal
      have h1 := dotL_rowF (numV m i) (placesL s m a.1) (fun x hx => by rw [hw]; exact placesL_mem hx)
      have h2 := dotL_rowF y (placesL s m a.1) (fun x hx => by rw [hy]; exact placesL_mem hx)
      rw [hw] at h1
      rw [hy] at h2
      rw [h1, h2, ha a hal]
    rw [List.all_congr rfl (fun a => rfl)]
    constructor
    · intro h
      rw [List.all_eq_true] at h ⊢
      intro a hal
      have := h a hal
      rw [e a hal] at this
      exact this
    · intro h
      rw [List.all_eq_true] at h ⊢
      intro a hal
      rw [e a hal]
      exact h a hal
theorem pow_small {m : Nat} (h : m ≤ 9) : 2 ^ m ≤ 512 := by
  have : 2 ^ m ≤ 2 ^ 9 := Nat.pow_le_pow_right (by decide) h
  omega
theorem wrap_small {Q : Nat} (h : Q ≤ 512) : wrap64 (Q : Int) = (Q : Int) := by unfold wrap64; omega
theorem shl_small {m Q : Nat} (hQ : Q = 2 ^ m) (h : Q ≤ 512) : wrap64 ((2 : Int) ^ m) = (Q : Int) := by
  have e : ((2 : Int) ^ m) = (Q : Int) := by rw [hQ]; simp
  rw [e]; exact wrap_small h
theorem pow_name (m : Nat) (h : m ≤ 9) : ∃ Q : Nat, Q = 2 ^ m ∧ Q ≤ 512 := ⟨_, rfl, pow_small h⟩
theorem numV_fill (m N i : Nat) (h : i < m) : (((numV m N).take i).map Value.bool ++ List.replicate (m - i) (Value.bool false)).set i (.bool (N / 2 ^ i % 2 == 1)) = ((numV m N).take (i + 1)).map Value.bool ++ List.replicate (m - (i + 1)) (Value.bool false) := by
  have hl : i < (numV m N).length := by rw [numV_len]; exact h
  have hx : (numV m N)[i] = (N / 2 ^ i % 2 == 1) := by simp [numV]
  have hlen : (((numV m N).take i).map Value.bool).length = i := by rw [List.length_map, List.length_take]; omega
  rw [fill_set _ _ _ i m hlen h, take_snoc _ _ hl, List.map_append, hx]; rfl
theorem bit_eq (N i : Nat) : (((N : Int) / 2 ^ i).tmod 2 == 1) = (N / 2 ^ i % 2 == 1) := by
  have e : (N : Int) / 2 ^ i = ((N / 2 ^ i : Nat) : Int) := by simp
  rw [e]
  generalize N / 2 ^ i = a
  rw [Int.tmod_eq_emod_of_nonneg (by omega)]
  rw [Bool.eq_iff_iff]; simp
  omega
end Go.Proofs.Ytoofnkkbebjldaa
/- The walk of ReconcileDiscloses: it returns true for any input. Conditions: none beyond the arguments' types. -/
namespace Go.Proofs.Ytoofnkkbebjldaa
open Go.RowKit
set_option linter.unusedVariables false
/-- What lies in memory behind the run. -/
structure DiI (w0 w : World) (H P B s m : Nat) (At : Option Addr) (S : Mst) : Prop where
  bl : Below w0.heap.size w0 w
  pl : PlanAt w H P B s
  l : Rd w w.heap.size 4 At S.told.length (aCells S.told)
theorem DiI.past {w0 w w' : World} {H P B s m : Nat} {At : Option Addr} {S : Mst} (h : DiI w0 w H P B s m At S) (hb : Below w.heap.size w w') : DiI w0 w' H P B s m At S :=
  ⟨bnext h.bl hb, h.pl.past hb, h.l.past hb⟩
theorem told_small {L : Lay} {c : Nat} {S : Mst} (hP : L.P ≤ 6) (hn : L.n ≤ 9) (h : Inv L c S) : S.told.length ≤ 270 := by
  have h1 := nodup_len (m := allQ L.P L.n) h.nd fun q hq => by
    obtain ⟨a, ha, rfl⟩ := List.mem_map.1 hq
    obtain ⟨⟨q1, q2, q3⟩, q4⟩ := h.rng a ha
    exact allQ_mem q1 q4 q3
  rw [List.length_map] at h1
  have h2 := allQ_len L.P L.n
  have h3 : L.n * (L.n + 1) ≤ 9 * 10 := Nat.mul_le_mul hn (by omega)
  have h4 : L.P * (L.n * (L.n + 1)) ≤ 6 * (9 * 10) := Nat.mul_le_mul hP h3
  omega
set_option maxRecDepth 100000 in
set_option maxHeartbeats 4000000 in
theorem ReconcileDiscloses_walk (p b s : Nat) (v3 : Value) (i3 : BitsArg) (v4 : Value) (i4 : U16Arg) (w : World) (hp : p < 256) (hb : b < 256) (hs : s < 18446744073709551616) (hx3 : IsBits w v3 i3) (hx4 : IsU16s w v4 i4) :
    Calls Try.prog 12 #[.int .u8 p, .int .u8 b, .int .u64 s, v3, v4] w fun e w' => e = .returned (.bool true) ∧ Below w.heap.size w w' := by
  obtain ⟨A3, n, c3, x0⟩ := i3
  obtain ⟨A4, n4, c4, l4⟩ := i4
  obtain ⟨rfl, hc3, hm3, hl3, h3⟩ := hx3
  obtain ⟨rfl, hc4, hm4, hl4, he4, h4⟩ := hx4
  have H3 := Lib.hid h3; have H4 := Lib.hid h4; have HE4 := Lib.hid he4
  clear h3 h4 he4 hm3 hm4
  simp only at hl3 hl4 hc3 hc4
  have hs2 : s < two64 := hs
  obtain ⟨m, hm⟩ : ∃ m, m = min n 9 := ⟨_, rfl⟩
  have hm2 : m ≤ 9 := by omega
  obtain ⟨x, hx⟩ : ∃ x, x = x0.take 9 := ⟨_, rfl⟩
  have hxl : x.length = m := by rw [hx, List.length_take, hl3, hm, Nat.min_comm]
  have HM := Lib.hid hm; have HX := Lib.hid hx; have HXL := Lib.hid hxl
  clear hl3 hl4 hm hx hxl
  have eb : (b : Int) % 8 = ((b % 8 : Nat) : Int) := by omega
  have HEB := Lib.hid eb
  clear eb
  go_enter Try.func12, Try.ntmps12
  go_wp2_with fail
  rw [HEB.out]
  refine (plan_any p (b % 8) s _ hp (by omega)).mono ?_
  rintro e w1 ⟨⟨P, B, hP, hB, rfl⟩, hb1⟩
  have hP1 : 1 ≤ P := by omega
  have hP6 : P ≤ 6 := by omega
  have hB1 : 1 ≤ B := by omega
  have hB5 : B ≤ 512 := by omega
  have HB1 : Hid (Below w.heap.size w (w1.alloc (.cells (casC P B s) 24))) := Lib.hid (hb1.alloc hb1.size _)
  have HP1 := Lib.hid (PlanAt.new w1 P B s)
  clear hb1 hP hB
  go_wp2_with fail
  refine (short_any A3 n c3 9 x0 _ hc3 (by decide) (H3.out.past HB1.out)).mono ?_
  rintro e w2 ⟨A0, c0, rfl, hc0, hown, hb2⟩
  dsimp only [id]
  rw [← HM.out, ← HX.out] at hown
  rw [← HM.out] at hc0 ⊢
  have HP2 := Lib.hid (HP1.out.past hb2); have HB2 := Lib.hid (bnext HB1.out hb2); have HR := Lib.hid (Rd.own hown)
  clear hb2 hown HP1 HB1
  go_wp2_with fail
  refine (strings_m A0 A4 m c0 n4 c4 m x x l4 _ (by omega) (by rw [List.take_of_length_le (by rw [HXL.out]; omega)]) hc0 HR.out (H4.out.past HB2.out) HE4.out).mono ?_
  rintro e w3 ⟨A1, A2, d1, d2, y, rfl, hyl, hd1, hd2, hox, hoy, hb3⟩
  have HP3 := Lib.hid (HP2.out.past hb3)
  have HX3 := Lib.hid (Rd.own hox); have HY3 := Lib.hid (Rd.own hoy); have HYL := Lib.hid hyl
  have HB3 := Lib.hid (bnext HB2.out hb3)
  have k0 := HP3.out.c0; have k1 := HP3.out.c1; have k2 := HP3.out.c2
  clear hox hoy hb3 hyl HP2 HB2 HR
  go_wp2_with fail
  refine (Run_ok A1 A2 m d1 d2 P B s x y _ hP1 hP6 hB1 hB5 hs2 (by omega) HX3.out HY3.out).mono ?_
  rintro e w5 ⟨Az, cz, At, ct, S, rfl, hgo, ho, hlen, hcz, hct, hz, ht, hb5⟩
  have HINV : Hid (InvT (pl m P B s) x y 0 S) := Lib.hid (goT_inv hB1 (by omega) HXL.out HYL.out hgo)
  have HI : Hid (DiI w w5 w1.heap.size P B s m At S) := Lib.hid ⟨bnext HB3.out hb5, HP3.out.past hb5, Rd.own ht⟩
  have HTL : Hid (S.told.length ≤ 270) := Lib.hid (told_small (L := pl m P B s) hP6 hm2 HINV.out.inv)
  have hsn : saneE P B m = 0 := saneE_ok.2 ⟨by omega, by omega, by omega, by omega, by omega, by omega⟩
  have HCNT := Lib.hid (discl_count (s := s) hsn HYL.out (by have := HTL.out; omega) (fun a ha => by
    obtain ⟨⟨q1, q2, q3⟩, q4⟩ := HINV.out.inv.rng a ha
    exact ⟨q1, q4, q3⟩) HINV.out.ans)
  have HRG : Hid (∀ a ∈ S.told, a.1.p < P ∧ a.1.f < a.1.t ∧ a.1.t ≤ m) := Lib.hid (fun a ha => by
    obtain ⟨⟨q1, q2, q3⟩, q4⟩ := HINV.out.inv.rng a ha
    exact ⟨q1, q4, q3⟩)
  obtain ⟨told, htold⟩ : ∃ z, z = S.told := ⟨_, rfl⟩
  obtain ⟨T, hT⟩ : ∃ z, z = told.length := ⟨_, rfl⟩
  have hIL := HI.out.l
  rw [← htold] at HCNT HRG HTL hIL hct ⊢
  rw [← hT] at HTL hIL hct ⊢
  have hT3 := HTL.out
  have HLR := Lib.hid hIL; have HT := Lib.hid hT; have HIB := Lib.hid HI.out.bl; have HIP := Lib.hid HI.out.pl
  clear hgo ho hz ht hb5 k0 k1 k2 hsn hIL hT htold HINV HP3 HB3 HX3 HY3 HI HTL
  go_wp2_with fail
  go_loopw [17, 18] (fun vo i wr => ∃ k : Nat, k ≤ T ∧ i = .int .i64 k ∧ wr.ownsRow w5.heap.size 44 3 vo k (qCells ((told.take k).map (·.1))) ∧ Below w5.heap.size w5 wr) (fun _ i _ => T - (intOf i).toNat)
  case atStart => exact ⟨0, Nat.zero_le _, rfl, World.ownsRow_nil _ _ _ _, Below.refl _ _⟩
  case round =>
    obtain ⟨k, hk, rfl, hown, hbw⟩ := hrel
    obtain ⟨wa, rfl⟩ : ∃ z : World, z = wr := ⟨_, rfl⟩
    have HO := Lib.hid hown; have HBW := Lib.hid hbw
    have hsz := hbw.size
    clear hown hbw
    by_cases hlt : k < T
    · have hki : (k : Int) < (T : Int) := by omega
      have hlk : k < told.length := by rw [← HT.out]; exact hlt
      obtain ⟨ba, oa, rfl, hba, hca⟩ := HLR.out.2 (by omega)
      obtain ⟨a0, a1, a2, _⟩ := aCells_at told k hlk
      have e0 := (HBW.out.cell (p := ⟨ba, oa + k * 4, none⟩) hba).trans (hca _ _ a0)
      have e1 := (HBW.out.cell (p := ⟨ba, oa + (k * 4 + 1), none⟩) hba).trans (hca _ _ a1)
      have e2 := (HBW.out.cell (p := ⟨ba, oa + (k * 4 + 2), none⟩) hba).trans (hca _ _ a2)
      simp only [← Nat.add_assoc] at e1 e2
      have HS : Hid (qCells ((told.take (k + 1)).map (·.1)) = qCells ((told.take k).map (·.1)) ++ [.int .i64 (told[k]).1.p, .int .i64 (told[k]).1.f, .int .i64 (told[k]).1.t]) := Lib.hid (by rw [take_snoc _ _ hlk, List.map_append, List.map_cons, List.map_nil, qCells_snoc])
      generalize (told[k]).1.p = y0 at e0 HS
      generalize (told[k]).1.f = y1 at e1 HS
      generalize (told[k]).1.t = y2 at e2 HS
      clear a0 a1 a2 hca
      go_wp2_with (at_builtin; refine wpList_push elB_q (.tmp 56) (.tmp 62) rfl rfl w5.heap.size k _ rfl HO.out rfl rfl (by intro u hu; simp at hu; rcases hu with rfl | rfl | rfl <;> rfl) (by omega) (by decide) (by omega) ?_; intro v4 w4 hown4 hb4 _)
      go_roundw
      case rel => exact ⟨k + 1, hlt, by go_num, by rw [HS.out]; simpa using hown4, HBW.out.trans hb4⟩
      case measure => simp [intOf]; omega
    · have hki : ¬ (k : Int) < (T : Int) := by omega
      obtain rfl : k = T := by omega
      obtain ⟨Aq, cq, hvq, hcq⟩ := own_form HO.out
      subst hvq
      have hqr : Rd wa wa.heap.size 3 Aq k (q3Cells ((told.map (·.1)).map qArg)) := by
        have := Rd.own HO.out
        rw [List.take_of_length_le (by rw [← HT.out]; exact Nat.le_refl _)] at this
        rw [q3_of]; exact this
      have HQR := Lib.hid hqr
      have HB6 := Lib.hid (bnext HIB.out HBW.out); have HP6 := Lib.hid (HIP.out.past HBW.out); have HL6 := Lib.hid (HLR.out.past HBW.out)
      have k0 := HP6.out.c0; have k1 := HP6.out.c1; have k2 := HP6.out.c2
      clear hqr HO HBW HIB HIP HLR
      go_wp2_with fail
      refine (Rank_any P B s m Aq k cq _ _ hs2 (by omega) (by rw [List.length_map, List.length_map, ← HT.out]) HQR.out).mono ?_
      rintro e w7 ⟨⟨V, E, hV, hE, rfl⟩, hb7⟩
      obtain ⟨g1, g2, g3⟩ := HCNT.out
      obtain rfl : E = 0 := hE.trans g1
      rw [← hV] at g2 g3
      have HG3 := Lib.hid g3
      have HB7 := Lib.hid (bnext HB6.out hb7); have HP7 := Lib.hid (HP6.out.past hb7); have HL7 := Lib.hid (HL6.out.past hb7)
      have j1 : ¬ ((V : Int) < 0) := by omega
      have j2 : ¬ ((m : Int) < (V : Int)) := by omega
      clear k0 k1 k2 hb7 hV hE g1 g3 HCNT HB6 HP6 HL6 HQR
      go_wp2_with fail
      obtain ⟨Q, hQ, hQb⟩ := pow_name m hm2
      have HSH := Lib.hid (shl_small hQ hQb)
      have HQ := Lib.hid hQ
      clear hQ
      go_loopw [20, 21] (fun ct i wr => ∃ (N cn : Nat), N ≤ Q ∧ i = .int .i64 N ∧ ct = .int .i64 cn ∧ cn ≤ N ∧ cn = (List.range N).countP (fun i => fitL s m told (numV m i)) ∧ Below w7.heap.size w7 wr) (fun _ i _ => Q - (intOf i).toNat)
      case atStart => exact ⟨0, 0, Nat.zero_le _, rfl, rfl, Nat.le_refl _, by simp, Below.refl _ _⟩
      case round =>
        obtain ⟨N, cn, hN, rfl, rfl, hcn, hcc, hbw⟩ := hrel
        obtain ⟨wb, rfl⟩ : ∃ z : World, z = wr := ⟨_, rfl⟩
        have HCC := Lib.hid hcc; have HBW := Lib.hid hbw
        clear hcc hbw
        by_cases hlN : N < Q
        · have hNi : (N : Int) < (Q : Int) := by omega
          have hmk := fun w => make_bool w m (by omega)
          have HAL := Lib.hid ((Below.refl wb.heap.size wb).alloc (Nat.le_refl _) (.cells (Array.replicate m (.bool false)) 4))
          have HOW := Lib.hid (own_new wb (Array.replicate m (.bool false)) 4 m (by simp) (by omega))
          have hshl := HSH.out
          go_wp2_with fail
          clear hmk hshl
          obtain ⟨wc, hwc⟩ : ∃ z, z = wb.alloc (.cells (Array.replicate m (.bool false)) 4) := ⟨_, rfl⟩
          rw [← hwc] at HAL HOW ⊢
          clear hwc
          go_loopw [23] (fun i wr => ∃ q : Nat, q ≤ m ∧ i = .int .i64 q ∧ wr.ownsRow wb.heap.size 4 1 (.slice (some ⟨wb.heap.size, 0, none⟩) m m) m (((numV m N).take q).map Value.bool ++ List.replicate (m - q) (Value.bool false)) ∧ Below wb.heap.size wb wr) (fun i _ => m - (intOf i).toNat)
          case atStart => exact ⟨0, Nat.zero_le _, rfl, by have := HOW.out; simpa using this, HAL.out⟩
          case round =>
            obtain ⟨q, hq, rfl, hown, hbw⟩ := hrel
            obtain ⟨wd, rfl⟩ : ∃ z : World, z = wr := ⟨_, rfl⟩
            have HO := Lib.hid hown; have HB := Lib.hid hbw
            clear hown hbw HAL HOW
            by_cases hlq : q < m
            · have hqi : (q : Int) < (m : Int) := by omega
              have hfl : (((numV m N).take q).map Value.bool).length = q := by rw [List.length_map, List.length_take, numV_len]; omega
              have c0 : wd.cell? ⟨wb.heap.size, q, none⟩ = some (.bool false) := by
                rw [HO.out.cellAt q (by omega), fill_get _ _ _ _ hfl hlq]
              have f0 : wd.frozen? ⟨wb.heap.size, q, none⟩ = false := HO.out.frozenAt _
              have hst := (HO.out.stored q (.bool (N / 2 ^ q % 2 == 1))).1
              rw [numV_fill m N q hlq] at hst
              have HST := Lib.hid hst; have HBE := Lib.hid (bit_eq N q)
              clear hst hfl
              go_wp2_with fail
              go_roundw
              case rel =>
                refine ⟨q + 1, hlq, by go_num, ?_, HB.out.setCell (p := ⟨wb.heap.size, q, none⟩) (Nat.le_refl _) _⟩
                rw [HBE.out]; exact HST.out
              case measure => simp [intOf]; omega
            · obtain rfl : q = m := by omega
              have hqi : ¬ (q : Int) < (q : Int) := by omega
              have hrow := HO.out
              rw [Nat.sub_self, List.replicate_zero, List.append_nil, List.take_of_length_le (by rw [numV_len]; exact Nat.le_refl _)] at hrow
              have HRW := Lib.hid (Rd.own hrow)
              have HBD := Lib.hid (bnext HBW.out HB.out)
              have HPD := Lib.hid (HP7.out.past HBD.out); have HLD := Lib.hid (HL7.out.past HBD.out)
              obtain ⟨v, hv⟩ : ∃ v, v = numV q N := ⟨_, rfl⟩
              rw [← hv] at HRW
              have HV := Lib.hid hv
              clear hrow hv HO HB
              go_wp2_with fail
              go_loopw [24, 25] (fun f i wr => ∃ (j : Nat) (fb : Bool), j ≤ k ∧ i = .int .i64 j ∧ f = .bool fb ∧ fb = fitL s q (told.take j) v ∧ Below wd.heap.size wd wr) (fun _ i _ => k - (intOf i).toNat)
              case atStart => exact ⟨0, true, Nat.zero_le _, rfl, rfl, by simp [fitL], Below.refl _ _⟩
              case round =>
                obtain ⟨j, fb, hj, rfl, rfl, hfb, hbw⟩ := hrel
                obtain ⟨we, rfl⟩ : ∃ z : World, z = wr := ⟨_, rfl⟩
                have HFB := Lib.hid hfb; have HBE := Lib.hid hbw
                have HPE := Lib.hid (HPD.out.past hbw); have HLE := Lib.hid (HLD.out.past hbw); have HRE := Lib.hid (HRW.out.past hbw)
                clear hfb hbw
                by_cases hgo : j < k ∧ fb = true
                · obtain ⟨hlj, rfl⟩ := hgo
                  have hji : (j : Int) < (k : Int) := by omega
                  have hjt : j < told.length := by rw [← HT.out]; exact hlj
                  have k0 := HPE.out.c0; have k1 := HPE.out.c1; have k2 := HPE.out.c2
                  obtain ⟨ba, oa, rfl, hba, hca⟩ := HLE.out.2 (by omega)
                  obtain ⟨a0, a1, a2, a3⟩ := aCells_at told j hjt
                  have e0 := hca _ _ a0
                  have e1 := hca _ _ a1
                  have e2 := hca _ _ a2
                  have e3 := hca _ _ a3
                  simp only [← Nat.add_assoc] at e1 e2 e3
                  have hrg := HRG.out _ (List.getElem_mem hjt)
                  have HSN := Lib.hid (fitL_snoc s q told v j hjt)
                  obtain ⟨⟨qn, av⟩, hqn⟩ : ∃ z, z = told[j] := ⟨_, rfl⟩
                  rw [← hqn] at e0 e1 e2 e3 hrg HSN
                  obtain ⟨q1, q2, q3⟩ := hrg
                  simp only at e0 e1 e2 e3 q1 q2 q3 HSN
                  have HQ1 := Lib.hid q1; have HQ3 := Lib.hid q3
                  obtain ⟨pv, hpv⟩ : ∃ pv, pv = parL v (placesL s q qn) := ⟨_, rfl⟩
                  rw [← hpv, ← HFB.out, Bool.true_and] at HSN
                  have HPV := Lib.hid hpv
                  clear a0 a1 a2 a3 hca hqn q1 q3 hpv
                  go_wp2_with fail
                  go_region_held3 (fun w' => w'.cell? ⟨w1.heap.size, 0, none⟩ = some (.int .i64 P) ∧ w'.cell? ⟨w1.heap.size, 1, none⟩ = some (.int .i64 B) ∧ w'.cell? ⟨w1.heap.size, 2, none⟩ = some (.int .u64 s) ∧ w'.cell? ⟨ba, oa + j * 4, none⟩ = some (.int .i64 qn.p) ∧ w'.cell? ⟨ba, oa + j * 4 + 1, none⟩ = some (.int .i64 qn.f) ∧ w'.cell? ⟨ba, oa + j * 4 + 2, none⟩ = some (.int .i64 qn.t)) (first | exact ⟨k0, k1, k2, e0, e1, e2⟩ | exact ⟨f0, f1, f2, g0, g1, g2⟩)
                    ((go_at_call 21
                      refine (Reply_ok (some ⟨wb.heap.size, 0, none⟩) q P B s q qn v _ hP1 hP6 hB1 hB5 hs2 (by omega) HQ1.out q2 HQ3.out (show Rd we.drew we.drew.heap.size 1 (some ⟨wb.heap.size, 0, none⟩) q (v.map Value.bool) from HRE.out)).mono ?_
                      rintro e w9 ⟨rfl, hb9⟩
                      have HB9 := Lib.hid (bnext HBE.out (bnext (Qw.below (⟨1, rfl⟩ : Qw we we.drew) _) hb9))
                      have HP9 := Lib.hid ((HPE.out.past (Qw.below (⟨1, rfl⟩ : Qw we we.drew) _)).past hb9)
                      have f0 := HP9.out.c0; have f1 := HP9.out.c1; have f2 := HP9.out.c2
                      have g0 := (hb9.cell (p := ⟨ba, oa + j * 4, none⟩) hba).trans e0
                      have g1 := (hb9.cell (p := ⟨ba, oa + j * 4 + 1, none⟩) hba).trans e1
                      have g2 := (hb9.cell (p := ⟨ba, oa + j * 4 + 2, none⟩) hba).trans e2
                      have g3 := (hb9.cell (p := ⟨ba, oa + j * 4 + 3, none⟩) hba).trans e3
                      rw [← HPV.out]
                      clear hb9))
                  clear k0 k1 k2 e0 e1 e2 e3 f0 f1 f2 g0 g1 g2
                  go_wp2_with fail
                  go_roundw
                  case rel => exact ⟨j + 1, pv == av, hlj, by go_num, rfl, HSN.out.symm, HB9.out⟩
                  case measure => simp [intOf]; omega
                · have HFIT : Hid (fb = fitL s q told v) := Lib.hid (by
                    by_cases hjk : j < k
                    · have hf : fb = false := by
                        cases fb
                        · rfl
                        · exact absurd ⟨hjk, rfl⟩ hgo
                      rw [hf]
                      have := HFB.out
                      rw [hf] at this
                      exact (fitL_false this.symm).symm
                    · have hje : told.take j = told := List.take_of_length_le (by rw [← HT.out]; omega)
                      rw [HFB.out, hje])
                  have hcn2 : Hid ((List.range (N + 1)).countP (fun i => fitL s q told (numV q i)) = cn + if fb = true then 1 else 0) := Lib.hid (by
                    rw [List.range_succ, List.countP_append, ← HCC.out, List.countP_singleton, HFIT.out, HV.out])
                  have hor : ¬ (j < k) ∨ (j < k ∧ fb = false) := by
                    by_cases hjk : j < k
                    · right
                      refine ⟨hjk, ?_⟩
                      cases fb
                      · rfl
                      · exact absurd ⟨hjk, rfl⟩ hgo
                    · exact .inl hjk
                  have HBN := Lib.hid (bnext HBD.out HBE.out)
                  clear hgo HFIT HFB
                  cases fb
                  · rcases hor with hjk | ⟨hjk, _⟩
                    · have hji : ¬ (j : Int) < (k : Int) := by omega
                      go_wp2_with fail
                      exact ⟨⟨_, _, _, ⟨N + 1, hlN, rfl, cn, rfl, by omega, by rw [hcn2.out]; rfl, HBN.out⟩, rfl, rfl, by go_num⟩, by simp [intOf]; omega⟩
                    · have hji : (j : Int) < (k : Int) := by omega
                      go_wp2_with fail
                      exact ⟨⟨_, _, _, ⟨N + 1, hlN, rfl, cn, rfl, by omega, by rw [hcn2.out]; rfl, HBN.out⟩, rfl, rfl, by go_num⟩, by simp [intOf]; omega⟩
                  · have hjk : ¬ (j < k) := by
                      rcases hor with h | ⟨_, h⟩
                      · exact h
                      · cases h
                    have hji : ¬ (j : Int) < (k : Int) := by omega
                    clear hor
                    go_wp2_with fail
                    exact ⟨⟨_, _, _, ⟨N + 1, hlN, rfl, cn + 1, rfl, by omega, by rw [hcn2.out]; rfl, HBN.out⟩, rfl, by go_num, by go_num⟩, by simp [intOf]; omega⟩
        · obtain rfl : N = Q := by omega
          have hNi : ¬ (N : Int) < (N : Int) := by omega
          have hcv : cn = 2 ^ (m - V) := by rw [HCC.out, HQ.out]; exact HG3.out
          obtain ⟨R, hR, hRb⟩ := pow_name (m - V) (by omega)
          have HSR := Lib.hid (shl_small hR hRb)
          obtain rfl : cn = R := hcv.trans hR.symm
          have ev : (m : Int) - (V : Int) = ((m - V : Nat) : Int) := by omega
          have HEV := Lib.hid ev
          clear hcv hR ev
          have hshl := HSH.out
          have hsr := HSR.out
          go_wp2_with fail
          clear hshl hsr
          refine (works_any _).mono ?_
          rintro e w9 ⟨rfl, hb9⟩
          have HB9 := Lib.hid (bnext (bnext HB7.out HBW.out) hb9)
          clear hb9
          go_wp2_with fail
          go_ret
          exact ⟨rfl, HB9.out⟩
end Go.Proofs.Ytoofnkkbebjldaa
