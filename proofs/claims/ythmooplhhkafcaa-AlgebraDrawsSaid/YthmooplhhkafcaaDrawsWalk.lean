/- The walk of AlgebraDraws: it returns true for any seed and any calls. -/
import Derived.Test.YthmooplhhkafcaaDrawLaw2
import Derived.Test.YthmooplhhkafcaaOpenOps
import Derived.Test.YthmooplhhkafcaaKnown
namespace Go.Proofs.Ythmooplhhkafcaa
open Go.RowKit
set_option linter.unusedVariables false
theorem New_ex3 (s : Nat) (w : World) :
    Calls Try.prog 31 #[.int .u64 s] w fun e w' => e = .returned (.pointer (some ⟨w.heap.size, 0, none⟩)) ∧ DrawAt w' w.heap.size s ∧ w'.heap.size = w.heap.size + 1 ∧ Below w.heap.size w w' :=
  (New_any s w).mono fun e w' ⟨he, hw⟩ => by subst hw; exact ⟨he, DrawAt.new w s, by simp, (Below.refl _ _).alloc (Nat.le_refl _) _⟩
set_option maxRecDepth 100000 in
set_option maxHeartbeats 4000000 in
theorem Draws_try (s : Nat) (i : OpArg) (w : World) (hs : s < 18446744073709551616) (hi : IsOp w (.slice i.A i.n i.c) i) (hn : i.n ≤ 40) :
    Calls Try.prog 10 #[.int .u64 s, .slice i.A i.n i.c] w fun e w' => e = .returned (.bool true) ∧ Below w.heap.size w w' := by
  have HI := Lib.hid hi.2.2.2; clear hi
  obtain ⟨A, n, c⟩ := i
  simp only at HI hn ⊢
  have hn1 : (n : Int) ≤ 40 := by omega
  have HS : Hid (s < two64) := Lib.hid hs
  clear hs
  go_enter Try.func10, Try.ntmps10
  go_wp2_with fail
  refine (New_ex3 s _).mono ?_
  rintro e w1 ⟨rfl, d1, s1, b1⟩
  have D1 := Lib.hid d1; have B1 := Lib.hid b1
  clear d1 b1 s1
  go_wp2_with fail
  go_loopw [5, 6, 7] (fun p0 q0 i wr => ∃ k b s' : Nat, k ≤ n ∧ i = .int .i64 k ∧ p0 = .pointer (some ⟨b, 0, none⟩) ∧ q0 = .int .u64 s' ∧ s' < two64 ∧ w.heap.size ≤ b ∧ DrawAt wr b s' ∧ Below w.heap.size w wr) (fun _ _ i _ => n - (intOf i).toNat)
  case atStart => exact ⟨0, w.heap.size, s, Nat.zero_le _, rfl, rfl, rfl, HS.out, Nat.le_refl _, D1.out, B1.out⟩
  case round =>
    obtain ⟨k, b, s', hk, rfl, rfl, rfl, hs', hb, hd, hbw⟩ := hrel
    have HS' := Lib.hid hs'; have HD := Lib.hid hd; have HB := Lib.hid hbw
    have hbl := hd.lt
    clear hs' hd hbw
    by_cases hlt : k < n
    · have hki : (k : Int) < (n : Int) := by omega
      obtain ⟨lb, lo, D, N, K, rfl, hlb, e0, e1, e2, hN1, hN2⟩ := HI.out k hlt
      have c0 : wr.cell? ⟨lb, lo + k * 3, none⟩ = some (.int .i64 D) := (HB.out.cell (p := ⟨lb, lo + k * 3, none⟩) hlb).trans e0
      have c1 : wr.cell? ⟨lb, lo + k * 3 + 1, none⟩ = some (.int .i64 N) := (HB.out.cell (p := ⟨lb, lo + k * 3 + 1, none⟩) hlb).trans e1
      have c2 : wr.cell? ⟨lb, lo + k * 3 + 2, none⟩ = some (.int .i64 K) := (HB.out.cell (p := ⟨lb, lo + k * 3 + 2, none⟩) hlb).trans e2
      clear e0 e1 e2
      go_wp2_with fail
      refine (kind_any D _).mono ?_
      rintro e w' ⟨g, rfl, rfl⟩
      by_cases hg : g = 5
      · subst hg
        go_wp2_with fail
        refine (Copy_any b s' _ HD.out).mono ?_
        rintro e w2 ⟨rfl, d2, s2, b2⟩
        have D2 := Lib.hid (HD.out.below b2 hbl); have C2 := Lib.hid d2; have B2 := Lib.hid (HB.out.trans (b2.mono (by omega)))
        have hs2 := b2.size
        clear d2 b2
        have S2 := Lib.hid s2; clear s2
        go_wp2_with fail
        refine (refNext_ex s' _ HS'.out).mono ?_
        rintro e w3 ⟨S1, y1, hS1, hy1, rfl, q1⟩
        have D3 := Lib.hid (D2.out.q q1); have C3 := Lib.hid (C2.out.q q1); have B3 := Lib.hid (B2.out.trans (q1.below _)); have HY1 := Lib.hid hy1
        clear hS1 hy1 q1
        go_wp2_with fail
        refine (Next_ex2 b s' (wr.heap.size + 1) _ D3.out (by omega)).mono ?_
        rintro e w4 ⟨y2, hy2, rfl, u4, _⟩
        obtain rfl : y2 = y1 := by rw [hy2, HY1.out]
        have C4 := Lib.hid ((C3.out.setOther (p := ⟨b, 0, none⟩) (by simp only; omega) _).below u4 (by omega))
        have B4 := Lib.hid (B3.out.trans (u4.to hb (by omega)))
        clear hy2 u4 HY1
        go_wp2_with fail
        go_roundw
        case rel => exact ⟨k + 1, wr.heap.size, s', by omega, by go_num, rfl, rfl, HS'.out, by omega, C4.out, B4.out⟩
        case measure => simp [intOf]; omega
      · have hg2 : (g == 5) = false := by simpa using hg
        clear hg
        go_wp2_with fail
        refine (draw_any b s' D N K _ HS'.out HD.out hN1 hN2).mono ?_
        rintro e w2 ⟨S1, hS1, rfl, u1⟩
        have D2 := Lib.hid (Upd.at HD.out u1 hbl); have B2 := Lib.hid (HB.out.trans (u1.to hb (by omega))); have HS1 := Lib.hid hS1
        clear u1 hS1
        go_wp2_with fail
        go_roundw
        case rel => exact ⟨k + 1, b, S1, by omega, by go_num, rfl, rfl, HS1.out, hb, D2.out, B2.out⟩
        case measure => simp [intOf]; omega
    · obtain rfl : k = n := by omega
      go_wp2_with fail
      refine (refNext_ex s' _ HS'.out).mono ?_
      rintro e w3 ⟨S1, y1, hS1, hy1, rfl, q1⟩
      have D3 := Lib.hid (HD.out.q q1); have B3 := Lib.hid (HB.out.trans (q1.below _)); have HY1 := Lib.hid hy1
      clear hS1 hy1 q1
      go_wp2_with fail
      refine (Next_ex2 b s' (b + 1) _ D3.out (by omega)).mono ?_
      rintro e w4 ⟨y2, hy2, rfl, u4, _⟩
      obtain rfl : y2 = y1 := by rw [hy2, HY1.out]
      have B4 := Lib.hid (B3.out.trans (u4.to hb (by omega)))
      clear hy2 u4 HY1
      go_wp2_with fail
      refine (known_any _).mono ?_
      rintro e w5 ⟨rfl, hb5⟩
      have B5 := B4.out.trans (hb5.mono B4.out.size)
      go_wp2_with fail
      go_ret
      exact ⟨rfl, B5⟩
set_option maxRecDepth 100000 in
theorem Draws_big (s : Nat) (A : Option Addr) (n c : Nat) (w : World) (hn : 40 < n) (hm : n ≤ 9223372036854775807) :
    Calls Try.prog 10 #[.int .u64 s, .slice A n c] w fun e w' => e = .returned (.bool true) ∧ Below w.heap.size w w' := by
  have g1 : (40 : Int) < (n : Int) := by omega
  go_enter Try.func10, Try.ntmps10
  go_wp2_with (go_at_call 12; refine (known_any _).mono ?_; rintro e w9 ⟨rfl, hb9⟩)
  go_ret
  exact ⟨rfl, hb9⟩
theorem AlgebraDraws_walk (s : Nat) (v1 : Value) (i1 : OpArg) (w : World) (hs : s < 18446744073709551616) (hx1 : IsOp w v1 i1) :
    Calls Try.prog 10 #[.int .u64 s, v1] w fun e w' => e = .returned (.bool true) ∧ Below w.heap.size w w' := by
  have h := hx1
  obtain ⟨rfl, a1, a2, a3⟩ := hx1
  by_cases hn : 40 < i1.n
  · exact Draws_big s _ _ _ w hn (by omega)
  · exact Draws_try s i1 w hs h (by omega)
end Go.Proofs.Ythmooplhhkafcaa
