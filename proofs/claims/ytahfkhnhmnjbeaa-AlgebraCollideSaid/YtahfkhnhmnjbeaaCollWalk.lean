/- The walk of AlgebraCollide: it returns true for any two bit strings. -/
import Derived.Test.YtahfkhnhmnjbeaaHashWalk
import Derived.Test.YtahfkhnhmnjbeaaCollMath
namespace Go.Proofs.Ytahfkhnhmnjbeaa
open Go.RowKit
set_option linter.unusedVariables false
theorem max_cast (n m : Nat) : (max (n : Int) (m : Int)) = ((max n m : Nat) : Int) := by omega
theorem Hash_8 (key k c : Nat) (A : Option Addr) (bits : List Bool) (w : World) (hkey : key < 256) (hk : k ≤ 400) (hkc : k ≤ c) (hr : Rd w w.heap.size 1 A k (bits.map Value.bool)) :
    Calls Try.prog 39 #[.int .i64 8, .int .u64 key, .slice A k c] w fun e w' => e = .returned (.tuple #[.int .u64 (horner 8 key (wordsL 8 bits)), .int .i64 0]) ∧ Below w.heap.size w w' :=
  Hash_ok 8 key k c A bits w isW8 hkey (by omega) hkc hr
set_option maxRecDepth 100000 in
set_option maxHeartbeats 1000000 in
theorem Coll_in (n c m c' : Nat) (A A' : Option Addr) (a b : List Bool) (w : World) (hn : n ≤ 400) (hm : m ≤ 400) (hnc : n ≤ c) (hmc : m ≤ c') (hr : Rd w w.heap.size 1 A n (a.map Value.bool)) (hr' : Rd w w.heap.size 1 A' m (b.map Value.bool)) :
    Calls Try.prog 12 #[.slice A n c, .slice A' m c'] w fun e w' => e = .returned (.bool true) ∧ Below w.heap.size w w' := by
  have g1 : (n : Int) ≤ 400 := by omega
  have g2 : (m : Int) ≤ 400 := by omega
  have hl : a.length = n := by have := hr.1; simpa using this
  have hl' : b.length = m := by have := hr'.1; simpa using this
  have R0 := Lib.hid hr; have S0 := Lib.hid hr'; have HL := Lib.hid hl; have HL' := Lib.hid hl'
  clear hr hr' hl hl'
  go_enter Try.func12, Try.ntmps12
  go_wp2
  go_loopw [5, 6] (fun t i wr => ∃ q : Nat, q ≤ 256 ∧ i = .int .i64 q ∧ t = .int .i64 ((meet (wordsL 8 a) (wordsL 8 b) q).length : Nat) ∧ Below w.heap.size w wr) (fun _ i _ => 256 - (intOf i).toNat)
  case atStart => exact ⟨0, by omega, rfl, rfl, Below.refl _ _⟩
  case round =>
    obtain ⟨q, hq, rfl, rfl, hb⟩ := hrel
    have hs := hb.size
    have hme := meet_le (wordsL 8 a) (wordsL 8 b) q
    by_cases hlt : q < 256
    · have hlt' : (q : Int) < 256 := by omega
      have HS := Lib.hid (meet_snoc (wordsL 8 a) (wordsL 8 b) q)
      go_wp2_with fail
      refine (Hash_8 q n c A a _ hlt hn hnc ((R0.out.below hb).mono hs)).mono ?_
      rintro e w1 ⟨rfl, hb1⟩
      have s1 := hb1.size
      have b1 := hb.trans (hb1.mono hs)
      go_wp2_with fail
      refine (Hash_8 q m c' A' b _ hlt hm hmc ((S0.out.below b1).mono (by omega))).mono ?_
      rintro e w2 ⟨rfl, hb2⟩
      have b2 := b1.trans (hb2.mono (by omega))
      obtain ⟨x, hx⟩ : ∃ x, x = horner 8 q (wordsL 8 a) := ⟨_, rfl⟩
      obtain ⟨y, hy⟩ : ∃ y, y = horner 8 q (wordsL 8 b) := ⟨_, rfl⟩
      rw [← hx, ← hy] at HS ⊢
      clear hx hy hb1 hb2
      generalize (meet (wordsL 8 a) (wordsL 8 b) q).length = M at HS hme
      by_cases hxy : x = y
      · subst hxy
        go_wp2
        go_roundw
        case rel => exact ⟨q + 1, by omega, by go_num, by rw [HS.out, if_pos (by simp)]; go_num, b2⟩
        case measure => simp [intOf]; omega
      · have hxy' : ((x : Int) == (y : Int)) = false := by simp only [beq_eq_false_iff_ne]; omega
        have HXY : Hid ((x == y) = false) := Lib.hid (by simpa using hxy)
        clear hxy
        go_wp2
        go_roundw
        case rel => exact ⟨q + 1, by omega, by go_num, by rw [HS.out, HXY.out]; rfl, b2⟩
        case measure => simp [intOf]; omega
    · obtain rfl : q = 256 := by omega
      have hlt' : ¬ ((256 : Nat) : Int) < 256 := by omega
      have hmx : max (n : Int) (m : Int) = ((max n m : Nat) : Int) := max_cast n m
      have HMX := Lib.hid hmx
      have hmn : max n m ≤ 400 := by omega
      have hW := Words_ok 8 (max n m) wr isW8 (by omega)
      rw [← hmx] at hW
      have HWO := Lib.hid hW
      clear hW hmx
      have hfew : a = b ∨ (sameB a b = false ∧ (meet (wordsL 8 a) (wordsL 8 b) 256).length ≤ max n m / 8 + 2) := by
        by_cases hab : a = b
        · exact .inl hab
        · refine .inr ⟨by simpa [sameB] using hab, ?_⟩
          have := words_meet hab
          rwa [HL.out, HL'.out] at this
      have hall := meet_all (wordsL 8 a)
      rcases hfew with rfl | ⟨hsb, hle⟩
      · rw [hall] at hme ⊢
        clear hme hall
        go_wp2_with fail
        refine HWO.out.mono ?_
        rintro e w' ⟨rfl, rfl⟩
        go_wp2_with fail
        refine (Same_self _ _ _ _ _ _ a _ (by omega) (by omega) ((R0.out.below hb).mono hs) ((S0.out.below hb).mono hs)).mono ?_
        rintro e w2 ⟨rfl, hb2⟩
        have b2 := hb.trans (hb2.mono hs)
        have s2 := b2.size
        clear hb2
        go_wp2_with (go_at_call 15; refine (known_any _).mono ?_; rintro e w9 ⟨rfl, hb9⟩)
        go_ret
        exact ⟨rfl, b2.trans (hb9.mono s2)⟩
      · clear hall
        have HSB := Lib.hid hsb
        generalize (meet (wordsL 8 a) (wordsL 8 b) 256).length = M at hme hle ⊢
        generalize max n m / 8 + 2 = K at hle HWO
        have hle' : (M : Int) ≤ (K : Int) := by omega
        clear hsb
        go_wp2_with fail
        refine HWO.out.mono ?_
        rintro e w' ⟨rfl, rfl⟩
        go_wp2_with fail
        refine (Same_any _ _ _ _ _ _ a b _ (by omega) (by omega) ((R0.out.below hb).mono hs) ((S0.out.below hb).mono hs)).mono ?_
        rw [HSB.out]
        rintro e w2 ⟨rfl, hb2⟩
        have b2 := hb.trans (hb2.mono hs)
        have s2 := b2.size
        clear hb2
        go_wp2_with (go_at_call 15; refine (known_any _).mono ?_; rintro e w9 ⟨rfl, hb9⟩)
        go_ret
        exact ⟨rfl, b2.trans (hb9.mono s2)⟩
theorem Coll_big (n c m c' : Nat) (A A' : Option Addr) (w : World) (h0 : n ≤ 9223372036854775807) (h1 : m ≤ 9223372036854775807) (h : 400 < n ∨ 400 < m) :
    Calls Try.prog 12 #[.slice A n c, .slice A' m c'] w fun e w' => e = .returned (.bool true) ∧ Below w.heap.size w w' := by
  by_cases g : 400 < n
  · have g1 : (400 : Int) < (n : Int) := by omega
    clear h g
    go_enter Try.func12, Try.ntmps12
    go_wp2_with (go_at_call 15; refine (known_any _).mono ?_; rintro e w9 ⟨rfl, hb9⟩)
    go_ret
    exact ⟨rfl, hb9⟩
  · have g1 : (n : Int) ≤ 400 := by omega
    have g2 : (400 : Int) < (m : Int) := by omega
    clear h g
    go_enter Try.func12, Try.ntmps12
    go_wp2_with (go_at_call 15; refine (known_any _).mono ?_; rintro e w9 ⟨rfl, hb9⟩)
    go_ret
    exact ⟨rfl, hb9⟩
theorem AlgebraCollide_walk (v0 : Value) (i0 : BitsArg) (v1 : Value) (i1 : BitsArg) (w : World) (hx0 : IsBits w v0 i0) (hx1 : IsBits w v1 i1) :
    Calls Try.prog 12 #[v0, v1] w fun e w' => e = .returned (.bool true) ∧ Below w.heap.size w w' := by
  obtain ⟨rfl, a1, a2, a3, a4⟩ := hx0
  obtain ⟨rfl, b1, b2, b3, b4⟩ := hx1
  by_cases h : 400 < i0.n ∨ 400 < i1.n
  · exact Coll_big _ _ _ _ _ _ w (by omega) (by omega) h
  · exact Coll_in _ _ _ _ _ _ i0.bs i1.bs w (by omega) (by omega) a1 b1 a4 b4
end Go.Proofs.Ytahfkhnhmnjbeaa
