/- The walk of AlgebraLaws: it returns true for every three numbers. -/
import Derived.Test.YtahfkhnhmnjbeaaFieldWalk
namespace Go.Proofs.Ytahfkhnhmnjbeaa
open Go.RowKit
theorem lawmul_any (n a b : Int) (hn : n = 8 ∨ n = 16 ∨ n = 32) (ha0 : 0 ≤ a) (ha : a.toNat < 2 ^ n.toNat) (hb0 : 0 ≤ b) (hb : b.toNat < 2 ^ n.toNat) (w : World) :
    Calls Try.prog 38 #[.int .i64 n, .int .u64 a, .int .u64 b] w fun e w' => e = .returned (.int .u64 (gm n.toNat a.toNat b.toNat)) ∧ Below w.heap.size w w' := by
  obtain ⟨a, rfl⟩ := Int.eq_ofNat_of_zero_le ha0
  obtain ⟨b, rfl⟩ := Int.eq_ofNat_of_zero_le hb0
  simp only [Int.toNat_natCast] at *
  have hw : isWB n = true := by simpa [isWB, or_assoc] using hn
  have HM : Hid (mulR n a b = (gm n.toNat a b, 0)) := Lib.hid (by rw [mulR_yes hw]; simp [fitB, ha, hb])
  clear ha hb hw hn
  go_enter Try.func38, Try.ntmps38
  go_wp2_with (go_at_call 33; refine (Mul_any _ _ _ _).mono ?_; rw [HM.out]; rintro e w1 ⟨rfl, hb1⟩)
  go_ret
  exact ⟨rfl, hb1⟩
structure LawsRel (w : World) (x : Three) (v : Value) (wr : World) : Prop where
  k : ∃ k : Nat, k ≤ 3 ∧ v = .int .i64 k
  below : Below w.heap.size w wr
  size : w.heap.size + 2 ≤ wr.heap.size
  a : wr.cell? ⟨w.heap.size, 0, none⟩ = some (.int .u64 x.a)
  b : wr.cell? ⟨w.heap.size, 1, none⟩ = some (.int .u64 x.b)
  c : wr.cell? ⟨w.heap.size, 2, none⟩ = some (.int .u64 x.c)
  w0 : wr.cell? ⟨w.heap.size + 1, 0, none⟩ = some (.int .i64 8)
  w1 : wr.cell? ⟨w.heap.size + 1, 1, none⟩ = some (.int .i64 16)
  w2 : wr.cell? ⟨w.heap.size + 1, 2, none⟩ = some (.int .i64 32)
theorem LawsRel.next {w wr w1 : World} {x : Three} {v v' : Value} (h : LawsRel w x v wr) (hb : Below wr.heap.size wr w1) (hk : ∃ k : Nat, k ≤ 3 ∧ v' = .int .i64 k) : LawsRel w x v' w1 := by
  have hs := h.size
  have hs1 := hb.size
  exact ⟨hk, h.below.trans (hb.mono (by omega)), by omega,
    (hb.cell (p := ⟨w.heap.size, 0, none⟩) (by show w.heap.size < _; omega)).trans h.a, (hb.cell (p := ⟨w.heap.size, 1, none⟩) (by show w.heap.size < _; omega)).trans h.b, (hb.cell (p := ⟨w.heap.size, 2, none⟩) (by show w.heap.size < _; omega)).trans h.c,
    (hb.cell (p := ⟨w.heap.size + 1, 0, none⟩) (by show w.heap.size + 1 < _; omega)).trans h.w0, (hb.cell (p := ⟨w.heap.size + 1, 1, none⟩) (by show w.heap.size + 1 < _; omega)).trans h.w1, (hb.cell (p := ⟨w.heap.size + 1, 2, none⟩) (by show w.heap.size + 1 < _; omega)).trans h.w2⟩
/-- Go's rest by 2^n. -/
theorem rem_val (a n : Nat) : ((a : Int)).tmod ((2 : Int) ^ n) = ((a % 2 ^ n : Nat) : Int) := by
  rw [pow_cast, Int.tmod_eq_emod_of_nonneg (Int.natCast_nonneg _), Int.natCast_emod]

set_option maxRecDepth 100000 in
set_option maxHeartbeats 8000000 in
theorem AlgebraLaws_walk (v : Value) (i : Three) (w : World) (hx : IsThree w v i) :
    Calls Try.prog 10 #[v] w fun e w' => e = .returned (.bool true) ∧ Below w.heap.size w w' := by
  obtain ⟨rfl, _, _, _⟩ := hx
  go_enter Try.func10, Try.ntmps10
  go_wp2
  go_loopw [4] (fun v wr => LawsRel w i v wr) (fun v _ => 3 - (intOf v).toNat)
  case atStart => 
    have c1 : ∀ j, ((w.alloc (.cells #[.int .u64 i.a, .int .u64 i.b, .int .u64 i.c] 61)).alloc (.cells #[.int .i64 8, .int .i64 16, .int .i64 32] 3)).cell? ⟨w.heap.size, j, none⟩ = #[.int .u64 i.a, .int .u64 i.b, .int .u64 i.c][j]? := by
      intro j
      exact cell_of_row _ _ _ _ _ _ ((Below.heap_alloc _ _ _ (by simp)).trans (heap_alloc_new w _))
    have c2 : ∀ j, ((w.alloc (.cells #[.int .u64 i.a, .int .u64 i.b, .int .u64 i.c] 61)).alloc (.cells #[.int .i64 8, .int .i64 16, .int .i64 32] 3)).cell? ⟨w.heap.size + 1, j, none⟩ = #[.int .i64 8, .int .i64 16, .int .i64 32][j]? := by
      intro j
      have := heap_alloc_new (w.alloc (.cells #[.int .u64 i.a, .int .u64 i.b, .int .u64 i.c] 61)) (.cells #[.int .i64 8, .int .i64 16, .int .i64 32] 3)
      rw [World.size_alloc] at this
      exact cell_of_row _ _ _ _ _ _ this
    exact ⟨⟨0, by omega, rfl⟩, ((Below.refl _ _).alloc (Nat.le_refl _) _).alloc (by simp) _, by simp, c1 0, c1 1, c1 2, c2 0, c2 1, c2 2⟩
  case round =>
    have HR := Lib.hid hrel
    obtain ⟨k, hk, rfl⟩ := hrel.k
    by_cases hlt : k < 3
    · obtain ⟨n, hn, hcw⟩ : ∃ n : Nat, ((n : Int) = 8 ∨ (n : Int) = 16 ∨ (n : Int) = 32) ∧ wr.cell? ⟨w.heap.size + 1, k, none⟩ = some (.int .i64 n) := by
        have : k = 0 ∨ k = 1 ∨ k = 2 := by omega
        rcases this with rfl | rfl | rfl
        · exact ⟨8, .inl rfl, hrel.w0⟩
        · exact ⟨16, .inr (.inl rfl), hrel.w1⟩
        · exact ⟨32, .inr (.inr rfl), hrel.w2⟩
      have hca := hrel.a
      have hcb := hrel.b
      have hcc := hrel.c
      have hsz := hrel.size
      clear hrel
      have hn32 : (n : Int) ≤ 32 := by omega
      have HW : Hid (IsW n) := Lib.hid (by unfold IsW; omega)
      have HN := Lib.hid hn; clear hn
      have hp : 2 ^ n ≤ 4294967296 := HW.out.pow
      have hp0 : 0 < 2 ^ n := Nat.two_pow_pos n
      have hr1 := rem_val i.a n
      have hr2 := rem_val i.b n
      have hr3 := rem_val i.c n
      have hA : i.a % 2 ^ n < 2 ^ n := Nat.mod_lt _ hp0
      have hB : i.b % 2 ^ n < 2 ^ n := Nat.mod_lt _ hp0
      have hC : i.c % 2 ^ n < 2 ^ n := Nat.mod_lt _ hp0
      have hpw : IntKind.u64.wrap ((2 : Int) ^ n) = (2 : Int) ^ n := by rw [pow_cast, IntKind.wrap_u64]; omega
      have hpz : ¬ ((2 : Int) ^ n = 0) := by rw [pow_cast]; omega
      go_wp2
      clear hcw
      go_quiet (fail)
      have eA : (i.a : Int) % 2 ^ n = ((i.a % 2 ^ n : Nat) : Int) := by rw [pow_cast, Int.natCast_emod]
      have eB : (i.b : Int) % 2 ^ n = ((i.b % 2 ^ n : Nat) : Int) := by rw [pow_cast, Int.natCast_emod]
      have eC : (i.c : Int) % 2 ^ n = ((i.c % 2 ^ n : Nat) : Int) := by rw [pow_cast, Int.natCast_emod]
      simp only [eA, eB, eC]
      clear eA eB eC hr1 hr2 hr3 hca hcb hcc
      generalize i.a % 2 ^ n = A at hA
      generalize i.b % 2 ^ n = B at hB
      generalize i.c % 2 ^ n = C at hC
      have hb0 : Below wr.heap.size wr (wr.drewN nq) := (Qw.drewN (Qw.refl wr) nq).below _
      have hRl : gm n A B < 2 ^ n := gm_lt HW.out hA
      have hSl : gm n B C < 2 ^ n := gm_lt HW.out hB
      have hTl : gm n A C < 2 ^ n := gm_lt HW.out hA
      have hBC : B ^^^ C < 2 ^ n := xor_lt hB hC
      have h1l : 1 < 2 ^ n := one_lt' HW.out
      have HWB : Hid (isWB n = true) := Lib.hid (by have := HN.out; simpa [isWB, or_assoc] using this)
      have hx1 : bits .xor .u64 (B : Int) (C : Int) = ((B ^^^ C : Nat) : Int) := u64_xor' (by omega) (by omega)
      have hx2 : bits .xor .u64 (gm n A B : Int) (gm n A C : Int) = ((gm n A B ^^^ gm n A C : Nat) : Int) := u64_xor' (by omega) (by omega)
      have hRi : (gm n A B : Int) < 2 ^ n := by rw [pow_cast]; omega
      have e2 : ((gm n A B : Int) != (gm n B A : Int)) = false := by rw [gm_comm HW.out hA hB]; simp
      have e3 : ((gm n (gm n A B) C : Int) != (gm n A (gm n B C) : Int)) = false := by rw [gm_assoc HW.out hA hB hC]; simp
      have e4 : ((gm n A (B ^^^ C) : Int) != ((gm n A B ^^^ gm n A C : Nat) : Int)) = false := by rw [gm_xor_right HW.out hA]; simp
      have e5 : ((gm n A 1 : Int) != (A : Int)) = false := by rw [gm_one HW.out]; simp
      by_cases hz : A = 0
      · have hA0 : ((A : Int) == 0) = true := by rw [beq_iff_eq]; omega
        have hR0 : ((gm n A B : Int) == 0) = true := by rw [beq_iff_eq]; subst hz; rw [zero_gm HW.out]; rfl
        have HI : Hid (invR n A = (0, 7)) := Lib.hid (by rw [invR_yes HWB.out]; simp [fitB, hz])
        have hAn : ¬ ((0 : Int) < (A : Int)) := by omega
        have HZ := Lib.hid hz; clear hz
        go_wp2_with fail
        refine (lawmul_any _ _ _ HN.out (by omega) (by simpa using hA) (by omega) (by simpa using hB) _).mono ?_
        rintro e w1 ⟨rfl, hbj⟩
        have hb1 := hb0.trans (hbj.mono hb0.size)
        clear hbj hb0
        go_wp2_with fail
        refine (lawmul_any _ _ _ HN.out (by omega) (by simpa using hB) (by omega) (by simpa using hA) _).mono ?_
        rintro e w2 ⟨rfl, hbj⟩
        have hb2 := hb1.trans (hbj.mono hb1.size)
        clear hbj hb1
        go_wp2_with fail
        refine (lawmul_any _ _ _ HN.out (by omega) (by simpa using hRl) (by omega) (by simpa using hC) _).mono ?_
        rintro e w3 ⟨rfl, hbj⟩
        have hb3 := hb2.trans (hbj.mono hb2.size)
        clear hbj hb2
        go_wp2_with fail
        refine (lawmul_any _ _ _ HN.out (by omega) (by simpa using hB) (by omega) (by simpa using hC) _).mono ?_
        rintro e w4 ⟨rfl, hbj⟩
        have hb4 := hb3.trans (hbj.mono hb3.size)
        clear hbj hb3
        go_wp2_with fail
        refine (lawmul_any _ _ _ HN.out (by omega) (by simpa using hA) (by omega) (by simpa using hSl) _).mono ?_
        rintro e w5 ⟨rfl, hbj⟩
        have hb5 := hb4.trans (hbj.mono hb4.size)
        clear hbj hb4
        go_wp2_with fail
        refine (lawmul_any _ _ _ HN.out (by omega) (by simpa using hA) (by omega) (by simpa using hBC) _).mono ?_
        rintro e w6 ⟨rfl, hbj⟩
        have hb6 := hb5.trans (hbj.mono hb5.size)
        clear hbj hb5
        go_wp2_with fail
        refine (lawmul_any _ _ _ HN.out (by omega) (by simpa using hA) (by omega) (by simpa using hC) _).mono ?_
        rintro e w7 ⟨rfl, hbj⟩
        have hb7 := hb6.trans (hbj.mono hb6.size)
        clear hbj hb6
        go_wp2_with fail
        refine (lawmul_any _ _ _ HN.out (by omega) (by simpa using hA) (by omega) (by simpa using h1l) _).mono ?_
        rintro e w8 ⟨rfl, hbj⟩
        have hb8 := hb7.trans (hbj.mono hb7.size)
        clear hbj hb7
        go_wp2_with fail
        refine (Inverse_any _ _ _).mono ?_
        rw [HI.out]
        rintro e w9 ⟨rfl, hbj⟩
        have hb9 := hb8.trans (hbj.mono hb8.size)
        clear hbj hb8
        go_wp2
        exact ⟨HR.out.next hb9 ⟨k + 1, by omega, by go_num⟩, by simp [intOf]; omega⟩
      · by_cases hy : B = 0
        · skip
          have hA0 : ((A : Int) == 0) = false := by rw [beq_eq_false_iff_ne]; omega
          have hB0 : ((B : Int) == 0) = true := by rw [beq_iff_eq]; omega
          have hR0 : ((gm n A B : Int) == 0) = true := by rw [beq_iff_eq]; subst hy; rw [gm_zero HW.out]; rfl
          have HI : Hid (invR n A = (inv n A, 0)) := Lib.hid (by rw [invR_yes HWB.out]; simp [fitB, hA, hz])
          have hAn : ((0 : Int) < (A : Int)) := by omega
          have hinv := inv_lt HW.out A
          have e8 : ((gm n A (inv n A) : Int) != 1) = false := by rw [gm_inv HW.out hA hz]; rfl
          have HZ := Lib.hid hz; clear hz
          have HY := Lib.hid hy; clear hy
          go_wp2_with fail
          refine (lawmul_any _ _ _ HN.out (by omega) (by simpa using hA) (by omega) (by simpa using hB) _).mono ?_
          rintro e w1 ⟨rfl, hbj⟩
          have hb1 := hb0.trans (hbj.mono hb0.size)
          clear hbj hb0
          go_wp2_with fail
          refine (lawmul_any _ _ _ HN.out (by omega) (by simpa using hB) (by omega) (by simpa using hA) _).mono ?_
          rintro e w2 ⟨rfl, hbj⟩
          have hb2 := hb1.trans (hbj.mono hb1.size)
          clear hbj hb1
          go_wp2_with fail
          refine (lawmul_any _ _ _ HN.out (by omega) (by simpa using hRl) (by omega) (by simpa using hC) _).mono ?_
          rintro e w3 ⟨rfl, hbj⟩
          have hb3 := hb2.trans (hbj.mono hb2.size)
          clear hbj hb2
          go_wp2_with fail
          refine (lawmul_any _ _ _ HN.out (by omega) (by simpa using hB) (by omega) (by simpa using hC) _).mono ?_
          rintro e w4 ⟨rfl, hbj⟩
          have hb4 := hb3.trans (hbj.mono hb3.size)
          clear hbj hb3
          go_wp2_with fail
          refine (lawmul_any _ _ _ HN.out (by omega) (by simpa using hA) (by omega) (by simpa using hSl) _).mono ?_
          rintro e w5 ⟨rfl, hbj⟩
          have hb5 := hb4.trans (hbj.mono hb4.size)
          clear hbj hb4
          go_wp2_with fail
          refine (lawmul_any _ _ _ HN.out (by omega) (by simpa using hA) (by omega) (by simpa using hBC) _).mono ?_
          rintro e w6 ⟨rfl, hbj⟩
          have hb6 := hb5.trans (hbj.mono hb5.size)
          clear hbj hb5
          go_wp2_with fail
          refine (lawmul_any _ _ _ HN.out (by omega) (by simpa using hA) (by omega) (by simpa using hC) _).mono ?_
          rintro e w7 ⟨rfl, hbj⟩
          have hb7 := hb6.trans (hbj.mono hb6.size)
          clear hbj hb6
          go_wp2_with fail
          refine (lawmul_any _ _ _ HN.out (by omega) (by simpa using hA) (by omega) (by simpa using h1l) _).mono ?_
          rintro e w8 ⟨rfl, hbj⟩
          have hb8 := hb7.trans (hbj.mono hb7.size)
          clear hbj hb7
          go_wp2_with fail
          refine (Inverse_any _ _ _).mono ?_
          rw [HI.out]
          rintro e w9 ⟨rfl, hbj⟩
          have hb9 := hb8.trans (hbj.mono hb8.size)
          clear hbj hb8
          go_wp2_with fail
          refine (lawmul_any _ _ _ HN.out (by omega) (by simpa using hA) (by omega) (by simpa using hinv) _).mono ?_
          rintro e w10 ⟨rfl, hbj⟩
          have hb10 := hb9.trans (hbj.mono hb9.size)
          clear hbj hb9
          go_wp2
          exact ⟨HR.out.next hb10 ⟨k + 1, by omega, by go_num⟩, by simp [intOf]; omega⟩
        · skip
          have hA0 : ((A : Int) == 0) = false := by rw [beq_eq_false_iff_ne]; omega
          have hB0 : ((B : Int) == 0) = false := by rw [beq_eq_false_iff_ne]; omega
          have hR0 : ((gm n A B : Int) == 0) = false := by
            rw [beq_eq_false_iff_ne]; intro h
            rcases gm_eq_zero HW.out hA hB (by omega) with h1 | h1 <;> omega
          have HI : Hid (invR n A = (inv n A, 0)) := Lib.hid (by rw [invR_yes HWB.out]; simp [fitB, hA, hz])
          have hAn : ((0 : Int) < (A : Int)) := by omega
          have hinv := inv_lt HW.out A
          have e8 : ((gm n A (inv n A) : Int) != 1) = false := by rw [gm_inv HW.out hA hz]; rfl
          have HZ := Lib.hid hz; clear hz
          have HY := Lib.hid hy; clear hy
          go_wp2_with fail
          refine (lawmul_any _ _ _ HN.out (by omega) (by simpa using hA) (by omega) (by simpa using hB) _).mono ?_
          rintro e w1 ⟨rfl, hbj⟩
          have hb1 := hb0.trans (hbj.mono hb0.size)
          clear hbj hb0
          go_wp2_with fail
          refine (lawmul_any _ _ _ HN.out (by omega) (by simpa using hB) (by omega) (by simpa using hA) _).mono ?_
          rintro e w2 ⟨rfl, hbj⟩
          have hb2 := hb1.trans (hbj.mono hb1.size)
          clear hbj hb1
          go_wp2_with fail
          refine (lawmul_any _ _ _ HN.out (by omega) (by simpa using hRl) (by omega) (by simpa using hC) _).mono ?_
          rintro e w3 ⟨rfl, hbj⟩
          have hb3 := hb2.trans (hbj.mono hb2.size)
          clear hbj hb2
          go_wp2_with fail
          refine (lawmul_any _ _ _ HN.out (by omega) (by simpa using hB) (by omega) (by simpa using hC) _).mono ?_
          rintro e w4 ⟨rfl, hbj⟩
          have hb4 := hb3.trans (hbj.mono hb3.size)
          clear hbj hb3
          go_wp2_with fail
          refine (lawmul_any _ _ _ HN.out (by omega) (by simpa using hA) (by omega) (by simpa using hSl) _).mono ?_
          rintro e w5 ⟨rfl, hbj⟩
          have hb5 := hb4.trans (hbj.mono hb4.size)
          clear hbj hb4
          go_wp2_with fail
          refine (lawmul_any _ _ _ HN.out (by omega) (by simpa using hA) (by omega) (by simpa using hBC) _).mono ?_
          rintro e w6 ⟨rfl, hbj⟩
          have hb6 := hb5.trans (hbj.mono hb5.size)
          clear hbj hb5
          go_wp2_with fail
          refine (lawmul_any _ _ _ HN.out (by omega) (by simpa using hA) (by omega) (by simpa using hC) _).mono ?_
          rintro e w7 ⟨rfl, hbj⟩
          have hb7 := hb6.trans (hbj.mono hb6.size)
          clear hbj hb6
          go_wp2_with fail
          refine (lawmul_any _ _ _ HN.out (by omega) (by simpa using hA) (by omega) (by simpa using h1l) _).mono ?_
          rintro e w8 ⟨rfl, hbj⟩
          have hb8 := hb7.trans (hbj.mono hb7.size)
          clear hbj hb7
          go_wp2_with fail
          refine (Inverse_any _ _ _).mono ?_
          rw [HI.out]
          rintro e w9 ⟨rfl, hbj⟩
          have hb9 := hb8.trans (hbj.mono hb8.size)
          clear hbj hb8
          go_wp2_with fail
          refine (lawmul_any _ _ _ HN.out (by omega) (by simpa using hA) (by omega) (by simpa using hinv) _).mono ?_
          rintro e w10 ⟨rfl, hbj⟩
          have hb10 := hb9.trans (hbj.mono hb9.size)
          clear hbj hb9
          go_wp2
          exact ⟨HR.out.next hb10 ⟨k + 1, by omega, by go_num⟩, by simp [intOf]; omega⟩
    · go_wp2_with fail
      refine (known_any _).mono ?_
      rintro e w1 ⟨rfl, hb1⟩
      go_wp2_with fail
      go_ret
      exact ⟨rfl, HR.out.below.trans (hb1.mono (by have := HR.out.size; omega))⟩
end Go.Proofs.Ytahfkhnhmnjbeaa
