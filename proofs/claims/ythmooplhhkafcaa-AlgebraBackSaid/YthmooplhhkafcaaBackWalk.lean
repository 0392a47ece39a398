/- The walk of AlgebraBack: it returns true for any bit string. -/
import Derived.Test.YthmooplhhkafcaaBackMath
import Derived.Test.YthmooplhhkafcaaForms2
import Derived.Test.YthmooplhhkafcaaUnpack4
import Derived.Test.YthmooplhhkafcaaKnown
import Derived.Test.YthmooplhhkafcaaToepWalk
import Derived.Test.YthmooplhhkafcaaFieldWalk
namespace Go.Proofs.Ythmooplhhkafcaa
open Go.RowKit
set_option linter.unusedVariables false
/-- Parse gives back the bits of a text. -/
theorem Parse_text (bs : List Bool) (n : Nat) (w : World) (hn : bs.length = n) (hs : n ≤ 100000) :
    Calls Try.prog 13 #[.string ⟨(textOf bs).toArray⟩] w (RetOwn w 4 1 n (bs.map Value.bool) (fun v => .tuple #[v, .int .i64 0])) := by
  subst hn
  have hl : (ByteArray.mk (textOf bs).toArray).size = bs.length := by simp [ByteArray.size, textOf]
  refine (Parse_any ⟨(textOf bs).toArray⟩ w (by omega)).mono fun e w' h => ?_
  rcases h with ⟨_, h⟩ | ⟨h, _⟩
  · rw [hl] at h
    simpa [bitsOf_textOf] using h
  · exact absurd (by simpa using textOf_all bs) h
theorem Unpack_pack (A : Option Addr) (c : Nat) (bs : List Bool) (n m : Nat) (w : World) (hn : bs.length = n) (hm : (n + 7) / 8 = m) (hs : n ≤ 100000) (h : Rd w w.heap.size 1 A m (Lib.byteCells (packL bs))) :
    Calls Try.prog 16 #[.slice A m c, .int .i64 n] w (RetOwn w 4 1 n (bs.map Value.bool) (fun v => .tuple #[v, .int .i64 0])) := by
  rw [← packN_cells] at h
  refine (Unpack_any A m c n (packN bs) w (by omega) (by omega) hm (packN_lt bs) h).mono fun e w' hp => ?_
  have ho : okU (packN bs) n (8 * m) = true := by subst hn hm; exact okU_pack bs
  have hu : unL (packN bs) n = bs := by subst hn; exact unL_pack bs
  rcases hp with ⟨_, hp⟩ | ⟨h1, _⟩
  · rw [hu] at hp; exact hp
  · rw [ho] at h1; cases h1
theorem same_eq (A A' : Option Addr) (n m c c' : Nat) (l : List UInt8) (w : World) (B : Nat) (h : Rd w B 1 A n (Lib.byteCells l)) (h' : Rd w B 1 A' m (Lib.byteCells l)) :
    Calls Try.prog 18 #[.slice A n c, .slice A' m c'] w fun e w' => e = .returned (.bool true) ∧ w = w' := by
  have := same_any A A' n m c c' l l w B h h'
  rwa [decide_eq_true rfl] at this
theorem Number_word (bs : List Bool) (n : Nat) (w : World) (hn : bs.length = n) (h : n ≤ 64) :
    Calls Try.prog 20 #[.int .u64 (wordV bs), .int .i64 n] w (RetOwn w 4 1 n (bs.map Value.bool) (fun v => .tuple #[v, .int .i64 0])) := by
  subst hn
  have h1 := wordV_lt bs
  have h2 : wordV bs < 18446744073709551616 := Nat.lt_of_lt_of_le h1 (Nat.le_trans (Nat.pow_le_pow_right (by decide) h) (by decide))
  have := Number_any (wordV bs) bs.length w h2 h h1
  rwa [numL_wordV] at this
set_option maxRecDepth 100000 in
set_option maxHeartbeats 2000000 in
theorem Back_try (A : Option Addr) (n c : Nat) (bs : List Bool) (w : World) (hn : n ≤ 2000) (hl : bs.length = n) (h : Rd w w.heap.size 1 A n (bs.map Value.bool)) :
    Calls Try.prog 3 #[.slice A n c] w fun e w' => e = .returned (.bool true) ∧ Below w.heap.size w w' := by
  have g1 : (n : Int) ≤ 2000 := by omega
  have HL := Lib.hid hl
  have X0 := Lib.hid h
  clear h hl
  go_enter Try.func3, Try.ntmps3
  go_wp2_with fail
  refine (Text_any _ _ _ bs _ (by omega) (X0.out)).mono ?_
  rintro e w1 ⟨rfl, hb1⟩
  have s1 := hb1.size
  have B1 : Below w.heap.size w w1 := hb1
  have X1 := Lib.hid ((X0.out.below hb1).mono s1); clear X0
  go_wp2_with fail
  refine (Parse_text bs n _ HL.out (by omega)).mono ?_
  rintro e w2 ⟨A2, c2, rfl, hc2, hown2, hb2⟩
  have s2 := hb2.size
  have B2 : Below w.heap.size w w2 := B1.trans (hb2.mono (by omega))
  have X2 := Lib.hid ((X1.out.below hb2).mono s2); clear X1
  have Y2 := Lib.hid (Rd.own hown2); clear hown2
  try dsimp only [id]
  go_wp2_with fail
  refine (Pack_any _ _ _ bs _ (by omega) (X2.out)).mono ?_
  rintro e w3 ⟨A3, c3, rfl, hc3, hown3, hb3⟩
  have s3 := hb3.size
  have B3 : Below w.heap.size w w3 := B2.trans (hb3.mono (by omega))
  have X3 := Lib.hid ((X2.out.below hb3).mono s3); clear X2
  have Y3 := Lib.hid ((Y2.out.below hb3).mono s3); clear Y2
  have P3 := Lib.hid (Rd.own hown3); clear hown3
  try dsimp only [id]
  go_wp2_with fail
  refine (Unpack_pack _ _ bs _ _ _ HL.out rfl (by omega) (P3.out)).mono ?_
  rintro e w4 ⟨A4, c4, rfl, hc4, hown4, hb4⟩
  have s4 := hb4.size
  have B4 : Below w.heap.size w w4 := B3.trans (hb4.mono (by omega))
  have X4 := Lib.hid ((X3.out.below hb4).mono s4); clear X3
  have Y4 := Lib.hid ((Y3.out.below hb4).mono s4); clear Y3
  have P4 := Lib.hid ((P3.out.below hb4).mono s4); clear P3
  have Z4 := Lib.hid (Rd.own hown4); clear hown4
  try dsimp only [id]
  go_wp2_with fail
  refine (Same_self _ _ _ _ _ _ bs _ (by omega) (by omega) (Y4.out) (X4.out)).mono ?_
  rintro e w5 ⟨rfl, hb5⟩
  have s5 := hb5.size
  have B5 : Below w.heap.size w w5 := B4.trans (hb5.mono (by omega))
  have X5 := Lib.hid ((X4.out.below hb5).mono s5); clear X4
  have Y5 := Lib.hid ((Y4.out.below hb5).mono s5); clear Y4
  have P5 := Lib.hid ((P4.out.below hb5).mono s5); clear P4
  have Z5 := Lib.hid ((Z4.out.below hb5).mono s5); clear Z4
  go_wp2_with fail
  refine (Same_self _ _ _ _ _ _ bs _ (by omega) (by omega) (Z5.out) (X5.out)).mono ?_
  rintro e w6 ⟨rfl, hb6⟩
  have s6 := hb6.size
  have B6 : Below w.heap.size w w6 := B5.trans (hb6.mono (by omega))
  have X6 := Lib.hid ((X5.out.below hb6).mono s6); clear X5
  have Y6 := Lib.hid ((Y5.out.below hb6).mono s6); clear Y5
  have P6 := Lib.hid ((P5.out.below hb6).mono s6); clear P5
  have Z6 := Lib.hid ((Z5.out.below hb6).mono s6); clear Z5
  go_wp2_with fail
  refine (Pack_any _ _ _ bs _ (by omega) (Z6.out)).mono ?_
  rintro e w7 ⟨A7, c7, rfl, hc7, hown7, hb7⟩
  have s7 := hb7.size
  have B7 : Below w.heap.size w w7 := B6.trans (hb7.mono (by omega))
  have X7 := Lib.hid ((X6.out.below hb7).mono s7); clear X6
  have Y7 := Lib.hid ((Y6.out.below hb7).mono s7); clear Y6
  have P7 := Lib.hid ((P6.out.below hb7).mono s7); clear P6
  have Z7 := Lib.hid ((Z6.out.below hb7).mono s7); clear Z6
  have Q7 := Lib.hid (Rd.own hown7); clear hown7
  try dsimp only [id]
  go_wp2_with fail
  refine (same_eq _ _ _ _ _ _ _ _ _ (Q7.out) (P7.out)).mono ?_
  rintro e w' ⟨rfl, rfl⟩
  by_cases h64 : 64 < n
  · have h64' : (64 : Int) < (n : Int) := by omega
    go_wp2_with fail
    refine (Word_long _ _ _ _ h64 (by omega)).mono ?_
    rintro e w' ⟨rfl, rfl⟩
    go_wp2_with fail
    refine (known_any _).mono ?_
    rintro e w8 ⟨rfl, hb8⟩
    have s8 := hb8.size
    have B8 : Below w.heap.size w w8 := B7.trans (hb8.mono (by omega))
    have X8 := Lib.hid ((X7.out.below hb8).mono s8); clear X7
    have Y8 := Lib.hid ((Y7.out.below hb8).mono s8); clear Y7
    have P8 := Lib.hid ((P7.out.below hb8).mono s8); clear P7
    have Z8 := Lib.hid ((Z7.out.below hb8).mono s8); clear Z7
    have Q8 := Lib.hid ((Q7.out.below hb8).mono s8); clear Q7
    go_wp2_with fail; go_ret; exact ⟨rfl, B8⟩
  · have h64' : (n : Int) ≤ 64 := by omega
    go_wp2_with fail
    refine (Word_any _ _ _ bs _ _ (by omega) (X7.out)).mono ?_
    rintro e w' ⟨rfl, rfl⟩
    go_wp2_with fail
    refine (Number_word bs _ _ HL.out (by omega)).mono ?_
    rintro e w8 ⟨A8, c8, rfl, hc8, hown8, hb8⟩
    have s8 := hb8.size
    have B8 : Below w.heap.size w w8 := B7.trans (hb8.mono (by omega))
    have X8 := Lib.hid ((X7.out.below hb8).mono s8); clear X7
    have Y8 := Lib.hid ((Y7.out.below hb8).mono s8); clear Y7
    have P8 := Lib.hid ((P7.out.below hb8).mono s8); clear P7
    have Z8 := Lib.hid ((Z7.out.below hb8).mono s8); clear Z7
    have Q8 := Lib.hid ((Q7.out.below hb8).mono s8); clear Q7
    have V8 := Lib.hid (Rd.own hown8); clear hown8
    try dsimp only [id]
    go_wp2_with fail
    refine (Same_self _ _ _ _ _ _ bs _ (by omega) (by omega) (V8.out) (X8.out)).mono ?_
    rintro e w9 ⟨rfl, hb9⟩
    have s9 := hb9.size
    have B9 : Below w.heap.size w w9 := B8.trans (hb9.mono (by omega))
    have X9 := Lib.hid ((X8.out.below hb9).mono s9); clear X8
    have Y9 := Lib.hid ((Y8.out.below hb9).mono s9); clear Y8
    have P9 := Lib.hid ((P8.out.below hb9).mono s9); clear P8
    have Z9 := Lib.hid ((Z8.out.below hb9).mono s9); clear Z8
    have Q9 := Lib.hid ((Q8.out.below hb9).mono s9); clear Q8
    have V9 := Lib.hid ((V8.out.below hb9).mono s9); clear V8
    go_wp2_with fail
    refine (known_any _).mono ?_
    rintro e w10 ⟨rfl, hb10⟩
    have s10 := hb10.size
    have B10 : Below w.heap.size w w10 := B9.trans (hb10.mono (by omega))
    have X10 := Lib.hid ((X9.out.below hb10).mono s10); clear X9
    have Y10 := Lib.hid ((Y9.out.below hb10).mono s10); clear Y9
    have P10 := Lib.hid ((P9.out.below hb10).mono s10); clear P9
    have Z10 := Lib.hid ((Z9.out.below hb10).mono s10); clear Z9
    have Q10 := Lib.hid ((Q9.out.below hb10).mono s10); clear Q9
    have V10 := Lib.hid ((V9.out.below hb10).mono s10); clear V9
    go_wp2_with fail; go_ret; exact ⟨rfl, B10⟩
set_option maxRecDepth 100000 in
theorem Back_big (A : Option Addr) (n c : Nat) (w : World) (hn : 2000 < n) (hm : n ≤ 9223372036854775807) :
    Calls Try.prog 3 #[.slice A n c] w fun e w' => e = .returned (.bool true) ∧ Below w.heap.size w w' := by
  have g1 : (2000 : Int) < (n : Int) := by omega
  go_enter Try.func3, Try.ntmps3
  go_wp2_with (go_at_call 12; refine (known_any _).mono ?_; rintro e w9 ⟨rfl, hb9⟩)
  go_ret
  exact ⟨rfl, hb9⟩
theorem AlgebraBack_walk (v0 : Value) (i0 : BitsArg) (w : World) (hx0 : IsBits w v0 i0) :
    Calls Try.prog 3 #[v0] w fun e w' => e = .returned (.bool true) ∧ Below w.heap.size w w' := by
  obtain ⟨rfl, a1, a2, a3, a4⟩ := hx0
  by_cases h : 2000 < i0.n
  · exact Back_big _ _ _ w h (by omega)
  · exact Back_try _ _ _ _ w (by omega) a3 a4
end Go.Proofs.Ythmooplhhkafcaa
