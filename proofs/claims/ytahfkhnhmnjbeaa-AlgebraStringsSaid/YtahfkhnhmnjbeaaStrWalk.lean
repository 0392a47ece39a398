/- The walk of AlgebraStrings: it returns true for any bit strings and indexes. -/
import Derived.Test.YtahfkhnhmnjbeaaToepWalk
import Derived.Test.YtahfkhnhmnjbeaaDrop
import Derived.Test.YtahfkhnhmnjbeaaOpenInts
namespace Go.Proofs.Ytahfkhnhmnjbeaa
open Go.RowKit
set_option linter.unusedVariables false
theorem ownsRow_past {w w' : World} {base : Nat} {t : TypeId} {sz n : Nat} {v : Value} {xs : List Value} (h : w.ownsRow base t sz v n xs) (hb : Below w.heap.size w w') : w'.ownsRow base t sz v n xs := by
  refine ⟨h.1, ?_⟩
  rcases h.2 with h1 | ⟨g, cap, cur, hv, hg, hh, rest⟩
  · exact .inl h1
  · refine .inr ⟨g, cap, cur, hv, hg, ?_, rest⟩
    rw [hb.block _ (Array.getElem?_eq_some_iff.1 hh).1]; exact hh
theorem Pick_yes (A A' : Option Addr) (n c m c' : Nat) (bs : List Bool) (l : List Int) (w : World) (hn : n ≤ 1073741824) (hm : m ≤ 1073741824) (ho : outB l n = false)
    (h : Rd w w.heap.size 1 A n (bs.map Value.bool)) (h' : Rd w w.heap.size 1 A' m (l.map (Value.int .i64))) :
    Calls Try.prog 46 #[.slice A n c, .slice A' m c'] w (RetOwn w 4 1 m ((pickL bs l).map Value.bool) (fun v => .tuple #[v, .int .i64 0])) :=
  (Pick_any A A' n c m c' bs l w hn hm h h').mono fun e w' hp => by
    rcases hp with ⟨_, hp⟩ | ⟨h1, _⟩
    · exact hp
    · rw [ho] at h1; cases h1
theorem Pick_no (A A' : Option Addr) (n c m c' : Nat) (bs : List Bool) (l : List Int) (w : World) (hn : n ≤ 1073741824) (hm : m ≤ 1073741824) (ho : outB l n = true)
    (h : Rd w w.heap.size 1 A n (bs.map Value.bool)) (h' : Rd w w.heap.size 1 A' m (l.map (Value.int .i64))) :
    Calls Try.prog 46 #[.slice A n c, .slice A' m c'] w fun e w' => e = .returned (.tuple #[.slice none 0 0, .int .i64 3]) ∧ Below w.heap.size w w' :=
  (Pick_any A A' n c m c' bs l w hn hm h h').mono fun e w' hp => by
    rcases hp with ⟨h1, _⟩ | ⟨_, hp⟩
    · rw [ho] at h1; cases h1
    · exact hp
theorem Drop_yes (A A' : Option Addr) (n c m c' : Nat) (bs : List Bool) (l : List Int) (w : World) (hn : n ≤ 1073741824) (hm : m ≤ 1073741824) (ho : outB l n = false)
    (h : Rd w w.heap.size 1 A n (bs.map Value.bool)) (h' : Rd w w.heap.size 1 A' m (l.map (Value.int .i64))) :
    Calls Try.prog 47 #[.slice A n c, .slice A' m c'] w (RetOwn w 4 1 (dropL bs l n).length ((dropL bs l n).map Value.bool) (fun v => .tuple #[v, .int .i64 0])) :=
  (Drop_any A A' n c m c' bs l w hn hm h h').mono fun e w' hp => by
    rcases hp with ⟨_, hp⟩ | ⟨h1, _⟩
    · exact hp
    · rw [ho] at h1; cases h1
theorem Drop_no (A A' : Option Addr) (n c m c' : Nat) (bs : List Bool) (l : List Int) (w : World) (hn : n ≤ 1073741824) (hm : m ≤ 1073741824) (ho : outB l n = true)
    (h : Rd w w.heap.size 1 A n (bs.map Value.bool)) (h' : Rd w w.heap.size 1 A' m (l.map (Value.int .i64))) :
    Calls Try.prog 47 #[.slice A n c, .slice A' m c'] w fun e w' => e = .returned (.tuple #[.slice none 0 0, .int .i64 3]) ∧ Below w.heap.size w w' :=
  (Drop_any A A' n c m c' bs l w hn hm h h').mono fun e w' hp => by
    rcases hp with ⟨h1, _⟩ | ⟨_, hp⟩
    · rw [ho] at h1; cases h1
    · exact hp
set_option maxRecDepth 100000 in
theorem Strings_big (A A' A'' : Option Addr) (na nb m c c' c'' : Nat) (w : World) (hna : na ≤ 9223372036854775807) (hnb : nb ≤ 9223372036854775807) (hm : m ≤ 9223372036854775807) (hb : 800 < na ∨ 800 < nb ∨ 100 < m) :
    Calls Try.prog 13 #[.slice A na c, .slice A' nb c', .slice A'' m c''] w fun e w' => e = .returned (.bool true) ∧ Below w.heap.size w w' := by
  have h3 : (800 : Int) < (na : Int) ∨ ((na : Int) ≤ 800 ∧ (800 : Int) < (nb : Int)) ∨ ((na : Int) ≤ 800 ∧ (nb : Int) ≤ 800 ∧ (100 : Int) < (m : Int)) := by omega
  clear hb
  rcases h3 with g1 | ⟨g1, g2⟩ | ⟨g1, g2, g3⟩
  all_goals
    go_enter Try.func13, Try.ntmps13
    go_wp2_with (go_at_call 15; refine (known_any _).mono ?_; rintro e w9 ⟨rfl, hb9⟩)
    go_ret
    exact ⟨rfl, hb9⟩
set_option maxRecDepth 100000 in
set_option maxHeartbeats 2000000 in
theorem Strings_eq_in (A A' A'' : Option Addr) (na m c c' c'' : Nat) (a b : List Bool) (l : List Int) (w : World) (hna : na ≤ 800) (hnb : na ≤ 800) (hm : m ≤ 100) (ho : outB l na = false)
    (h : Rd w w.heap.size 1 A na (a.map Value.bool)) (h' : Rd w w.heap.size 1 A' na (b.map Value.bool)) (h'' : Rd w w.heap.size 1 A'' m (l.map (Value.int .i64))) :
    Calls Try.prog 13 #[.slice A na c, .slice A' na c', .slice A'' m c''] w fun e w' => e = .returned (.bool true) ∧ Below w.heap.size w w' := by
  have g1 : (na : Int) ≤ 800 := by omega
  have g2 : (na : Int) ≤ 800 := by omega
  have g3 : (m : Int) ≤ 100 := by omega
  have H := Lib.hid h; have H' := Lib.hid h'; have H'' := Lib.hid h''; have HO := Lib.hid ho
  have la : a.length = na := by have := h.1; simpa using this
  have hdn := dropL_le a l na
  have HDN := Lib.hid hdn
  clear h h' h'' ho hdn
  go_enter Try.func13, Try.ntmps13
  go_wp2_with fail
  refine (kept_any _ _ _ a _ (by omega) H.out).mono ?_
  rintro e w1 ⟨A1, c1, rfl, hc1, hown1, hb1⟩
  have s1 := hb1.size
  have B1 := hb1
  try dsimp only [id]
  have LTX : Hid (∀ k, (Value.slice A1 _ c1).ownBlock = some k → k < w1.heap.size) := Lib.hid (fun k hk => (hown1.lt k hk).2)
  have X1 := Lib.hid hown1; clear hown1
  go_wp2_with fail
  refine (kept_any _ _ _ b _ (by omega) ((H'.out.below B1).mono (by omega))).mono ?_
  rintro e w2 ⟨A2, c2, rfl, hc2, hown2, hb2⟩
  have s2 := hb2.size
  have B2 : Below w.heap.size w w2 := B1.trans (hb2.mono (by omega))
  have C2 : Below w2.heap.size w2 w2 := Below.refl _ _
  have X2 := Lib.hid (ownsRow_past X1.out hb2); clear X1
  try dsimp only [id]
  have LTY : Hid (∀ k, (Value.slice A2 _ c2).ownBlock = some k → k < w2.heap.size) := Lib.hid (fun k hk => (hown2.lt k hk).2)
  have Y2 := Lib.hid hown2; clear hown2
  have RX := Lib.hid (Rd.own X2.out); have RY := Lib.hid (Rd.own Y2.out)
  go_wp2_with fail
  refine (Count_any _ _ _ a _ _ (by omega) (Rd.own X2.out)).mono ?_
  rintro e w' ⟨rfl, rfl⟩
  go_wp2_with fail
  refine (refCount_any _ _ _ a _ _ (by omega) ((H.out.below B2).mono (by omega))).mono ?_
  rintro e w' ⟨rfl, rfl⟩
  go_wp2_with fail
  refine (Parity_any _ _ _ a _ _ (by omega) (Rd.own X2.out)).mono ?_
  rintro e w' ⟨rfl, rfl⟩
  go_wp2_with fail
  refine (refCount_any _ _ _ a _ _ (by omega) ((H.out.below B2).mono (by omega))).mono ?_
  rintro e w' ⟨rfl, rfl⟩
  go_wp2_with fail
  refine (Distance_any _ _ _ _ _ a b _ (by omega) (Rd.own X2.out) (Rd.own Y2.out)).mono ?_
  rintro e w3 ⟨rfl, hb3⟩
  have s3 := hb3.size
  have B3 : Below w.heap.size w w3 := B2.trans (hb3.mono (by omega))
  have C3 : Below w2.heap.size w2 w3 := C2.trans (hb3.mono (by omega))
  have X3 := Lib.hid (ownsRow_past X2.out hb3); clear X2
  have Y3 := Lib.hid (ownsRow_past Y2.out hb3); clear Y2
  try dsimp only [id]
  go_wp2_with fail
  refine (Xor_any _ _ _ _ _ a b _ (by omega) (Rd.own X3.out) (Rd.own Y3.out)).mono ?_
  rintro e w4 ⟨A4, c4, rfl, hc4, hown4, hb4⟩
  have s4 := hb4.size
  have B4 : Below w.heap.size w w4 := B3.trans (hb4.mono (by omega))
  have C4 : Below w2.heap.size w2 w4 := C3.trans (hb4.mono (by omega))
  have X4 := Lib.hid (ownsRow_past X3.out hb4); clear X3
  have Y4 := Lib.hid (ownsRow_past Y3.out hb4); clear Y3
  try dsimp only [id]
  have LTZ : Hid (∀ k, (Value.slice A4 _ c4).ownBlock = some k → k < w4.heap.size) := Lib.hid (fun k hk => (hown4.lt k hk).2)
  have Z4 := Lib.hid hown4; clear hown4
  go_wp2_with fail
  refine (refXor_any _ _ _ _ _ a b _ (by omega) ((H.out.below B4).mono (by omega)) ((H'.out.below B4).mono (by omega))).mono ?_
  rintro e w5 ⟨A5, c5, rfl, hc5, hown5, hb5⟩
  have s5 := hb5.size
  have B5 : Below w.heap.size w w5 := B4.trans (hb5.mono (by omega))
  have C5 : Below w2.heap.size w2 w5 := C4.trans (hb5.mono (by omega))
  have X5 := Lib.hid (ownsRow_past X4.out hb5); clear X4
  have Y5 := Lib.hid (ownsRow_past Y4.out hb5); clear Y4
  have Z5 := Lib.hid (ownsRow_past Z4.out hb5); clear Z4
  try dsimp only [id]
  have LTV : Hid (∀ k, (Value.slice A5 _ c5).ownBlock = some k → k < w5.heap.size) := Lib.hid (fun k hk => (hown5.lt k hk).2)
  have V5 := Lib.hid hown5; clear hown5
  go_wp2_with fail
  refine (refCount_any _ _ _ (xorL a b) _ _ (by omega) (Rd.own V5.out)).mono ?_
  rintro e w' ⟨rfl, rfl⟩
  go_wp2_with fail
  refine (Same_self _ _ _ _ _ _ (xorL a b) _ (by omega) (by omega) (Rd.own Z5.out) (Rd.own V5.out)).mono ?_
  rintro e w6 ⟨rfl, hb6⟩
  have s6 := hb6.size
  have B6 : Below w.heap.size w w6 := B5.trans (hb6.mono (by omega))
  have C6 : Below w2.heap.size w2 w6 := C5.trans (hb6.mono (by omega))
  have X6 := Lib.hid (ownsRow_past X5.out hb6); clear X5
  have Y6 := Lib.hid (ownsRow_past Y5.out hb6); clear Y5
  have Z6 := Lib.hid (ownsRow_past Z5.out hb6); clear Z5
  have V6 := Lib.hid (ownsRow_past V5.out hb6); clear V5
  try dsimp only [id]
  go_wp2_with fail
  refine (Pick_yes _ _ _ _ _ _ a l _ (by omega) (by omega) HO.out (Rd.own X6.out) ((H''.out.below B6).mono (by omega))).mono ?_
  rintro e w7 ⟨A7, c7, rfl, hc7, hown7, hb7⟩
  have s7 := hb7.size
  have B7 : Below w.heap.size w w7 := B6.trans (hb7.mono (by omega))
  have C7 : Below w2.heap.size w2 w7 := C6.trans (hb7.mono (by omega))
  have X7 := Lib.hid (ownsRow_past X6.out hb7); clear X6
  have Y7 := Lib.hid (ownsRow_past Y6.out hb7); clear Y6
  have Z7 := Lib.hid (ownsRow_past Z6.out hb7); clear Z6
  try dsimp only [id]
  have LTP : Hid (∀ k, (Value.slice A7 _ c7).ownBlock = some k → k < w7.heap.size) := Lib.hid (fun k hk => (hown7.lt k hk).2)
  have P7 := Lib.hid hown7; clear hown7
  go_wp2_with fail
  refine (Drop_yes _ _ _ _ _ _ a l _ (by omega) (by omega) HO.out (Rd.own X7.out) ((H''.out.below B7).mono (by omega))).mono ?_
  rintro e w8 ⟨A8, c8, rfl, hc8, hown8, hb8⟩
  have s8 := hb8.size
  have B8 : Below w.heap.size w w8 := B7.trans (hb8.mono (by omega))
  have C8 : Below w2.heap.size w2 w8 := C7.trans (hb8.mono (by omega))
  have X8 := Lib.hid (ownsRow_past X7.out hb8); clear X7
  have Y8 := Lib.hid (ownsRow_past Y7.out hb8); clear Y7
  have Z8 := Lib.hid (ownsRow_past Z7.out hb8); clear Z7
  have P8 := Lib.hid (ownsRow_past P7.out hb8); clear P7
  try dsimp only [id]
  have LTQ : Hid (∀ k, (Value.slice A8 _ c8).ownBlock = some k → k < w8.heap.size) := Lib.hid (fun k hk => (hown8.lt k hk).2)
  have Q8 := Lib.hid hown8; clear hown8
  go_wp2_with fail
  refine (Outside_any _ _ _ _ l _ _ (by omega) (by omega) ((H''.out.below B8).mono (by omega))).mono ?_
  rw [HO.out]
  rintro e w' ⟨rfl, rfl⟩
  go_wp2_with fail
  refine (refPick_any _ _ _ _ _ _ a l _ (by omega) (by omega) HO.out ((H.out.below B8).mono (by omega)) ((H''.out.below B8).mono (by omega))).mono ?_
  rintro e w9 ⟨A9, c9, rfl, hc9, hown9, hb9⟩
  have s9 := hb9.size
  have B9 : Below w.heap.size w w9 := B8.trans (hb9.mono (by omega))
  have C9 : Below w2.heap.size w2 w9 := C8.trans (hb9.mono (by omega))
  have X9 := Lib.hid (ownsRow_past X8.out hb9); clear X8
  have Y9 := Lib.hid (ownsRow_past Y8.out hb9); clear Y8
  have Z9 := Lib.hid (ownsRow_past Z8.out hb9); clear Z8
  have P9 := Lib.hid (ownsRow_past P8.out hb9); clear P8
  have Q9 := Lib.hid (ownsRow_past Q8.out hb9); clear Q8
  try dsimp only [id]
  have LTV : Hid (∀ k, (Value.slice A9 _ c9).ownBlock = some k → k < w9.heap.size) := Lib.hid (fun k hk => (hown9.lt k hk).2)
  have V9 := Lib.hid hown9; clear hown9
  go_wp2_with fail
  refine (Same_self _ _ _ _ _ _ (pickL a l) _ (by omega) (by omega) (Rd.own P9.out) (Rd.own V9.out)).mono ?_
  rintro e w10 ⟨rfl, hb10⟩
  have s10 := hb10.size
  have B10 : Below w.heap.size w w10 := B9.trans (hb10.mono (by omega))
  have C10 : Below w2.heap.size w2 w10 := C9.trans (hb10.mono (by omega))
  have X10 := Lib.hid (ownsRow_past X9.out hb10); clear X9
  have Y10 := Lib.hid (ownsRow_past Y9.out hb10); clear Y9
  have Z10 := Lib.hid (ownsRow_past Z9.out hb10); clear Z9
  have P10 := Lib.hid (ownsRow_past P9.out hb10); clear P9
  have Q10 := Lib.hid (ownsRow_past Q9.out hb10); clear Q9
  have V10 := Lib.hid (ownsRow_past V9.out hb10); clear V9
  try dsimp only [id]
  go_wp2_with fail
  refine (refDrop_any _ _ _ _ _ _ a l _ (by omega) (by omega) ((H.out.below B10).mono (by omega)) ((H''.out.below B10).mono (by omega))).mono ?_
  rintro e w11 ⟨A11, c11, rfl, hc11, hown11, hb11⟩
  have s11 := hb11.size
  have B11 : Below w.heap.size w w11 := B10.trans (hb11.mono (by omega))
  have C11 : Below w2.heap.size w2 w11 := C10.trans (hb11.mono (by omega))
  have X11 := Lib.hid (ownsRow_past X10.out hb11); clear X10
  have Y11 := Lib.hid (ownsRow_past Y10.out hb11); clear Y10
  have Z11 := Lib.hid (ownsRow_past Z10.out hb11); clear Z10
  have P11 := Lib.hid (ownsRow_past P10.out hb11); clear P10
  have Q11 := Lib.hid (ownsRow_past Q10.out hb11); clear Q10
  try dsimp only [id]
  have LTV : Hid (∀ k, (Value.slice A11 _ c11).ownBlock = some k → k < w11.heap.size) := Lib.hid (fun k hk => (hown11.lt k hk).2)
  have V11 := Lib.hid hown11; clear hown11
  go_wp2_with fail
  refine (Same_self _ _ _ _ _ _ (dropL a l na) _ (by have := HDN.out; omega) (by have := HDN.out; omega) (Rd.own Q11.out) (Rd.own V11.out)).mono ?_
  rintro e w12 ⟨rfl, hb12⟩
  have s12 := hb12.size
  have B12 : Below w.heap.size w w12 := B11.trans (hb12.mono (by omega))
  have C12 : Below w2.heap.size w2 w12 := C11.trans (hb12.mono (by omega))
  have X12 := Lib.hid (ownsRow_past X11.out hb12); clear X11
  have Y12 := Lib.hid (ownsRow_past Y11.out hb12); clear Y11
  have Z12 := Lib.hid (ownsRow_past Z11.out hb12); clear Z11
  have P12 := Lib.hid (ownsRow_past P11.out hb12); clear P11
  have Q12 := Lib.hid (ownsRow_past Q11.out hb12); clear Q11
  have V12 := Lib.hid (ownsRow_past V11.out hb12); clear V11
  try dsimp only [id]
  go_wp2_with fail
  refine (flip_any _ _ _ _ _ (by omega) Z12.out).mono ?_
  rintro e w13 ⟨⟨u13, rfl⟩, hg13⟩
  have s13 := hg13.size
  have hb13 : Below w2.heap.size w12 w13 := (Below.refl _ _).grown hg13 (by omega) (fun k hk => by have := (Z12.out.lt k hk).1; omega)
  have B13 : Below w.heap.size w w13 := B12.trans (hb13.mono (by omega))
  have C13 : Below w2.heap.size w2 w13 := C12.trans hb13
  have P13 := Lib.hid (P12.out.kept hg13 (own_apart LTZ.out P12.out (by omega))); clear P12
  have Q13 := Lib.hid (Q12.out.kept hg13 (own_apart LTZ.out Q12.out (by omega))); clear Q12
  go_wp2_with fail
  refine (flip_any _ _ _ _ _ (by omega) P13.out).mono ?_
  rintro e w14 ⟨⟨u14, rfl⟩, hg14⟩
  have s14 := hg14.size
  have hb14 : Below w2.heap.size w13 w14 := (Below.refl _ _).grown hg14 (by omega) (fun k hk => by have := (P13.out.lt k hk).1; omega)
  have B14 : Below w.heap.size w w14 := B13.trans (hb14.mono (by omega))
  have C14 : Below w2.heap.size w2 w14 := C13.trans hb14
  have Q14 := Lib.hid (Q13.out.kept hg14 (own_apart LTP.out Q13.out (by omega))); clear Q13
  go_wp2_with fail
  refine (flip_any _ _ _ _ _ (by have := HDN.out; omega) Q14.out).mono ?_
  rintro e w15 ⟨⟨u15, rfl⟩, hg15⟩
  have s15 := hg15.size
  have hb15 : Below w2.heap.size w14 w15 := (Below.refl _ _).grown hg15 (by omega) (fun k hk => by have := (Q14.out.lt k hk).1; omega)
  have B15 : Below w.heap.size w w15 := B14.trans (hb15.mono (by omega))
  have C15 : Below w2.heap.size w2 w15 := C14.trans hb15
  go_wp2_with fail
  refine (Same_self _ _ _ _ _ _ a _ (by omega) (by omega) ((RX.out.below C15).mono (by omega)) ((H.out.below B15).mono (by omega))).mono ?_
  rintro e w16 ⟨rfl, hb16⟩
  have s16 := hb16.size
  have B16 : Below w.heap.size w w16 := B15.trans (hb16.mono (by omega))
  have C16 : Below w2.heap.size w2 w16 := C15.trans (hb16.mono (by omega))
  go_wp2_with fail
  refine (Same_self _ _ _ _ _ _ b _ (by omega) (by omega) ((RY.out.below C16).mono (by omega)) ((H'.out.below B16).mono (by omega))).mono ?_
  rintro e w17 ⟨rfl, hb17⟩
  have s17 := hb17.size
  have B17 : Below w.heap.size w w17 := B16.trans (hb17.mono (by omega))
  go_wp2_with fail
  refine (known_any _).mono ?_
  rintro e w18 ⟨rfl, hb18⟩
  go_wp2_with fail
  go_ret
  exact ⟨rfl, B17.trans (hb18.mono (by omega))⟩
set_option maxRecDepth 100000 in
set_option maxHeartbeats 2000000 in
theorem Strings_eq_out (A A' A'' : Option Addr) (na m c c' c'' : Nat) (a b : List Bool) (l : List Int) (w : World) (hna : na ≤ 800) (hnb : na ≤ 800) (hm : m ≤ 100) (ho : outB l na = true)
    (h : Rd w w.heap.size 1 A na (a.map Value.bool)) (h' : Rd w w.heap.size 1 A' na (b.map Value.bool)) (h'' : Rd w w.heap.size 1 A'' m (l.map (Value.int .i64))) :
    Calls Try.prog 13 #[.slice A na c, .slice A' na c', .slice A'' m c''] w fun e w' => e = .returned (.bool true) ∧ Below w.heap.size w w' := by
  have g1 : (na : Int) ≤ 800 := by omega
  have g2 : (na : Int) ≤ 800 := by omega
  have g3 : (m : Int) ≤ 100 := by omega
  have H := Lib.hid h; have H' := Lib.hid h'; have H'' := Lib.hid h''; have HO := Lib.hid ho
  have la : a.length = na := by have := h.1; simpa using this
  have hdn := dropL_le a l na
  have HDN := Lib.hid hdn
  clear h h' h'' ho hdn
  go_enter Try.func13, Try.ntmps13
  go_wp2_with fail
  refine (kept_any _ _ _ a _ (by omega) H.out).mono ?_
  rintro e w1 ⟨A1, c1, rfl, hc1, hown1, hb1⟩
  have s1 := hb1.size
  have B1 := hb1
  try dsimp only [id]
  have LTX : Hid (∀ k, (Value.slice A1 _ c1).ownBlock = some k → k < w1.heap.size) := Lib.hid (fun k hk => (hown1.lt k hk).2)
  have X1 := Lib.hid hown1; clear hown1
  go_wp2_with fail
  refine (kept_any _ _ _ b _ (by omega) ((H'.out.below B1).mono (by omega))).mono ?_
  rintro e w2 ⟨A2, c2, rfl, hc2, hown2, hb2⟩
  have s2 := hb2.size
  have B2 : Below w.heap.size w w2 := B1.trans (hb2.mono (by omega))
  have C2 : Below w2.heap.size w2 w2 := Below.refl _ _
  have X2 := Lib.hid (ownsRow_past X1.out hb2); clear X1
  try dsimp only [id]
  have LTY : Hid (∀ k, (Value.slice A2 _ c2).ownBlock = some k → k < w2.heap.size) := Lib.hid (fun k hk => (hown2.lt k hk).2)
  have Y2 := Lib.hid hown2; clear hown2
  have RX := Lib.hid (Rd.own X2.out); have RY := Lib.hid (Rd.own Y2.out)
  go_wp2_with fail
  refine (Count_any _ _ _ a _ _ (by omega) (Rd.own X2.out)).mono ?_
  rintro e w' ⟨rfl, rfl⟩
  go_wp2_with fail
  refine (refCount_any _ _ _ a _ _ (by omega) ((H.out.below B2).mono (by omega))).mono ?_
  rintro e w' ⟨rfl, rfl⟩
  go_wp2_with fail
  refine (Parity_any _ _ _ a _ _ (by omega) (Rd.own X2.out)).mono ?_
  rintro e w' ⟨rfl, rfl⟩
  go_wp2_with fail
  refine (refCount_any _ _ _ a _ _ (by omega) ((H.out.below B2).mono (by omega))).mono ?_
  rintro e w' ⟨rfl, rfl⟩
  go_wp2_with fail
  refine (Distance_any _ _ _ _ _ a b _ (by omega) (Rd.own X2.out) (Rd.own Y2.out)).mono ?_
  rintro e w3 ⟨rfl, hb3⟩
  have s3 := hb3.size
  have B3 : Below w.heap.size w w3 := B2.trans (hb3.mono (by omega))
  have C3 : Below w2.heap.size w2 w3 := C2.trans (hb3.mono (by omega))
  have X3 := Lib.hid (ownsRow_past X2.out hb3); clear X2
  have Y3 := Lib.hid (ownsRow_past Y2.out hb3); clear Y2
  try dsimp only [id]
  go_wp2_with fail
  refine (Xor_any _ _ _ _ _ a b _ (by omega) (Rd.own X3.out) (Rd.own Y3.out)).mono ?_
  rintro e w4 ⟨A4, c4, rfl, hc4, hown4, hb4⟩
  have s4 := hb4.size
  have B4 : Below w.heap.size w w4 := B3.trans (hb4.mono (by omega))
  have C4 : Below w2.heap.size w2 w4 := C3.trans (hb4.mono (by omega))
  have X4 := Lib.hid (ownsRow_past X3.out hb4); clear X3
  have Y4 := Lib.hid (ownsRow_past Y3.out hb4); clear Y3
  try dsimp only [id]
  have LTZ : Hid (∀ k, (Value.slice A4 _ c4).ownBlock = some k → k < w4.heap.size) := Lib.hid (fun k hk => (hown4.lt k hk).2)
  have Z4 := Lib.hid hown4; clear hown4
  go_wp2_with fail
  refine (refXor_any _ _ _ _ _ a b _ (by omega) ((H.out.below B4).mono (by omega)) ((H'.out.below B4).mono (by omega))).mono ?_
  rintro e w5 ⟨A5, c5, rfl, hc5, hown5, hb5⟩
  have s5 := hb5.size
  have B5 : Below w.heap.size w w5 := B4.trans (hb5.mono (by omega))
  have C5 : Below w2.heap.size w2 w5 := C4.trans (hb5.mono (by omega))
  have X5 := Lib.hid (ownsRow_past X4.out hb5); clear X4
  have Y5 := Lib.hid (ownsRow_past Y4.out hb5); clear Y4
  have Z5 := Lib.hid (ownsRow_past Z4.out hb5); clear Z4
  try dsimp only [id]
  have LTV : Hid (∀ k, (Value.slice A5 _ c5).ownBlock = some k → k < w5.heap.size) := Lib.hid (fun k hk => (hown5.lt k hk).2)
  have V5 := Lib.hid hown5; clear hown5
  go_wp2_with fail
  refine (refCount_any _ _ _ (xorL a b) _ _ (by omega) (Rd.own V5.out)).mono ?_
  rintro e w' ⟨rfl, rfl⟩
  go_wp2_with fail
  refine (Same_self _ _ _ _ _ _ (xorL a b) _ (by omega) (by omega) (Rd.own Z5.out) (Rd.own V5.out)).mono ?_
  rintro e w6 ⟨rfl, hb6⟩
  have s6 := hb6.size
  have B6 : Below w.heap.size w w6 := B5.trans (hb6.mono (by omega))
  have C6 : Below w2.heap.size w2 w6 := C5.trans (hb6.mono (by omega))
  have X6 := Lib.hid (ownsRow_past X5.out hb6); clear X5
  have Y6 := Lib.hid (ownsRow_past Y5.out hb6); clear Y5
  have Z6 := Lib.hid (ownsRow_past Z5.out hb6); clear Z5
  have V6 := Lib.hid (ownsRow_past V5.out hb6); clear V5
  try dsimp only [id]
  go_wp2_with fail
  refine (Pick_no _ _ _ _ _ _ a l _ (by omega) (by omega) HO.out (Rd.own X6.out) ((H''.out.below B6).mono (by omega))).mono ?_
  rintro e w7 ⟨rfl, hb7⟩
  have s7 := hb7.size
  have B7 : Below w.heap.size w w7 := B6.trans (hb7.mono (by omega))
  have C7 : Below w2.heap.size w2 w7 := C6.trans (hb7.mono (by omega))
  have X7 := Lib.hid (ownsRow_past X6.out hb7); clear X6
  have Y7 := Lib.hid (ownsRow_past Y6.out hb7); clear Y6
  have Z7 := Lib.hid (ownsRow_past Z6.out hb7); clear Z6
  try dsimp only [id]
  go_wp2_with fail
  refine (Drop_no _ _ _ _ _ _ a l _ (by omega) (by omega) HO.out (Rd.own X7.out) ((H''.out.below B7).mono (by omega))).mono ?_
  rintro e w8 ⟨rfl, hb8⟩
  have s8 := hb8.size
  have B8 : Below w.heap.size w w8 := B7.trans (hb8.mono (by omega))
  have C8 : Below w2.heap.size w2 w8 := C7.trans (hb8.mono (by omega))
  have X8 := Lib.hid (ownsRow_past X7.out hb8); clear X7
  have Y8 := Lib.hid (ownsRow_past Y7.out hb8); clear Y7
  have Z8 := Lib.hid (ownsRow_past Z7.out hb8); clear Z7
  try dsimp only [id]
  go_wp2_with fail
  refine (Outside_any _ _ _ _ l _ _ (by omega) (by omega) ((H''.out.below B8).mono (by omega))).mono ?_
  rw [HO.out]
  rintro e w' ⟨rfl, rfl⟩
  go_wp2_with fail
  refine (flip_any _ _ _ _ _ (by omega) Z8.out).mono ?_
  rintro e w9 ⟨⟨u9, rfl⟩, hg9⟩
  have s9 := hg9.size
  have hb9 : Below w2.heap.size w8 w9 := (Below.refl _ _).grown hg9 (by omega) (fun k hk => by have := (Z8.out.lt k hk).1; omega)
  have B9 : Below w.heap.size w w9 := B8.trans (hb9.mono (by omega))
  have C9 : Below w2.heap.size w2 w9 := C8.trans hb9
  go_wp2_with fail
  refine (flip_any _ 0 [] _ w2.heap.size (by omega) (World.ownsRow_nil _ _ _ _)).mono ?_
  rintro e w10 ⟨⟨u10, rfl⟩, hg10⟩
  have s10 := hg10.size
  have hb10 : Below w2.heap.size w9 w10 := (Below.refl _ _).grown hg10 (by omega) (fun k hk => by cases hk)
  have B10 : Below w.heap.size w w10 := B9.trans (hb10.mono (by omega))
  have C10 : Below w2.heap.size w2 w10 := C9.trans hb10
  go_wp2_with fail
  refine (flip_any _ 0 [] _ w2.heap.size (by omega) (World.ownsRow_nil _ _ _ _)).mono ?_
  rintro e w11 ⟨⟨u11, rfl⟩, hg11⟩
  have s11 := hg11.size
  have hb11 : Below w2.heap.size w10 w11 := (Below.refl _ _).grown hg11 (by omega) (fun k hk => by cases hk)
  have B11 : Below w.heap.size w w11 := B10.trans (hb11.mono (by omega))
  have C11 : Below w2.heap.size w2 w11 := C10.trans hb11
  go_wp2_with fail
  refine (Same_self _ _ _ _ _ _ a _ (by omega) (by omega) ((RX.out.below C11).mono (by omega)) ((H.out.below B11).mono (by omega))).mono ?_
  rintro e w12 ⟨rfl, hb12⟩
  have s12 := hb12.size
  have B12 : Below w.heap.size w w12 := B11.trans (hb12.mono (by omega))
  have C12 : Below w2.heap.size w2 w12 := C11.trans (hb12.mono (by omega))
  go_wp2_with fail
  refine (Same_self _ _ _ _ _ _ b _ (by omega) (by omega) ((RY.out.below C12).mono (by omega)) ((H'.out.below B12).mono (by omega))).mono ?_
  rintro e w13 ⟨rfl, hb13⟩
  have s13 := hb13.size
  have B13 : Below w.heap.size w w13 := B12.trans (hb13.mono (by omega))
  go_wp2_with fail
  refine (known_any _).mono ?_
  rintro e w14 ⟨rfl, hb14⟩
  go_wp2_with fail
  go_ret
  exact ⟨rfl, B13.trans (hb14.mono (by omega))⟩
set_option maxRecDepth 100000 in
set_option maxHeartbeats 2000000 in
theorem Strings_ne_in (A A' A'' : Option Addr) (na nb m c c' c'' : Nat) (a b : List Bool) (l : List Int) (w : World) (hne : na ≠ nb) (hna : na ≤ 800) (hnb : nb ≤ 800) (hm : m ≤ 100) (ho : outB l na = false)
    (h : Rd w w.heap.size 1 A na (a.map Value.bool)) (h' : Rd w w.heap.size 1 A' nb (b.map Value.bool)) (h'' : Rd w w.heap.size 1 A'' m (l.map (Value.int .i64))) :
    Calls Try.prog 13 #[.slice A na c, .slice A' nb c', .slice A'' m c''] w fun e w' => e = .returned (.bool true) ∧ Below w.heap.size w w' := by
  have g1 : (na : Int) ≤ 800 := by omega
  have g2 : (nb : Int) ≤ 800 := by omega
  have g3 : (m : Int) ≤ 100 := by omega
  have H := Lib.hid h; have H' := Lib.hid h'; have H'' := Lib.hid h''; have HO := Lib.hid ho
  have la : a.length = na := by have := h.1; simpa using this
  have hdn := dropL_le a l na
  have HDN := Lib.hid hdn
  clear h h' h'' ho hdn
  have HNE := Lib.hid hne
  have gne : ((na : Int) != (nb : Int)) = true := by rw [bne_iff_ne]; omega
  clear hne
  go_enter Try.func13, Try.ntmps13
  go_wp2_with fail
  refine (kept_any _ _ _ a _ (by omega) H.out).mono ?_
  rintro e w1 ⟨A1, c1, rfl, hc1, hown1, hb1⟩
  have s1 := hb1.size
  have B1 := hb1
  try dsimp only [id]
  have LTX : Hid (∀ k, (Value.slice A1 _ c1).ownBlock = some k → k < w1.heap.size) := Lib.hid (fun k hk => (hown1.lt k hk).2)
  have X1 := Lib.hid hown1; clear hown1
  go_wp2_with fail
  refine (kept_any _ _ _ b _ (by omega) ((H'.out.below B1).mono (by omega))).mono ?_
  rintro e w2 ⟨A2, c2, rfl, hc2, hown2, hb2⟩
  have s2 := hb2.size
  have B2 : Below w.heap.size w w2 := B1.trans (hb2.mono (by omega))
  have C2 : Below w2.heap.size w2 w2 := Below.refl _ _
  have X2 := Lib.hid (ownsRow_past X1.out hb2); clear X1
  try dsimp only [id]
  have LTY : Hid (∀ k, (Value.slice A2 _ c2).ownBlock = some k → k < w2.heap.size) := Lib.hid (fun k hk => (hown2.lt k hk).2)
  have Y2 := Lib.hid hown2; clear hown2
  have RX := Lib.hid (Rd.own X2.out); have RY := Lib.hid (Rd.own Y2.out)
  go_wp2_with fail
  refine (Count_any _ _ _ a _ _ (by omega) (Rd.own X2.out)).mono ?_
  rintro e w' ⟨rfl, rfl⟩
  go_wp2_with fail
  refine (refCount_any _ _ _ a _ _ (by omega) ((H.out.below B2).mono (by omega))).mono ?_
  rintro e w' ⟨rfl, rfl⟩
  go_wp2_with fail
  refine (Parity_any _ _ _ a _ _ (by omega) (Rd.own X2.out)).mono ?_
  rintro e w' ⟨rfl, rfl⟩
  go_wp2_with fail
  refine (refCount_any _ _ _ a _ _ (by omega) ((H.out.below B2).mono (by omega))).mono ?_
  rintro e w' ⟨rfl, rfl⟩
  go_wp2_with fail
  refine (Distance_bad _ _ _ _ _ _ HNE.out _).mono ?_
  rintro e w' ⟨rfl, rfl⟩
  go_wp2_with fail
  refine (Xor_bad _ _ _ _ _ _ HNE.out _).mono ?_
  rintro e w' ⟨rfl, rfl⟩
  go_wp2_with fail
  refine (Pick_yes _ _ _ _ _ _ a l _ (by omega) (by omega) HO.out (Rd.own X2.out) ((H''.out.below B2).mono (by omega))).mono ?_
  rintro e w3 ⟨A3, c3, rfl, hc3, hown3, hb3⟩
  have s3 := hb3.size
  have B3 : Below w.heap.size w w3 := B2.trans (hb3.mono (by omega))
  have C3 : Below w2.heap.size w2 w3 := C2.trans (hb3.mono (by omega))
  have X3 := Lib.hid (ownsRow_past X2.out hb3); clear X2
  have Y3 := Lib.hid (ownsRow_past Y2.out hb3); clear Y2
  try dsimp only [id]
  have LTP : Hid (∀ k, (Value.slice A3 _ c3).ownBlock = some k → k < w3.heap.size) := Lib.hid (fun k hk => (hown3.lt k hk).2)
  have P3 := Lib.hid hown3; clear hown3
  go_wp2_with fail
  refine (Drop_yes _ _ _ _ _ _ a l _ (by omega) (by omega) HO.out (Rd.own X3.out) ((H''.out.below B3).mono (by omega))).mono ?_
  rintro e w4 ⟨A4, c4, rfl, hc4, hown4, hb4⟩
  have s4 := hb4.size
  have B4 : Below w.heap.size w w4 := B3.trans (hb4.mono (by omega))
  have C4 : Below w2.heap.size w2 w4 := C3.trans (hb4.mono (by omega))
  have X4 := Lib.hid (ownsRow_past X3.out hb4); clear X3
  have Y4 := Lib.hid (ownsRow_past Y3.out hb4); clear Y3
  have P4 := Lib.hid (ownsRow_past P3.out hb4); clear P3
  try dsimp only [id]
  have LTQ : Hid (∀ k, (Value.slice A4 _ c4).ownBlock = some k → k < w4.heap.size) := Lib.hid (fun k hk => (hown4.lt k hk).2)
  have Q4 := Lib.hid hown4; clear hown4
  go_wp2_with fail
  refine (Outside_any _ _ _ _ l _ _ (by omega) (by omega) ((H''.out.below B4).mono (by omega))).mono ?_
  rw [HO.out]
  rintro e w' ⟨rfl, rfl⟩
  go_wp2_with fail
  refine (refPick_any _ _ _ _ _ _ a l _ (by omega) (by omega) HO.out ((H.out.below B4).mono (by omega)) ((H''.out.below B4).mono (by omega))).mono ?_
  rintro e w5 ⟨A5, c5, rfl, hc5, hown5, hb5⟩
  have s5 := hb5.size
  have B5 : Below w.heap.size w w5 := B4.trans (hb5.mono (by omega))
  have C5 : Below w2.heap.size w2 w5 := C4.trans (hb5.mono (by omega))
  have X5 := Lib.hid (ownsRow_past X4.out hb5); clear X4
  have Y5 := Lib.hid (ownsRow_past Y4.out hb5); clear Y4
  have P5 := Lib.hid (ownsRow_past P4.out hb5); clear P4
  have Q5 := Lib.hid (ownsRow_past Q4.out hb5); clear Q4
  try dsimp only [id]
  have LTV : Hid (∀ k, (Value.slice A5 _ c5).ownBlock = some k → k < w5.heap.size) := Lib.hid (fun k hk => (hown5.lt k hk).2)
  have V5 := Lib.hid hown5; clear hown5
  go_wp2_with fail
  refine (Same_self _ _ _ _ _ _ (pickL a l) _ (by omega) (by omega) (Rd.own P5.out) (Rd.own V5.out)).mono ?_
  rintro e w6 ⟨rfl, hb6⟩
  have s6 := hb6.size
  have B6 : Below w.heap.size w w6 := B5.trans (hb6.mono (by omega))
  have C6 : Below w2.heap.size w2 w6 := C5.trans (hb6.mono (by omega))
  have X6 := Lib.hid (ownsRow_past X5.out hb6); clear X5
  have Y6 := Lib.hid (ownsRow_past Y5.out hb6); clear Y5
  have P6 := Lib.hid (ownsRow_past P5.out hb6); clear P5
  have Q6 := Lib.hid (ownsRow_past Q5.out hb6); clear Q5
  have V6 := Lib.hid (ownsRow_past V5.out hb6); clear V5
  try dsimp only [id]
  go_wp2_with fail
  refine (refDrop_any _ _ _ _ _ _ a l _ (by omega) (by omega) ((H.out.below B6).mono (by omega)) ((H''.out.below B6).mono (by omega))).mono ?_
  rintro e w7 ⟨A7, c7, rfl, hc7, hown7, hb7⟩
  have s7 := hb7.size
  have B7 : Below w.heap.size w w7 := B6.trans (hb7.mono (by omega))
  have C7 : Below w2.heap.size w2 w7 := C6.trans (hb7.mono (by omega))
  have X7 := Lib.hid (ownsRow_past X6.out hb7); clear X6
  have Y7 := Lib.hid (ownsRow_past Y6.out hb7); clear Y6
  have P7 := Lib.hid (ownsRow_past P6.out hb7); clear P6
  have Q7 := Lib.hid (ownsRow_past Q6.out hb7); clear Q6
  try dsimp only [id]
  have LTV : Hid (∀ k, (Value.slice A7 _ c7).ownBlock = some k → k < w7.heap.size) := Lib.hid (fun k hk => (hown7.lt k hk).2)
  have V7 := Lib.hid hown7; clear hown7
  go_wp2_with fail
  refine (Same_self _ _ _ _ _ _ (dropL a l na) _ (by have := HDN.out; omega) (by have := HDN.out; omega) (Rd.own Q7.out) (Rd.own V7.out)).mono ?_
  rintro e w8 ⟨rfl, hb8⟩
  have s8 := hb8.size
  have B8 : Below w.heap.size w w8 := B7.trans (hb8.mono (by omega))
  have C8 : Below w2.heap.size w2 w8 := C7.trans (hb8.mono (by omega))
  have X8 := Lib.hid (ownsRow_past X7.out hb8); clear X7
  have Y8 := Lib.hid (ownsRow_past Y7.out hb8); clear Y7
  have P8 := Lib.hid (ownsRow_past P7.out hb8); clear P7
  have Q8 := Lib.hid (ownsRow_past Q7.out hb8); clear Q7
  have V8 := Lib.hid (ownsRow_past V7.out hb8); clear V7
  try dsimp only [id]
  go_wp2_with fail
  refine (flip_any _ 0 [] _ w2.heap.size (by omega) (World.ownsRow_nil _ _ _ _)).mono ?_
  rintro e w9 ⟨⟨u9, rfl⟩, hg9⟩
  have s9 := hg9.size
  have hb9 : Below w2.heap.size w8 w9 := (Below.refl _ _).grown hg9 (by omega) (fun k hk => by cases hk)
  have B9 : Below w.heap.size w w9 := B8.trans (hb9.mono (by omega))
  have C9 : Below w2.heap.size w2 w9 := C8.trans hb9
  have P9 := Lib.hid (P8.out.kept hg9 (by cases hv : Value.ownBlock _ <;> simp [Value.ownBlock])); clear P8
  have Q9 := Lib.hid (Q8.out.kept hg9 (by cases hv : Value.ownBlock _ <;> simp [Value.ownBlock])); clear Q8
  go_wp2_with fail
  refine (flip_any _ _ _ _ _ (by omega) P9.out).mono ?_
  rintro e w10 ⟨⟨u10, rfl⟩, hg10⟩
  have s10 := hg10.size
  have hb10 : Below w2.heap.size w9 w10 := (Below.refl _ _).grown hg10 (by omega) (fun k hk => by have := (P9.out.lt k hk).1; omega)
  have B10 : Below w.heap.size w w10 := B9.trans (hb10.mono (by omega))
  have C10 : Below w2.heap.size w2 w10 := C9.trans hb10
  have Q10 := Lib.hid (Q9.out.kept hg10 (own_apart LTP.out Q9.out (by omega))); clear Q9
  go_wp2_with fail
  refine (flip_any _ _ _ _ _ (by have := HDN.out; omega) Q10.out).mono ?_
  rintro e w11 ⟨⟨u11, rfl⟩, hg11⟩
  have s11 := hg11.size
  have hb11 : Below w2.heap.size w10 w11 := (Below.refl _ _).grown hg11 (by omega) (fun k hk => by have := (Q10.out.lt k hk).1; omega)
  have B11 : Below w.heap.size w w11 := B10.trans (hb11.mono (by omega))
  have C11 : Below w2.heap.size w2 w11 := C10.trans hb11
  go_wp2_with fail
  refine (Same_self _ _ _ _ _ _ a _ (by omega) (by omega) ((RX.out.below C11).mono (by omega)) ((H.out.below B11).mono (by omega))).mono ?_
  rintro e w12 ⟨rfl, hb12⟩
  have s12 := hb12.size
  have B12 : Below w.heap.size w w12 := B11.trans (hb12.mono (by omega))
  have C12 : Below w2.heap.size w2 w12 := C11.trans (hb12.mono (by omega))
  go_wp2_with fail
  refine (Same_self _ _ _ _ _ _ b _ (by omega) (by omega) ((RY.out.below C12).mono (by omega)) ((H'.out.below B12).mono (by omega))).mono ?_
  rintro e w13 ⟨rfl, hb13⟩
  have s13 := hb13.size
  have B13 : Below w.heap.size w w13 := B12.trans (hb13.mono (by omega))
  go_wp2_with fail
  refine (known_any _).mono ?_
  rintro e w14 ⟨rfl, hb14⟩
  go_wp2_with fail
  go_ret
  exact ⟨rfl, B13.trans (hb14.mono (by omega))⟩
set_option maxRecDepth 100000 in
set_option maxHeartbeats 2000000 in
theorem Strings_ne_out (A A' A'' : Option Addr) (na nb m c c' c'' : Nat) (a b : List Bool) (l : List Int) (w : World) (hne : na ≠ nb) (hna : na ≤ 800) (hnb : nb ≤ 800) (hm : m ≤ 100) (ho : outB l na = true)
    (h : Rd w w.heap.size 1 A na (a.map Value.bool)) (h' : Rd w w.heap.size 1 A' nb (b.map Value.bool)) (h'' : Rd w w.heap.size 1 A'' m (l.map (Value.int .i64))) :
    Calls Try.prog 13 #[.slice A na c, .slice A' nb c', .slice A'' m c''] w fun e w' => e = .returned (.bool true) ∧ Below w.heap.size w w' := by
  have g1 : (na : Int) ≤ 800 := by omega
  have g2 : (nb : Int) ≤ 800 := by omega
  have g3 : (m : Int) ≤ 100 := by omega
  have H := Lib.hid h; have H' := Lib.hid h'; have H'' := Lib.hid h''; have HO := Lib.hid ho
  have la : a.length = na := by have := h.1; simpa using this
  have hdn := dropL_le a l na
  have HDN := Lib.hid hdn
  clear h h' h'' ho hdn
  have HNE := Lib.hid hne
  have gne : ((na : Int) != (nb : Int)) = true := by rw [bne_iff_ne]; omega
  clear hne
  go_enter Try.func13, Try.ntmps13
  go_wp2_with fail
  refine (kept_any _ _ _ a _ (by omega) H.out).mono ?_
  rintro e w1 ⟨A1, c1, rfl, hc1, hown1, hb1⟩
  have s1 := hb1.size
  have B1 := hb1
  try dsimp only [id]
  have LTX : Hid (∀ k, (Value.slice A1 _ c1).ownBlock = some k → k < w1.heap.size) := Lib.hid (fun k hk => (hown1.lt k hk).2)
  have X1 := Lib.hid hown1; clear hown1
  go_wp2_with fail
  refine (kept_any _ _ _ b _ (by omega) ((H'.out.below B1).mono (by omega))).mono ?_
  rintro e w2 ⟨A2, c2, rfl, hc2, hown2, hb2⟩
  have s2 := hb2.size
  have B2 : Below w.heap.size w w2 := B1.trans (hb2.mono (by omega))
  have C2 : Below w2.heap.size w2 w2 := Below.refl _ _
  have X2 := Lib.hid (ownsRow_past X1.out hb2); clear X1
  try dsimp only [id]
  have LTY : Hid (∀ k, (Value.slice A2 _ c2).ownBlock = some k → k < w2.heap.size) := Lib.hid (fun k hk => (hown2.lt k hk).2)
  have Y2 := Lib.hid hown2; clear hown2
  have RX := Lib.hid (Rd.own X2.out); have RY := Lib.hid (Rd.own Y2.out)
  go_wp2_with fail
  refine (Count_any _ _ _ a _ _ (by omega) (Rd.own X2.out)).mono ?_
  rintro e w' ⟨rfl, rfl⟩
  go_wp2_with fail
  refine (refCount_any _ _ _ a _ _ (by omega) ((H.out.below B2).mono (by omega))).mono ?_
  rintro e w' ⟨rfl, rfl⟩
  go_wp2_with fail
  refine (Parity_any _ _ _ a _ _ (by omega) (Rd.own X2.out)).mono ?_
  rintro e w' ⟨rfl, rfl⟩
  go_wp2_with fail
  refine (refCount_any _ _ _ a _ _ (by omega) ((H.out.below B2).mono (by omega))).mono ?_
  rintro e w' ⟨rfl, rfl⟩
  go_wp2_with fail
  refine (Distance_bad _ _ _ _ _ _ HNE.out _).mono ?_
  rintro e w' ⟨rfl, rfl⟩
  go_wp2_with fail
  refine (Xor_bad _ _ _ _ _ _ HNE.out _).mono ?_
  rintro e w' ⟨rfl, rfl⟩
  go_wp2_with fail
  refine (Pick_no _ _ _ _ _ _ a l _ (by omega) (by omega) HO.out (Rd.own X2.out) ((H''.out.below B2).mono (by omega))).mono ?_
  rintro e w3 ⟨rfl, hb3⟩
  have s3 := hb3.size
  have B3 : Below w.heap.size w w3 := B2.trans (hb3.mono (by omega))
  have C3 : Below w2.heap.size w2 w3 := C2.trans (hb3.mono (by omega))
  have X3 := Lib.hid (ownsRow_past X2.out hb3); clear X2
  have Y3 := Lib.hid (ownsRow_past Y2.out hb3); clear Y2
  try dsimp only [id]
  go_wp2_with fail
  refine (Drop_no _ _ _ _ _ _ a l _ (by omega) (by omega) HO.out (Rd.own X3.out) ((H''.out.below B3).mono (by omega))).mono ?_
  rintro e w4 ⟨rfl, hb4⟩
  have s4 := hb4.size
  have B4 : Below w.heap.size w w4 := B3.trans (hb4.mono (by omega))
  have C4 : Below w2.heap.size w2 w4 := C3.trans (hb4.mono (by omega))
  have X4 := Lib.hid (ownsRow_past X3.out hb4); clear X3
  have Y4 := Lib.hid (ownsRow_past Y3.out hb4); clear Y3
  try dsimp only [id]
  go_wp2_with fail
  refine (Outside_any _ _ _ _ l _ _ (by omega) (by omega) ((H''.out.below B4).mono (by omega))).mono ?_
  rw [HO.out]
  rintro e w' ⟨rfl, rfl⟩
  go_wp2_with fail
  refine (flip_any _ 0 [] _ w2.heap.size (by omega) (World.ownsRow_nil _ _ _ _)).mono ?_
  rintro e w5 ⟨⟨u5, rfl⟩, hg5⟩
  have s5 := hg5.size
  have hb5 : Below w2.heap.size w4 w5 := (Below.refl _ _).grown hg5 (by omega) (fun k hk => by cases hk)
  have B5 : Below w.heap.size w w5 := B4.trans (hb5.mono (by omega))
  have C5 : Below w2.heap.size w2 w5 := C4.trans hb5
  go_wp2_with fail
  refine (flip_any _ 0 [] _ w2.heap.size (by omega) (World.ownsRow_nil _ _ _ _)).mono ?_
  rintro e w6 ⟨⟨u6, rfl⟩, hg6⟩
  have s6 := hg6.size
  have hb6 : Below w2.heap.size w5 w6 := (Below.refl _ _).grown hg6 (by omega) (fun k hk => by cases hk)
  have B6 : Below w.heap.size w w6 := B5.trans (hb6.mono (by omega))
  have C6 : Below w2.heap.size w2 w6 := C5.trans hb6
  go_wp2_with fail
  refine (flip_any _ 0 [] _ w2.heap.size (by omega) (World.ownsRow_nil _ _ _ _)).mono ?_
  rintro e w7 ⟨⟨u7, rfl⟩, hg7⟩
  have s7 := hg7.size
  have hb7 : Below w2.heap.size w6 w7 := (Below.refl _ _).grown hg7 (by omega) (fun k hk => by cases hk)
  have B7 : Below w.heap.size w w7 := B6.trans (hb7.mono (by omega))
  have C7 : Below w2.heap.size w2 w7 := C6.trans hb7
  go_wp2_with fail
  refine (Same_self _ _ _ _ _ _ a _ (by omega) (by omega) ((RX.out.below C7).mono (by omega)) ((H.out.below B7).mono (by omega))).mono ?_
  rintro e w8 ⟨rfl, hb8⟩
  have s8 := hb8.size
  have B8 : Below w.heap.size w w8 := B7.trans (hb8.mono (by omega))
  have C8 : Below w2.heap.size w2 w8 := C7.trans (hb8.mono (by omega))
  go_wp2_with fail
  refine (Same_self _ _ _ _ _ _ b _ (by omega) (by omega) ((RY.out.below C8).mono (by omega)) ((H'.out.below B8).mono (by omega))).mono ?_
  rintro e w9 ⟨rfl, hb9⟩
  have s9 := hb9.size
  have B9 : Below w.heap.size w w9 := B8.trans (hb9.mono (by omega))
  go_wp2_with fail
  refine (known_any _).mono ?_
  rintro e w10 ⟨rfl, hb10⟩
  go_wp2_with fail
  go_ret
  exact ⟨rfl, B9.trans (hb10.mono (by omega))⟩
theorem AlgebraStrings_walk (v0 : Value) (i0 : BitsArg) (v1 : Value) (i1 : BitsArg) (v2 : Value) (i2 : IntsArg) (w : World) (hx0 : IsBits w v0 i0) (hx1 : IsBits w v1 i1) (hx2 : IsInts w v2 i2) :
    Calls Try.prog 13 #[v0, v1, v2] w fun e w' => e = .returned (.bool true) ∧ Below w.heap.size w w' := by
  obtain ⟨rfl, a1, a2, a3, a4⟩ := hx0
  obtain ⟨rfl, b1, b2, b3, b4⟩ := hx1
  obtain ⟨rfl, c1, c2, c3, _, c4⟩ := hx2
  by_cases hb : 800 < i0.n ∨ 800 < i1.n ∨ 100 < i2.n
  · exact Strings_big _ _ _ _ _ _ _ _ _ w (by omega) (by omega) (by omega) hb
  · cases ho : outB i2.l i0.n with
    | false =>
      by_cases he : i0.n = i1.n
      · obtain ⟨A1, n1, c1', l1⟩ := i1
        simp only at he
        subst he
        exact Strings_eq_in _ _ _ _ _ _ _ _ i0.bs l1 i2.l w (by omega) (by omega) (by omega) ho a4 b4 c4
      · exact Strings_ne_in _ _ _ _ _ _ _ _ _ i0.bs i1.bs i2.l w he (by omega) (by omega) (by omega) ho a4 b4 c4
    | true =>
      by_cases he : i0.n = i1.n
      · obtain ⟨A1, n1, c1', l1⟩ := i1
        simp only at he
        subst he
        exact Strings_eq_out _ _ _ _ _ _ _ _ i0.bs l1 i2.l w (by omega) (by omega) (by omega) ho a4 b4 c4
      · exact Strings_ne_out _ _ _ _ _ _ _ _ _ i0.bs i1.bs i2.l w he (by omega) (by omega) (by omega) ho a4 b4 c4
end Go.Proofs.Ytahfkhnhmnjbeaa
