/- The calls of the chapter's examples, each with its result. Conditions: as each statement says. -/
import Derived.Test.YthmooplhhkafcaaSorted
import Derived.Test.YthmooplhhkafcaaStr
import Derived.Test.YthmooplhhkafcaaUnpack4
import Derived.Test.YthmooplhhkafcaaFieldWalk
import Derived.Test.YthmooplhhkafcaaHashW
import Derived.Test.YthmooplhhkafcaaZip
import Derived.Test.YthmooplhhkafcaaExplRef
import Derived.Test.YthmooplhhkafcaaKnown
namespace Go.Proofs.Ythmooplhhkafcaa
open Go.RowKit
set_option linter.unusedVariables false
/-- A row that lies behind the draws' block. -/
def RowAt (w : World) (b : Nat) (A : Option Addr) (n : Nat) (xs : List Value) : Prop :=
  xs.length = n * 1 ∧ (0 < n → ∃ g off, A = some ⟨g, off, none⟩ ∧ b < g ∧ g < w.heap.size ∧ ∀ j u, xs[j]? = some u → w.cell? ⟨g, off + j, none⟩ = some u)
theorem RowAt.own {w : World} {b base n c : Nat} {t : TypeId} {A : Option Addr} {xs : List Value} (h : w.ownsRow base t 1 (.slice A n c) n xs) (hb : b < base) : RowAt w b A n xs := by
  have h2 := Rd.own h
  refine ⟨h2.1, fun hn => ?_⟩
  obtain ⟨g, off, rfl, hg, hc⟩ := h2.2 hn
  rcases h.2 with ⟨h1, _⟩ | ⟨g', _, _, h1, hb', _⟩
  · injection h1 with h1 _ _; cases h1
  · injection h1 with h1 _ _
    injection h1 with h1
    injection h1 with e1 e2 _
    subst e1 e2
    exact ⟨_, _, rfl, by omega, hg, hc⟩
theorem RowAt.upd {w w' : World} {b n s : Nat} {A : Option Addr} {xs : List Value} (h : RowAt w b A n xs) (hu : Upd w.heap.size b s w w') : RowAt w' b A n xs :=
  ⟨h.1, fun hn => by
    obtain ⟨g, off, rfl, hb, hg, hc⟩ := h.2 hn
    exact ⟨g, off, rfl, hb, Nat.lt_of_lt_of_le hg hu.size, fun j u hj => (hu.cell (p := ⟨g, off + j, none⟩) hg (by simp only; omega)).trans (hc j u hj)⟩⟩
theorem RowAt.rd {w : World} {b n : Nat} {A : Option Addr} {xs : List Value} (h : RowAt w b A n xs) : Rd w w.heap.size 1 A n xs :=
  ⟨h.1, fun hn => by
    obtain ⟨g, off, rfl, hb, hg, hc⟩ := h.2 hn
    exact ⟨g, off, rfl, hg, hc⟩⟩
/-- The draws at b have gone on. -/
def Drew (b : Nat) (w w' : World) : Prop := ∃ s', DrawAt w' b s' ∧ Upd w.heap.size b s' w w'
theorem Drew.row {w w' : World} {b n : Nat} {A : Option Addr} {xs : List Value} (h : Drew b w w') (hr : RowAt w b A n xs) : RowAt w' b A n xs := by
  obtain ⟨s', _, hu⟩ := h; exact hr.upd hu
theorem Drew.bel {w w' : World} {b B : Nat} (h : Drew b w w') (hB : B ≤ b) (hw : B ≤ w.heap.size) : Below B w w' := by
  obtain ⟨s', _, hu⟩ := h; exact hu.to hB hw
theorem k_New (w : World) : Calls Try.prog 31 #[.int .u64 9] w fun e w' => e = .returned (.pointer (some ⟨w.heap.size, 0, none⟩)) ∧ (∃ s, DrawAt w' w.heap.size s) ∧ Below w.heap.size w w' := by
  refine (New_any 9 w).mono fun e w' ⟨he, hw⟩ => ?_
  subst hw
  exact ⟨he, ⟨9, DrawAt.new w 9⟩, (Below.refl _ _).alloc (Nat.le_refl _) _⟩
theorem k_Below1 (b : Nat) (w : World) (h : ∃ s, DrawAt w b s) :
    Calls Try.prog 37 #[.pointer (some ⟨b, 0, none⟩), .int .i64 1] w fun e w' => e = .returned (.tuple #[.int .i64 0, .int .i64 0]) ∧ Drew b w w' := by
  obtain ⟨s, hd⟩ := h
  refine (Below_ex b s 1 w hd (by decide) (by decide)).mono fun e w' ⟨j, hj, he, hu⟩ => ?_
  rw [Nat.mod_one] at hj
  subst hj
  exact ⟨he, _, hu.at hd hd.lt, hu⟩
theorem k_Below0 (b : Nat) (w : World) (h : ∃ s, DrawAt w b s) :
    Calls Try.prog 37 #[.pointer (some ⟨b, 0, none⟩), .int .i64 0] w fun e w' => e = .returned (.tuple #[.int .i64 0, .int .i64 2]) ∧ w = w' := by
  obtain ⟨s, hd⟩ := h
  exact Below_bad b s 0 w hd (by decide)
theorem k_Perm1 (b : Nat) (w : World) (h : ∃ s, DrawAt w b s) :
    Calls Try.prog 33 #[.pointer (some ⟨b, 0, none⟩), .int .i64 1] w fun e w' => e = .returned (.tuple #[.slice (some ⟨w.heap.size, 0, none⟩) 1 1, .int .i64 0]) ∧ RowAt w' b (some ⟨w.heap.size, 0, none⟩) 1 ([0].map (Value.int .i64)) ∧ Drew b w w' := by
  obtain ⟨s, hd⟩ := h
  refine (Perm_any b s 1 w hd (by decide)).mono fun e w' ⟨he, ho, hu⟩ => ?_
  have e1 : permL s 1 = [0] := rfl
  rw [e1] at ho
  exact ⟨he, RowAt.own ho hd.lt, _, hu.at hd hd.lt, hu⟩
theorem k_Perm0 (b : Nat) (w : World) (h : ∃ s, DrawAt w b s) :
    Calls Try.prog 33 #[.pointer (some ⟨b, 0, none⟩), .int .i64 0] w fun e w' => e = .returned (.tuple #[.slice (some ⟨w.heap.size, 0, none⟩) 0 0, .int .i64 0]) ∧ Drew b w w' := by
  obtain ⟨s, hd⟩ := h
  exact (Perm_any b s 0 w hd (by decide)).mono fun e w' ⟨he, ho, hu⟩ => ⟨he, _, hu.at hd hd.lt, hu⟩
theorem samp3 (s : Nat) : sampL s 3 3 = [0, 1, 2] := by
  have hl := sampL_len s 3 3 (by decide)
  have h0 := sampL_lt s 3 3 0 (by decide) (by decide)
  have h1 := sampL_lt s 3 3 1 (by decide) (by decide)
  have g0 := sampL_get (s := s) (n := 3) (k := 3) (i := 0) (by decide) (by decide)
  have g2 := sampL_get (s := s) (n := 3) (k := 3) (i := 2) (by decide) (by decide)
  generalize sampL s 3 3 = l at *
  match l, hl with
  | [x, y, z], _ =>
    simp at h0 h1 g0 g2
    simp; omega
theorem k_Sample33 (b : Nat) (w : World) (h : ∃ s, DrawAt w b s) :
    Calls Try.prog 34 #[.pointer (some ⟨b, 0, none⟩), .int .i64 3, .int .i64 3] w fun e w' => ∃ A c, e = .returned (.tuple #[.slice A 3 c, .int .i64 0]) ∧ RowAt w' b A 3 ([0, 1, 2].map (Value.int .i64)) ∧ Drew b w w' := by
  obtain ⟨s, hd⟩ := h
  refine (Sample_any b s 3 3 w hd (by decide) (by decide)).mono fun e w' ⟨A, c, he, ho, hu⟩ => ?_
  rw [samp3] at ho
  exact ⟨A, c, he, RowAt.own ho hd.lt, _, hu.at hd hd.lt, hu⟩
theorem k_Sample34 (b : Nat) (w : World) (h : ∃ s, DrawAt w b s) :
    Calls Try.prog 34 #[.pointer (some ⟨b, 0, none⟩), .int .i64 3, .int .i64 4] w fun e w' => e = .returned (.tuple #[.slice none 0 0, .int .i64 3]) ∧ w = w' := by
  obtain ⟨s, hd⟩ := h
  exact Sample_bad b s 3 4 w hd (.inr (.inr ⟨by decide, by decide, .inr ⟨by decide, by decide⟩⟩))
set_option maxHeartbeats 400000 in
/-- The bits of a text. -/
theorem word_any (l : List UInt8) (bs : List Bool) (w : World) (hl : l.length ≤ 100) (ha : AllBits l) (hb : bitsOf l = bs) :
    Calls Try.prog 43 #[.string ⟨l.toArray⟩] w (RetOwn w 4 1 l.length (bs.map Value.bool) id) := by
  have hp := refParse_any ⟨l.toArray⟩ w (by simp [ByteArray.size]; omega)
  have HP := Lib.hid hp; clear hp
  go_enter Try.func43, Try.ntmps43
  go_wp2_with fail
  refine HP.out.mono ?_
  rintro e w1 h
  unfold RefParsePost at h
  rw [show (ByteArray.mk l.toArray).size = l.length by simp [ByteArray.size]] at h
  rcases h with ⟨_, A, c, rfl, hc, ho, hb1⟩ | ⟨h, _⟩
  · rw [hb] at ho
    have HO := Lib.hid ho; clear ho
    try dsimp only
    go_wp2_with fail
    go_ret
    exact RetOwn.of (mk := id) HO.out hb1
  · exact absurd ha h
theorem k_word1100 (w : World) : Calls Try.prog 43 #[.string ⟨#[49, 49, 48, 48]⟩] w (RetOwn w 4 1 4 ([true, true, false, false].map Value.bool) id) :=
  word_any [49, 49, 48, 48] [true, true, false, false] w (by decide) (show ∀ c ∈ ([49, 49, 48, 48] : List UInt8), c = 48 ∨ c = 49 by decide) rfl
theorem k_word0110 (w : World) : Calls Try.prog 43 #[.string ⟨#[48, 49, 49, 48]⟩] w (RetOwn w 4 1 4 ([false, true, true, false].map Value.bool) id) :=
  word_any [48, 49, 49, 48] [false, true, true, false] w (by decide) (show ∀ c ∈ ([48, 49, 49, 48] : List UInt8), c = 48 ∨ c = 49 by decide) rfl
theorem k_word0101 (w : World) : Calls Try.prog 43 #[.string ⟨#[48, 49, 48, 49]⟩] w (RetOwn w 4 1 4 ([false, true, false, true].map Value.bool) id) :=
  word_any [48, 49, 48, 49] [false, true, false, true] w (by decide) (show ∀ c ∈ ([48, 49, 48, 49] : List UInt8), c = 48 ∨ c = 49 by decide) rfl
theorem k_word111111111 (w : World) : Calls Try.prog 43 #[.string ⟨#[49, 49, 49, 49, 49, 49, 49, 49, 49]⟩] w (RetOwn w 4 1 9 ([true, true, true, true, true, true, true, true, true].map Value.bool) id) :=
  word_any [49, 49, 49, 49, 49, 49, 49, 49, 49] [true, true, true, true, true, true, true, true, true] w (by decide) (show ∀ c ∈ ([49, 49, 49, 49, 49, 49, 49, 49, 49] : List UInt8), c = 48 ∨ c = 49 by decide) rfl
theorem k_word00000001 (w : World) : Calls Try.prog 43 #[.string ⟨#[48, 48, 48, 48, 48, 48, 48, 49]⟩] w (RetOwn w 4 1 8 ([false, false, false, false, false, false, false, true].map Value.bool) id) :=
  word_any [48, 48, 48, 48, 48, 48, 48, 49] [false, false, false, false, false, false, false, true] w (by decide) (show ∀ c ∈ ([48, 48, 48, 48, 48, 48, 48, 49] : List UInt8), c = 48 ∨ c = 49 by decide) rfl
theorem k_word101 (w : World) : Calls Try.prog 43 #[.string ⟨#[49, 48, 49]⟩] w (RetOwn w 4 1 3 ([true, false, true].map Value.bool) id) :=
  word_any [49, 48, 49] [true, false, true] w (by decide) (show ∀ c ∈ ([49, 48, 49] : List UInt8), c = 48 ∨ c = 49 by decide) rfl
theorem k_dist (A A' : Option Addr) (c c' : Nat) (w : World) (h : Rd w w.heap.size 1 A 4 ([true, true, false, false].map Value.bool)) (h' : Rd w w.heap.size 1 A' 4 ([false, true, true, false].map Value.bool)) :
    Calls Try.prog 42 #[.slice A 4 c, .slice A' 4 c'] w fun e w' => e = .returned (.tuple #[.int .i64 2, .int .i64 0]) ∧ Below w.heap.size w w' := Distance_any A A' 4 c c' _ _ w (by decide) h h'
theorem k_pick (A A' : Option Addr) (c c' : Nat) (w : World) (h : Rd w w.heap.size 1 A 4 ([true, true, false, false].map Value.bool)) (h' : Rd w w.heap.size 1 A' 3 ([3, 0, 0].map (Value.int .i64))) :
    Calls Try.prog 44 #[.slice A 4 c, .slice A' 3 c'] w (RetOwn w 4 1 3 ([false, true, true].map Value.bool) (fun v => .tuple #[v, .int .i64 0])) := by
  refine (Pick_any A A' 4 c 3 c' _ _ w (by decide) (by decide) h h').mono fun e w' hp => ?_
  rcases hp with ⟨_, hp⟩ | ⟨h1, _⟩
  · exact hp
  · exact absurd h1 (by decide)
theorem k_drop (A A' : Option Addr) (c c' : Nat) (w : World) (h : Rd w w.heap.size 1 A 4 ([true, true, false, false].map Value.bool)) (h' : Rd w w.heap.size 1 A' 3 ([3, 0, 0].map (Value.int .i64))) :
    Calls Try.prog 45 #[.slice A 4 c, .slice A' 3 c'] w (RetOwn w 4 1 2 ([true, false].map Value.bool) (fun v => .tuple #[v, .int .i64 0])) := by
  refine (Drop_any A A' 4 c 3 c' _ _ w (by decide) (by decide) h h').mono fun e w' hp => ?_
  rcases hp with ⟨_, hp⟩ | ⟨h1, _⟩
  · exact hp
  · exact absurd h1 (by decide)
theorem k_Word (A : Option Addr) (c : Nat) (w : World) (h : Rd w w.heap.size 1 A 4 ([false, true, false, true].map Value.bool)) :
    Calls Try.prog 19 #[.slice A 4 c] w fun e w' => e = .returned (.tuple #[.int .u64 5, .int .i64 0]) ∧ w = w' := Word_any A 4 c _ w _ (by decide) h
theorem k_Number4 (w : World) : Calls Try.prog 20 #[.int .u64 5, .int .i64 4] w (RetOwn w 4 1 4 ([false, true, false, true].map Value.bool) (fun v => .tuple #[v, .int .i64 0])) := Number_any 5 4 w (by decide) (by decide) (by decide)
theorem k_Number2 (w : World) : Calls Try.prog 20 #[.int .u64 5, .int .i64 2] w fun e w' => e = .returned (.tuple #[.slice none 0 0, .int .i64 8]) ∧ w = w' := Number_over 5 2 w (by decide) (by decide) (by decide)
theorem k_Text (A : Option Addr) (n c : Nat) (bs : List Bool) (s : List UInt8) (w : World) (hn : n ≤ 100) (hs : textOf bs = s) (h : Rd w w.heap.size 1 A n (bs.map Value.bool)) :
    Calls Try.prog 14 #[.slice A n c] w fun e w' => e = .returned (.string ⟨s.toArray⟩) ∧ Below w.heap.size w w' := by
  rw [← hs]; exact Text_any A n c bs w (by omega) h
theorem k_Pack (A : Option Addr) (c : Nat) (w : World) (h : Rd w w.heap.size 1 A 9 ((List.replicate 9 true).map Value.bool)) :
    Calls Try.prog 15 #[.slice A 9 c] w (RetOwn w 5 1 2 (Lib.byteCells [255, 128]) id) := by
  have e : packL (List.replicate 9 true) = [255, 128] := by decide
  have := Pack_any A 9 c _ w (by decide) h
  rwa [e] at this
theorem k_Unpack3 (A : Option Addr) (c : Nat) (w : World) (h : Rd w w.heap.size 1 A 1 [.int .u8 160]) :
    Calls Try.prog 16 #[.slice A 1 c, .int .i64 3] w (RetOwn w 4 1 3 ([true, false, true].map Value.bool) (fun v => .tuple #[v, .int .i64 0])) := by
  refine (Unpack_any A 1 c 3 [160] w (by decide) (by decide) (by decide) (by decide) h).mono fun e w' hp => ?_
  rcases hp with ⟨_, hp⟩ | ⟨h1, _⟩
  · exact hp
  · exact absurd h1 (by decide)
theorem k_Unpack2 (A : Option Addr) (c : Nat) (w : World) (h : Rd w w.heap.size 1 A 1 [.int .u8 160]) :
    Calls Try.prog 16 #[.slice A 1 c, .int .i64 2] w fun e w' => e = .returned (.tuple #[.slice none 0 0, .int .i64 6]) ∧ Below w.heap.size w w' := by
  refine (Unpack_any A 1 c 2 [160] w (by decide) (by decide) (by decide) (by decide) h).mono fun e w' hp => ?_
  rcases hp with ⟨h1, _⟩ | ⟨_, hp⟩
  · exact absurd h1 (by decide)
  · exact hp
theorem k_Unpack9 (A : Option Addr) (c : Nat) (w : World) :
    Calls Try.prog 16 #[.slice A 1 c, .int .i64 9] w fun e w' => e = .returned (.tuple #[.slice none 0 0, .int .i64 3]) ∧ w = w' := Unpack_range A 1 c 9 w (by decide) (by decide) (.inr (.inl (by decide)))
theorem k_inv : invR 8 83 = (202, 0) := by
  have h : (202 : Nat) = inv 8 83 := inv_unique (.inl rfl) (by decide) (by decide) (by decide)
  unfold invR
  rw [if_neg (by decide), if_neg (by decide)]
  show (inv 8 83, (0 : Int)) = _
  rw [← h]
theorem k_Inverse (w : World) : Calls Try.prog 46 #[.int .i64 8, .int .u64 83] w fun e w' => e = .returned (.tuple #[.int .u64 202, .int .i64 0]) ∧ Below w.heap.size w w' := by
  have := Inverse_any 8 83 w
  rwa [k_inv] at this
theorem k_Hash0 (w : World) : Calls Try.prog 47 #[.int .i64 8, .int .u64 2, .slice none 0 0] w fun e w' => e = .returned (.tuple #[.int .u64 31, .int .i64 0]) ∧ Below w.heap.size w w' := by
  have e : hashR 8 2 [] = (31, 0) := by decide +kernel
  have := Hash_any 8 2 0 0 none [] w (by decide) (by decide) (Nat.le_refl _) (Rd.nil _ _ _ _)
  rwa [e] at this
theorem k_Hash8 (A : Option Addr) (c : Nat) (w : World) (hc : 8 ≤ c) (h : Rd w w.heap.size 1 A 8 ([false, false, false, false, false, false, false, true].map Value.bool)) :
    Calls Try.prog 47 #[.int .i64 8, .int .u64 2, .slice A 8 c] w fun e w' => e = .returned (.tuple #[.int .u64 23, .int .i64 0]) ∧ Below w.heap.size w w' := by
  have e : hashR 8 2 [false, false, false, false, false, false, false, true] = (23, 0) := by decide +kernel
  have := Hash_any 8 2 8 c A _ w (by decide) (by decide) hc h
  rwa [e] at this
theorem k_Toep (A A' : Option Addr) (c c' : Nat) (w : World) (hc : 4 ≤ c) (h : Rd w w.heap.size 1 A 4 ([true, true, false, false].map Value.bool)) (h' : Rd w w.heap.size 1 A' 3 ([true, false, true].map Value.bool)) :
    Calls Try.prog 48 #[.slice A 4 c, .slice A' 3 c', .int .i64 2] w (RetOwn w 4 1 2 ([true, true].map Value.bool) (fun v => .tuple #[v, .int .i64 0])) := by
  have := Toeplitz_ok A A' 4 c 3 c' 2 [true, true, false, false] [true, false, true] w (by decide) (by decide) rfl hc h h'
  have e : toepL [true, true, false, false] [true, false, true] 2 ([true, false, true] : List Bool).length = [true, true] := by decide
  rwa [e] at this
theorem k_mul16 (w : World) : Calls Try.prog 49 #[.int .i64 16, .int .u64 32768, .int .u64 2] w fun e w' => e = .returned (.int .u64 43) ∧ Below w.heap.size w w' := by
  have e : gm (16 : Int).toNat (32768 : Int).toNat (2 : Int).toNat = 43 := by decide +kernel
  have := lawmul_any 16 32768 2 (by decide) (by decide) (by decide) (by decide) (by decide) w
  rwa [e] at this
theorem k_mul32 (w : World) : Calls Try.prog 49 #[.int .i64 32, .int .u64 2147483648, .int .u64 2] w fun e w' => e = .returned (.int .u64 141) ∧ Below w.heap.size w w' := by
  have e : gm (32 : Int).toNat (2147483648 : Int).toNat (2 : Int).toNat = 141 := by decide +kernel
  have := lawmul_any 32 2147483648 2 (by decide) (by decide) (by decide) (by decide) (by decide) w
  rwa [e] at this
/-- The three shares of the example, with the last one's byte. -/
def sh3 (A1 A2 A3 : Option Addr) (z : Nat) : List ShareV := [⟨1, A1, 1, 1, [6]⟩, ⟨2, A2, 1, 1, [3]⟩, ⟨3, A3, 1, 1, [z]⟩]
theorem k_Join2 (A A1 A2 : Option Addr) (c : Nat) (w : World) (hc : 2 ≤ c) (h : ShR w w.heap.size A 2 [⟨1, A1, 1, 1, [6]⟩, ⟨2, A2, 1, 1, [3]⟩]) :
    Calls Try.prog 29 #[.slice A 2 c, .int .i64 2] w (RetES w 0 [5]) := by
  have e1 : joinE [⟨1, A1, 1, 1, [6]⟩, ⟨2, A2, 1, 1, [3]⟩] 2 = 0 := by
    rw [← joinE_canon _ _ (by intro s hs; simp at hs; rcases hs with rfl | rfl <;> rfl)]
    show joinE [⟨1, none, 1, 0, [6]⟩, ⟨2, none, 1, 0, [3]⟩] 2 = 0
    decide +kernel
  have e2 : joinS [⟨1, A1, 1, 1, [6]⟩, ⟨2, A2, 1, 1, [3]⟩] 2 = [5] := by
    rw [← joinS_canon _ _ (by intro s hs; simp at hs; rcases hs with rfl | rfl <;> rfl)]
    show joinS [⟨1, none, 1, 0, [6]⟩, ⟨2, none, 1, 0, [3]⟩] 2 = [5]
    decide +kernel
  have := Join_any A 2 c 2 _ w (by decide) hc h
  rwa [e1, e2] at this
theorem k_Join3 (A A1 A2 A3 : Option Addr) (c : Nat) (w : World) (hc : 3 ≤ c) (h : ShR w w.heap.size A 3 (sh3 A1 A2 A3 0)) :
    Calls Try.prog 29 #[.slice A 3 c, .int .i64 2] w (RetES w 0 [5]) := by
  have e1 : joinE (sh3 A1 A2 A3 0) 2 = 0 := by
    rw [← joinE_canon _ _ (by intro s hs; simp [sh3] at hs; rcases hs with rfl | rfl | rfl <;> rfl)]
    show joinE [⟨1, none, 1, 0, [6]⟩, ⟨2, none, 1, 0, [3]⟩, ⟨3, none, 1, 0, [0]⟩] 2 = 0
    decide +kernel
  have e2 : joinS (sh3 A1 A2 A3 0) 2 = [5] := by
    rw [← joinS_canon _ _ (by intro s hs; simp [sh3] at hs; rcases hs with rfl | rfl | rfl <;> rfl)]
    show joinS [⟨1, none, 1, 0, [6]⟩, ⟨2, none, 1, 0, [3]⟩, ⟨3, none, 1, 0, [0]⟩] 2 = [5]
    decide +kernel
  have := Join_any A 3 c 2 _ w (by decide) hc h
  rwa [e1, e2] at this
theorem k_Join3bad (A A1 A2 A3 : Option Addr) (c : Nat) (w : World) (hc : 3 ≤ c) (h : ShR w w.heap.size A 3 (sh3 A1 A2 A3 1)) :
    Calls Try.prog 29 #[.slice A 3 c, .int .i64 2] w (RetES w 19 []) := by
  have e1 : joinE (sh3 A1 A2 A3 1) 2 = 19 := by
    rw [← joinE_canon _ _ (by intro s hs; simp [sh3] at hs; rcases hs with rfl | rfl | rfl <;> rfl)]
    show joinE [⟨1, none, 1, 0, [6]⟩, ⟨2, none, 1, 0, [3]⟩, ⟨3, none, 1, 0, [1]⟩] 2 = 19
    decide +kernel
  have e2 : joinS (sh3 A1 A2 A3 1) 2 = [] := by
    rw [← joinS_canon _ _ (by intro s hs; simp [sh3] at hs; rcases hs with rfl | rfl | rfl <;> rfl)]
    show joinS [⟨1, none, 1, 0, [6]⟩, ⟨2, none, 1, 0, [3]⟩, ⟨3, none, 1, 0, [1]⟩] 2 = []
    decide +kernel
  have := Join_any A 3 c 2 _ w (by decide) hc h
  rwa [e1, e2] at this
theorem k_Expl (A A1 A' : Option Addr) (c c' : Nat) (w : World) (h : ShR w w.heap.size A 1 [⟨1, A1, 1, 1, [6]⟩]) (h' : Rd w w.heap.size 1 A' 1 (u8s [9])) :
    Calls Try.prog 22 #[.slice A 1 c, .int .i64 2, .slice A' 1 c'] w (RetES w 0 [15]) := by
  have e1 : explE [⟨1, A1, 1, 1, [6]⟩] 2 ([9] : List Nat).length = 0 := by
    rw [← explE_canon _ _ _ (by intro s hs; simp at hs; rcases hs with rfl; rfl)]
    show explE [⟨1, none, 1, 0, [6]⟩] 2 1 = 0
    decide +kernel
  have e2 : explS [⟨1, A1, 1, 1, [6]⟩] 2 [9] = [15] := by
    rw [← explS_canon _ _ _ (by intro s hs; simp at hs; rcases hs with rfl; rfl)]
    show explS [⟨1, none, 1, 0, [6]⟩] 2 [9] = [15]
    decide +kernel
  have := Expl_any A A' 1 c 1 c' 2 _ [9] w (by decide) h (by intro x hx; simp at hx; omega) h'
  rwa [e1, e2] at this
end Go.Proofs.Ythmooplhhkafcaa
/- The walk of AlgebraKnown: it returns true. -/
namespace Go.Proofs.Ythmooplhhkafcaa
open Go.RowKit
set_option linter.unusedVariables false
theorem one_rd {w : World} {b x : Nat} (h : w.heap[b]? = some (.cells #[.int .u8 x] 5 (0, 0))) : Rd w w.heap.size 1 (some ⟨b, 0, none⟩) 1 (u8s [x]) :=
  ⟨rfl, fun _ => ⟨b, 0, rfl, (Array.getElem?_eq_some_iff.1 h).1, fun j u hu => by rw [Nat.zero_add, cell_of_row _ _ _ _ _ _ h]; simpa [u8s] using hu⟩⟩
/-- The example's shares in memory. -/
def Sh3At (w : World) (H z : Nat) : Prop := w.heap[H]? = some (.cells #[.int .u8 6] 5 (0, 0)) ∧ w.heap[H + 1]? = some (.cells #[.int .u8 3] 5 (0, 0)) ∧ w.heap[H + 2]? = some (.cells #[.int .u8 z] 5 (0, 0)) ∧
  w.heap[H + 3]? = some (.cells #[.int .u8 1, .slice (some ⟨H, 0, none⟩) 1 1, .int .u8 2, .slice (some ⟨H + 1, 0, none⟩) 1 1, .int .u8 3, .slice (some ⟨H + 2, 0, none⟩) 1 1] 40 (0, 0))
theorem Sh3At.shr {w : World} {H z : Nat} (h : Sh3At w H z) (hz : z < 256) : ShR w w.heap.size (some ⟨H + 3, 0, none⟩) 3 (sh3 (some ⟨H, 0, none⟩) (some ⟨H + 1, 0, none⟩) (some ⟨H + 2, 0, none⟩) z) := by
  obtain ⟨h0, h1, h2, h3⟩ := h
  refine ⟨rfl, ⟨rfl, fun _ => ⟨H + 3, 0, rfl, (Array.getElem?_eq_some_iff.1 h3).1, fun j u hu => by rw [Nat.zero_add, cell_of_row _ _ _ _ _ _ h3]; simpa [shCells, sh3] using hu⟩⟩, fun s hs => ?_⟩
  simp only [sh3, List.mem_cons, List.not_mem_nil, or_false] at hs
  rcases hs with rfl | rfl | rfl
  · exact ⟨(show 1 < 256 by decide), (show ∀ x ∈ ([6] : List Nat), x < 256 by decide), Nat.le_refl _, (show 1 ≤ 1073741824 by decide), rfl, one_rd h0⟩
  · exact ⟨(show 2 < 256 by decide), (show ∀ x ∈ ([3] : List Nat), x < 256 by decide), Nat.le_refl _, (show 1 ≤ 1073741824 by decide), rfl, one_rd h1⟩
  · exact ⟨(show 3 < 256 by decide), (fun x hx => by simp at hx; omega), Nat.le_refl _, (show 1 ≤ 1073741824 by decide), rfl, one_rd h2⟩
theorem Rd.firsts2 {w : World} {B n : Nat} {A : Option Addr} {xs : List Value} (h : Rd w B 2 A n xs) (k : Nat) (hk : k ≤ n) : Rd w B 2 A k (xs.take (k * 2)) := by
  refine ⟨by rw [List.length_take, h.1]; omega, fun h0 => ?_⟩
  obtain ⟨b, off, e, hb, hc⟩ := h.2 (by omega)
  refine ⟨b, off, e, hb, fun j u hu => hc j u ?_⟩
  rw [List.getElem?_take] at hu
  split at hu
  · exact hu
  · cases hu
theorem Rd.five {w : World} {B H : Nat} {A : Option Addr} (h : Rd w B 1 A 1 (u8s [5])) (hz : w.heap[H]? = some (.cells #[.int .u8 0] 5 (0, 0))) (u : Value) : Rd (w.setCell ⟨H, 0, none⟩ u) B 1 A 1 (u8s [5]) := by
  refine ⟨h.1, fun h0 => ?_⟩
  obtain ⟨b, off, e, hb, hc⟩ := h.2 h0
  refine ⟨b, off, e, hb, fun j v hv => ?_⟩
  have h1 := hc j v hv
  refine (World.cell?_setCell_other w _ _ _ (fun e2 => ?_)).trans h1
  injection e2 with e3 _ _
  subst e3
  rw [cell_of_row _ _ _ _ _ _ hz] at h1
  have h5 : v = .int .u8 5 := by
    match j, hv with
    | 0, hv => exact (Option.some.inj hv).symm
  subst h5
  cases hoj : off + j with
  | zero => rw [hoj] at h1; cases h1
  | succ m => rw [hoj] at h1; simp at h1
theorem Sh3At.below {w w' : World} {H z : Nat} (h : Sh3At w H z) (hb : Below w.heap.size w w') : Sh3At w' H z := by
  obtain ⟨h0, h1, h2, h3⟩ := h
  have hlt := (Array.getElem?_eq_some_iff.1 h3).1
  exact ⟨(hb.block _ (by omega)).trans h0, (hb.block _ (by omega)).trans h1, (hb.block _ (by omega)).trans h2, (hb.block _ (by omega)).trans h3⟩
theorem Sh3At.set {w : World} {H z : Nat} (h : Sh3At w H z) : Sh3At (w.setCell ⟨H + 2, 0, none⟩ (.int .u8 1)) H 1 := by
  obtain ⟨h0, h1, h2, h3⟩ := h
  refine ⟨(Below.heap_setCell _ _ _ _ (by simp)).trans h0, (Below.heap_setCell _ _ _ _ (by simp)).trans h1, ?_, (Below.heap_setCell _ _ _ _ (by simp)).trans h3⟩
  simp [World.setCell, Array.getElem?_modify, h2]
set_option maxRecDepth 100000 in
set_option maxHeartbeats 4000000 in
theorem AlgebraKnown_walk (w : World) : Calls Try.prog 11 #[] w fun e w' => e = .returned (.bool true) ∧ Below w.heap.size w w' := by
  go_enter Try.func11, Try.ntmps11
  go_wp2_with fail
  refine (k_New _).mono ?_
  rintro e w1 ⟨rfl, hd1, hb1⟩
  have B1 : Below w.heap.size w w1 := hb1
  have D1 := Lib.hid hd1
  have hlt1 : w.heap.size < w1.heap.size := by obtain ⟨s, hd⟩ := hd1; exact hd.lt
  clear hd1 hb1
  go_wp2_with fail
  refine (k_Below1 w.heap.size _ D1.out).mono ?_
  rintro e w2 ⟨rfl, hdr⟩
  have s2 : w1.heap.size ≤ w2.heap.size := by obtain ⟨s', _, hu⟩ := hdr; exact hu.size
  have B2 : Below w.heap.size w w2 := B1.trans (hdr.bel (Nat.le_refl _) (by omega))
  have D2 : Hid (∃ s, DrawAt w2 w.heap.size s) := Lib.hid (by obtain ⟨s', hd, _⟩ := hdr; exact ⟨s', hd⟩); clear D1
  clear hdr
  have hl2 : w.heap.size < w2.heap.size := by omega
  go_wp2_with fail
  refine (k_Perm1 w.heap.size _ D2.out).mono ?_
  rintro e w3 ⟨rfl, hra, hdr⟩
  have s3 : w2.heap.size ≤ w3.heap.size := by obtain ⟨s', _, hu⟩ := hdr; exact hu.size
  have B3 : Below w.heap.size w w3 := B2.trans (hdr.bel (Nat.le_refl _) (by omega))
  have D3 : Hid (∃ s, DrawAt w3 w.heap.size s) := Lib.hid (by obtain ⟨s', hd, _⟩ := hdr; exact ⟨s', hd⟩); clear D2
  have P3 := Lib.hid hra; clear hra
  clear hdr
  have hl3 : w.heap.size < w3.heap.size := by omega
  go_wp2_with fail
  refine (k_Perm0 w.heap.size _ D3.out).mono ?_
  rintro e w4 ⟨rfl, hdr⟩
  have s4 : w3.heap.size ≤ w4.heap.size := by obtain ⟨s', _, hu⟩ := hdr; exact hu.size
  have B4 : Below w.heap.size w w4 := B3.trans (hdr.bel (Nat.le_refl _) (by omega))
  have D4 : Hid (∃ s, DrawAt w4 w.heap.size s) := Lib.hid (by obtain ⟨s', hd, _⟩ := hdr; exact ⟨s', hd⟩); clear D3
  have P4 := Lib.hid (hdr.row P3.out); clear P3
  clear hdr
  have hl4 : w.heap.size < w4.heap.size := by omega
  go_wp2_with fail
  refine (k_Sample33 w.heap.size _ D4.out).mono ?_
  rintro e w5 ⟨AS, cS, rfl, hra, hdr⟩
  have s5 : w4.heap.size ≤ w5.heap.size := by obtain ⟨s', _, hu⟩ := hdr; exact hu.size
  have B5 : Below w.heap.size w w5 := B4.trans (hdr.bel (Nat.le_refl _) (by omega))
  have D5 : Hid (∃ s, DrawAt w5 w.heap.size s) := Lib.hid (by obtain ⟨s', hd, _⟩ := hdr; exact ⟨s', hd⟩); clear D4
  have P5 := Lib.hid (hdr.row P4.out); clear P4
  have S5 := Lib.hid hra; clear hra
  clear hdr
  have hl5 : w.heap.size < w5.heap.size := by omega
  go_wp2_with fail
  refine (k_Sample34 w.heap.size _ D5.out).mono ?_
  rintro e w' ⟨rfl, rfl⟩
  go_wp2_with fail
  refine (k_Below0 w.heap.size _ D5.out).mono ?_
  rintro e w' ⟨rfl, rfl⟩
  have RP5 := Lib.hid P5.out.rd; have RS5 := Lib.hid S5.out.rd
  clear P5 S5 D5
  go_wp2_with fail
  obtain ⟨w6, hw6⟩ : ∃ x, x = w5.alloc (.cells #[.int .i64 0] 3) := ⟨_, rfl⟩
  have hb6 : Below w5.heap.size w5 w6 := by rw [hw6]; exact (Below.refl _ _).alloc (Nat.le_refl _) _
  have hz6 : w6.heap.size = w5.heap.size + 1 := by rw [hw6]; simp
  have X6 := Lib.hid (by rw [hw6]; exact (Rd.new w5 _ _ 1 _ rfl).mono (by simp) : Rd w6 w6.heap.size 1 (some ⟨w5.heap.size, 0, none⟩) 1 ([0].map (Value.int .i64)))
  rw [← hw6]
  clear hw6
  have s6 := hb6.size
  have B6 : Below w.heap.size w w6 := B5.trans (hb6.mono (by omega))
  have RP6 := Lib.hid ((RP5.out.below hb6).mono s6); clear RP5
  have RS6 := Lib.hid ((RS5.out.below hb6).mono s6); clear RS5
  clear hz6
  refine (sameInts_self _ _ _ _ _ [0] _ _ (by decide) (RP6.out) (X6.out)).mono ?_
  rintro e w7 ⟨rfl, hq7⟩
  have hb7 := hq7.below w6.heap.size
  have s7 := hb7.size
  have B7 : Below w.heap.size w w7 := B6.trans (hb7.mono (by omega))
  have RS7 := Lib.hid ((RS6.out.below hb7).mono s7); clear RS6
  clear X6 RP6
  go_wp2_with fail
  obtain ⟨w8, hw8⟩ : ∃ x, x = w7.alloc (.cells #[.int .i64 0, .int .i64 1, .int .i64 2] 3) := ⟨_, rfl⟩
  have hb8 : Below w7.heap.size w7 w8 := by rw [hw8]; exact (Below.refl _ _).alloc (Nat.le_refl _) _
  have hz8 : w8.heap.size = w7.heap.size + 1 := by rw [hw8]; simp
  have X8 := Lib.hid (by rw [hw8]; exact (Rd.new w7 _ _ 1 _ rfl).mono (by simp) : Rd w8 w8.heap.size 1 (some ⟨w7.heap.size, 0, none⟩) 3 ([0, 1, 2].map (Value.int .i64)))
  rw [← hw8]
  clear hw8
  have s8 := hb8.size
  have B8 : Below w.heap.size w w8 := B7.trans (hb8.mono (by omega))
  have RS8 := Lib.hid ((RS7.out.below hb8).mono s8); clear RS7
  clear hz8
  refine (sameInts_self _ _ _ _ _ [0, 1, 2] _ _ (by decide) (RS8.out) (X8.out)).mono ?_
  rintro e w9 ⟨rfl, hq9⟩
  have hb9 := hq9.below w8.heap.size
  have s9 := hb9.size
  have B9 : Below w.heap.size w w9 := B8.trans (hb9.mono (by omega))
  clear X8 RS8
  go_wp2_with fail
  refine (k_word1100 _).mono ?_
  rintro e w10 ⟨A10, c10, rfl, hc10, hown10, hb10⟩
  have s10 := hb10.size
  have B10 : Below w.heap.size w w10 := B9.trans (hb10.mono (by omega))
  have WA10 := Lib.hid (Rd.own hown10); clear hown10
  try dsimp only [id]
  go_wp2_with fail
  refine (k_word0110 _).mono ?_
  rintro e w11 ⟨A11, c11, rfl, hc11, hown11, hb11⟩
  have s11 := hb11.size
  have B11 : Below w.heap.size w w11 := B10.trans (hb11.mono (by omega))
  have WA11 := Lib.hid ((WA10.out.below hb11).mono s11); clear WA10
  have WB11 := Lib.hid (Rd.own hown11); clear hown11
  try dsimp only [id]
  go_wp2_with fail
  refine (k_dist _ _ _ _ _ (WA11.out) (WB11.out)).mono ?_
  rintro e w12 ⟨rfl, hb12⟩
  have s12 := hb12.size
  have B12 : Below w.heap.size w w12 := B11.trans (hb12.mono (by omega))
  have WA12 := Lib.hid ((WA11.out.below hb12).mono s12); clear WA11
  have WB12 := Lib.hid ((WB11.out.below hb12).mono s12); clear WB11
  clear WA12
  clear WB12
  go_wp2_with fail
  refine (k_word1100 _).mono ?_
  rintro e w13 ⟨A13, c13, rfl, hc13, hown13, hb13⟩
  have s13 := hb13.size
  have B13 : Below w.heap.size w w13 := B12.trans (hb13.mono (by omega))
  have WA13 := Lib.hid (Rd.own hown13); clear hown13
  try dsimp only [id]
  go_wp2_with fail
  obtain ⟨w14, hw14⟩ : ∃ x, x = w13.alloc (.cells #[.int .i64 3, .int .i64 0, .int .i64 0] 3) := ⟨_, rfl⟩
  have hb14 : Below w13.heap.size w13 w14 := by rw [hw14]; exact (Below.refl _ _).alloc (Nat.le_refl _) _
  have hz14 : w14.heap.size = w13.heap.size + 1 := by rw [hw14]; simp
  have X14 := Lib.hid (by rw [hw14]; exact (Rd.new w13 _ _ 1 _ rfl).mono (by simp) : Rd w14 w14.heap.size 1 (some ⟨w13.heap.size, 0, none⟩) 3 ([3, 0, 0].map (Value.int .i64)))
  rw [← hw14]
  clear hw14
  have s14 := hb14.size
  have B14 : Below w.heap.size w w14 := B13.trans (hb14.mono (by omega))
  have WA14 := Lib.hid ((WA13.out.below hb14).mono s14); clear WA13
  clear hz14
  refine (k_pick _ _ _ _ _ (WA14.out) (X14.out)).mono ?_
  rintro e w15 ⟨A15, c15, rfl, hc15, hown15, hb15⟩
  have s15 := hb15.size
  have B15 : Below w.heap.size w w15 := B14.trans (hb15.mono (by omega))
  have WA15 := Lib.hid ((WA14.out.below hb15).mono s15); clear WA14
  have X15 := Lib.hid ((X14.out.below hb15).mono s15); clear X14
  have PB15 := Lib.hid (Rd.own hown15); clear hown15
  try dsimp only [id]
  clear WA15
  clear X15
  go_wp2_with fail
  refine (k_word1100 _).mono ?_
  rintro e w16 ⟨A16, c16, rfl, hc16, hown16, hb16⟩
  have s16 := hb16.size
  have B16 : Below w.heap.size w w16 := B15.trans (hb16.mono (by omega))
  have PB16 := Lib.hid ((PB15.out.below hb16).mono s16); clear PB15
  have WA16 := Lib.hid (Rd.own hown16); clear hown16
  try dsimp only [id]
  go_wp2_with fail
  obtain ⟨w17, hw17⟩ : ∃ x, x = w16.alloc (.cells #[.int .i64 3, .int .i64 0, .int .i64 0] 3) := ⟨_, rfl⟩
  have hb17 : Below w16.heap.size w16 w17 := by rw [hw17]; exact (Below.refl _ _).alloc (Nat.le_refl _) _
  have hz17 : w17.heap.size = w16.heap.size + 1 := by rw [hw17]; simp
  have X17 := Lib.hid (by rw [hw17]; exact (Rd.new w16 _ _ 1 _ rfl).mono (by simp) : Rd w17 w17.heap.size 1 (some ⟨w16.heap.size, 0, none⟩) 3 ([3, 0, 0].map (Value.int .i64)))
  rw [← hw17]
  clear hw17
  have s17 := hb17.size
  have B17 : Below w.heap.size w w17 := B16.trans (hb17.mono (by omega))
  have PB17 := Lib.hid ((PB16.out.below hb17).mono s17); clear PB16
  have WA17 := Lib.hid ((WA16.out.below hb17).mono s17); clear WA16
  clear hz17
  refine (k_drop _ _ _ _ _ (WA17.out) (X17.out)).mono ?_
  rintro e w18 ⟨A18, c18, rfl, hc18, hown18, hb18⟩
  have s18 := hb18.size
  have B18 : Below w.heap.size w w18 := B17.trans (hb18.mono (by omega))
  have PB18 := Lib.hid ((PB17.out.below hb18).mono s18); clear PB17
  have WA18 := Lib.hid ((WA17.out.below hb18).mono s18); clear WA17
  have X18 := Lib.hid ((X17.out.below hb18).mono s18); clear X17
  have PC18 := Lib.hid (Rd.own hown18); clear hown18
  try dsimp only [id]
  clear WA18
  clear X18
  go_wp2_with fail
  refine (k_word0101 _).mono ?_
  rintro e w19 ⟨A19, c19, rfl, hc19, hown19, hb19⟩
  have s19 := hb19.size
  have B19 : Below w.heap.size w w19 := B18.trans (hb19.mono (by omega))
  have PB19 := Lib.hid ((PB18.out.below hb19).mono s19); clear PB18
  have PC19 := Lib.hid ((PC18.out.below hb19).mono s19); clear PC18
  have WA19 := Lib.hid (Rd.own hown19); clear hown19
  try dsimp only [id]
  go_wp2_with fail
  refine (k_Word _ _ _ (WA19.out)).mono ?_
  rintro e w' ⟨rfl, rfl⟩
  clear WA19
  go_wp2_with fail
  refine (k_Number4 _).mono ?_
  rintro e w20 ⟨A20, c20, rfl, hc20, hown20, hb20⟩
  have s20 := hb20.size
  have B20 : Below w.heap.size w w20 := B19.trans (hb20.mono (by omega))
  have PB20 := Lib.hid ((PB19.out.below hb20).mono s20); clear PB19
  have PC20 := Lib.hid ((PC19.out.below hb20).mono s20); clear PC19
  have PV20 := Lib.hid (Rd.own hown20); clear hown20
  try dsimp only [id]
  go_wp2_with fail
  refine (k_Number2 _).mono ?_
  rintro e w' ⟨rfl, rfl⟩
  go_wp2_with fail
  refine (k_Text _ 3 _ [false, true, true] [48, 49, 49] _ (by decide) rfl (PB20.out)).mono ?_
  rintro e w21 ⟨rfl, hb21⟩
  have s21 := hb21.size
  have B21 : Below w.heap.size w w21 := B20.trans (hb21.mono (by omega))
  have PB21 := Lib.hid ((PB20.out.below hb21).mono s21); clear PB20
  have PC21 := Lib.hid ((PC20.out.below hb21).mono s21); clear PC20
  have PV21 := Lib.hid ((PV20.out.below hb21).mono s21); clear PV20
  clear PB21
  go_wp2_with fail
  refine (k_Text _ 2 _ [true, false] [49, 48] _ (by decide) rfl (PC21.out)).mono ?_
  rintro e w22 ⟨rfl, hb22⟩
  have s22 := hb22.size
  have B22 : Below w.heap.size w w22 := B21.trans (hb22.mono (by omega))
  have PC22 := Lib.hid ((PC21.out.below hb22).mono s22); clear PC21
  have PV22 := Lib.hid ((PV21.out.below hb22).mono s22); clear PV21
  clear PC22
  go_wp2_with fail
  refine (k_Text _ 4 _ [false, true, false, true] [48, 49, 48, 49] _ (by decide) rfl (PV22.out)).mono ?_
  rintro e w23 ⟨rfl, hb23⟩
  have s23 := hb23.size
  have B23 : Below w.heap.size w w23 := B22.trans (hb23.mono (by omega))
  have PV23 := Lib.hid ((PV22.out.below hb23).mono s23); clear PV22
  clear PV23
  go_wp2_with fail
  refine (k_word111111111 _).mono ?_
  rintro e w24 ⟨A24, c24, rfl, hc24, hown24, hb24⟩
  have s24 := hb24.size
  have B24 : Below w.heap.size w w24 := B23.trans (hb24.mono (by omega))
  have WA24 := Lib.hid (Rd.own hown24); clear hown24
  try dsimp only [id]
  go_wp2_with fail
  refine (k_Pack _ _ _ (WA24.out)).mono ?_
  rintro e w25 ⟨A25, c25, rfl, hc25, hown25, hb25⟩
  have s25 := hb25.size
  have B25 : Below w.heap.size w w25 := B24.trans (hb25.mono (by omega))
  have WA25 := Lib.hid ((WA24.out.below hb25).mono s25); clear WA24
  have PK25 := Lib.hid (Rd.own hown25); clear hown25
  try dsimp only [id]
  clear WA25
  have hcv := fun c => conv_bytes c [255, 128] PK25.out
  go_wp2_with fail
  obtain ⟨w26, hw26⟩ : ∃ x, x = w25.alloc (.cells #[.int .u8 160] 5) := ⟨_, rfl⟩
  have hb26 : Below w25.heap.size w25 w26 := by rw [hw26]; exact (Below.refl _ _).alloc (Nat.le_refl _) _
  have hz26 : w26.heap.size = w25.heap.size + 1 := by rw [hw26]; simp
  have X26 := Lib.hid (by rw [hw26]; exact (Rd.new w25 _ _ 1 _ rfl).mono (by simp) : Rd w26 w26.heap.size 1 (some ⟨w25.heap.size, 0, none⟩) 1 ([.int .u8 160]))
  rw [← hw26]
  clear hw26
  have s26 := hb26.size
  have B26 : Below w.heap.size w w26 := B25.trans (hb26.mono (by omega))
  have PK26 := Lib.hid ((PK25.out.below hb26).mono s26); clear PK25
  clear hz26
  clear hcv
  clear PK26
  refine (k_Unpack3 _ _ _ (X26.out)).mono ?_
  rintro e w27 ⟨A27, c27, rfl, hc27, hown27, hb27⟩
  have s27 := hb27.size
  have B27 : Below w.heap.size w w27 := B26.trans (hb27.mono (by omega))
  have X27 := Lib.hid ((X26.out.below hb27).mono s27); clear X26
  have PU27 := Lib.hid (Rd.own hown27); clear hown27
  try dsimp only [id]
  clear X27
  go_wp2_with fail
  obtain ⟨w28, hw28⟩ : ∃ x, x = w27.alloc (.cells #[.int .u8 160] 5) := ⟨_, rfl⟩
  have hb28 : Below w27.heap.size w27 w28 := by rw [hw28]; exact (Below.refl _ _).alloc (Nat.le_refl _) _
  have hz28 : w28.heap.size = w27.heap.size + 1 := by rw [hw28]; simp
  have X28 := Lib.hid (by rw [hw28]; exact (Rd.new w27 _ _ 1 _ rfl).mono (by simp) : Rd w28 w28.heap.size 1 (some ⟨w27.heap.size, 0, none⟩) 1 ([.int .u8 160]))
  rw [← hw28]
  clear hw28
  have s28 := hb28.size
  have B28 : Below w.heap.size w w28 := B27.trans (hb28.mono (by omega))
  have PU28 := Lib.hid ((PU27.out.below hb28).mono s28); clear PU27
  clear hz28
  refine (k_Unpack2 _ _ _ (X28.out)).mono ?_
  rintro e w29 ⟨rfl, hb29⟩
  have s29 := hb29.size
  have B29 : Below w.heap.size w w29 := B28.trans (hb29.mono (by omega))
  have PU29 := Lib.hid ((PU28.out.below hb29).mono s29); clear PU28
  have X29 := Lib.hid ((X28.out.below hb29).mono s29); clear X28
  clear X29
  go_wp2_with fail
  obtain ⟨w30, hw30⟩ : ∃ x, x = w29.alloc (.cells #[.int .u8 160] 5) := ⟨_, rfl⟩
  have hb30 : Below w29.heap.size w29 w30 := by rw [hw30]; exact (Below.refl _ _).alloc (Nat.le_refl _) _
  have hz30 : w30.heap.size = w29.heap.size + 1 := by rw [hw30]; simp
  have X30 := Lib.hid (by rw [hw30]; exact (Rd.new w29 _ _ 1 _ rfl).mono (by simp) : Rd w30 w30.heap.size 1 (some ⟨w29.heap.size, 0, none⟩) 1 ([.int .u8 160]))
  rw [← hw30]
  clear hw30
  have s30 := hb30.size
  have B30 : Below w.heap.size w w30 := B29.trans (hb30.mono (by omega))
  have PU30 := Lib.hid ((PU29.out.below hb30).mono s30); clear PU29
  clear hz30
  refine (k_Unpack9 _ _ _).mono ?_
  rintro e w' ⟨rfl, rfl⟩
  clear X30
  go_wp2_with fail
  refine (k_Text _ 3 _ [true, false, true] [49, 48, 49] _ (by decide) rfl (PU30.out)).mono ?_
  rintro e w31 ⟨rfl, hb31⟩
  have s31 := hb31.size
  have B31 : Below w.heap.size w w31 := B30.trans (hb31.mono (by omega))
  have PU31 := Lib.hid ((PU30.out.below hb31).mono s31); clear PU30
  clear PU31
  go_wp2_with fail
  refine (k_Inverse _).mono ?_
  rintro e w32 ⟨rfl, hb32⟩
  have s32 := hb32.size
  have B32 : Below w.heap.size w w32 := B31.trans (hb32.mono (by omega))
  go_wp2_with fail
  refine (k_Hash0 _).mono ?_
  rintro e w33 ⟨rfl, hb33⟩
  have s33 := hb33.size
  have B33 : Below w.heap.size w w33 := B32.trans (hb33.mono (by omega))
  go_wp2_with fail
  refine (k_word00000001 _).mono ?_
  rintro e w34 ⟨A34, c34, rfl, hc34, hown34, hb34⟩
  have s34 := hb34.size
  have B34 : Below w.heap.size w w34 := B33.trans (hb34.mono (by omega))
  have WA34 := Lib.hid (Rd.own hown34); clear hown34
  try dsimp only [id]
  go_wp2_with fail
  refine (k_Hash8 _ _ _ hc34 (WA34.out)).mono ?_
  rintro e w35 ⟨rfl, hb35⟩
  have s35 := hb35.size
  have B35 : Below w.heap.size w w35 := B34.trans (hb35.mono (by omega))
  have WA35 := Lib.hid ((WA34.out.below hb35).mono s35); clear WA34
  clear WA35
  go_wp2_with fail
  refine (k_word1100 _).mono ?_
  rintro e w36 ⟨A36, c36, rfl, hc36, hown36, hb36⟩
  have s36 := hb36.size
  have B36 : Below w.heap.size w w36 := B35.trans (hb36.mono (by omega))
  have WA36 := Lib.hid (Rd.own hown36); clear hown36
  try dsimp only [id]
  go_wp2_with fail
  refine (k_word101 _).mono ?_
  rintro e w37 ⟨A37, c37, rfl, hc37, hown37, hb37⟩
  have s37 := hb37.size
  have B37 : Below w.heap.size w w37 := B36.trans (hb37.mono (by omega))
  have WA37 := Lib.hid ((WA36.out.below hb37).mono s37); clear WA36
  have WB37 := Lib.hid (Rd.own hown37); clear hown37
  try dsimp only [id]
  go_wp2_with fail
  refine (k_Toep _ _ _ _ _ hc36 (WA37.out) (WB37.out)).mono ?_
  rintro e w38 ⟨A38, c38, rfl, hc38, hown38, hb38⟩
  have s38 := hb38.size
  have B38 : Below w.heap.size w w38 := B37.trans (hb38.mono (by omega))
  have WA38 := Lib.hid ((WA37.out.below hb38).mono s38); clear WA37
  have WB38 := Lib.hid ((WB37.out.below hb38).mono s38); clear WB37
  have PT38 := Lib.hid (Rd.own hown38); clear hown38
  try dsimp only [id]
  clear WA38
  clear WB38
  go_wp2_with fail
  refine (k_Text _ 2 _ [true, true] [49, 49] _ (by decide) rfl (PT38.out)).mono ?_
  rintro e w39 ⟨rfl, hb39⟩
  have s39 := hb39.size
  have B39 : Below w.heap.size w w39 := B38.trans (hb39.mono (by omega))
  have PT39 := Lib.hid ((PT38.out.below hb39).mono s39); clear PT38
  clear PT39
  go_wp2_with fail
  refine (k_mul16 _).mono ?_
  rintro e w40 ⟨rfl, hb40⟩
  have s40 := hb40.size
  have B40 : Below w.heap.size w w40 := B39.trans (hb40.mono (by omega))
  go_wp2_with fail
  refine (k_mul32 _).mono ?_
  rintro e w41 ⟨rfl, hb41⟩
  have s41 := hb41.size
  have B41 : Below w.heap.size w w41 := B40.trans (hb41.mono (by omega))
  go_wp2_with fail
  obtain ⟨w42, hw42⟩ : ∃ x, x = (((w41.alloc (.cells #[.int .u8 6] 5)).alloc (.cells #[.int .u8 3] 5)).alloc (.cells #[.int .u8 0] 5)).alloc (.cells #[.int .u8 1, .slice (some ⟨w41.heap.size, 0, none⟩) 1 1, .int .u8 2, .slice (some ⟨w41.heap.size + 1, 0, none⟩) 1 1, .int .u8 3, .slice (some ⟨w41.heap.size + 1 + 1, 0, none⟩) 1 1] 40) := ⟨_, rfl⟩
  have hb42 : Below w41.heap.size w41 w42 := by rw [hw42]; exact ((((Below.refl _ _).alloc (Nat.le_refl _) _).alloc (by simp) _).alloc (by simp; omega) _).alloc (by simp; omega) _
  have SA42 : Hid (Sh3At w42 w41.heap.size 0) := Lib.hid (by
    rw [hw42]
    refine ⟨?_, ?_, ?_, ?_⟩
    · rw [Below.heap_alloc _ _ _ (by first | (simp; done) | (simp; omega)), Below.heap_alloc _ _ _ (by first | (simp; done) | (simp; omega)), Below.heap_alloc _ _ _ (by simp)]; exact heap_alloc_new _ _
    · rw [Below.heap_alloc _ _ _ (by first | (simp; done) | (simp; omega)), Below.heap_alloc _ _ _ (by simp)]; simpa using heap_alloc_new (w41.alloc (.cells #[.int .u8 6] 5)) (.cells #[.int .u8 3] 5)
    · rw [Below.heap_alloc _ _ _ (by simp)]; simpa using heap_alloc_new ((w41.alloc (.cells #[.int .u8 6] 5)).alloc (.cells #[.int .u8 3] 5)) (.cells #[.int .u8 0] 5)
    · simpa using heap_alloc_new (((w41.alloc (.cells #[.int .u8 6] 5)).alloc (.cells #[.int .u8 3] 5)).alloc (.cells #[.int .u8 0] 5)) (.cells #[.int .u8 1, .slice (some ⟨w41.heap.size, 0, none⟩) 1 1, .int .u8 2, .slice (some ⟨w41.heap.size + 1, 0, none⟩) 1 1, .int .u8 3, .slice (some ⟨w41.heap.size + 1 + 1, 0, none⟩) 1 1] 40))
  rw [← hw42]
  clear hw42
  have s42 := hb42.size
  have B42 : Below w.heap.size w w42 := B41.trans (hb42.mono (by omega))
  refine (k_Join2 _ (some ⟨w41.heap.size, 0, none⟩) (some ⟨w41.heap.size + 1, 0, none⟩) _ _ (by decide) ((SA42.out.shr (by decide)).head 2 (by decide) ((SA42.out.shr (by decide)).2.1.firsts2 2 (by decide)))).mono ?_
  rintro e w43 ⟨A43, m43, c43, rfl, hc43, hS43, hr43, hb43⟩
  have SA43 := Lib.hid (SA42.out.below hb43); clear SA42
  have s43 := hb43.size
  have B43 : Below w.heap.size w w43 := B42.trans (hb43.mono (by omega))
  obtain rfl : m43 = 1 := hS43.symm
  have J143 := Lib.hid hr43; clear hr43 hS43
  go_wp2_with fail
  refine (k_Join3 _ (some ⟨w41.heap.size, 0, none⟩) (some ⟨w41.heap.size + 1, 0, none⟩) (some ⟨w41.heap.size + 2, 0, none⟩) _ _ (by decide) (SA43.out.shr (by decide))).mono ?_
  rintro e w44 ⟨A44, m44, c44, rfl, hc44, hS44, hr44, hb44⟩
  have SA44 := Lib.hid (SA43.out.below hb44); clear SA43
  have s44 := hb44.size
  have B44 : Below w.heap.size w w44 := B43.trans (hb44.mono (by omega))
  have J144 := Lib.hid ((J143.out.below hb44).mono s44); clear J143
  obtain rfl : m44 = 1 := hS44.symm
  have J244 := Lib.hid hr44; clear hr44 hS44
  obtain ⟨y0, y1, y2, y3⟩ := SA44.out
  have c5 : w44.cell? ⟨w41.heap.size + 1 + 1 + 1, 5, none⟩ = some (.slice (some ⟨w41.heap.size + 2, 0, none⟩) 1 1) := by rw [cell_of_row _ _ _ _ _ _ y3]; rfl
  have cz : w44.cell? ⟨w41.heap.size + 2, 0, none⟩ = some (.int .u8 0) := by rw [cell_of_row _ _ _ _ _ _ y2]; rfl
  have fz : w44.frozen? ⟨w41.heap.size + 2, 0, none⟩ = false := by simp [World.frozen?, y2]
  clear y0 y1 y2 y3
  go_wp2_with fail
  clear c5 cz fz
  obtain ⟨w45, hw45⟩ : ∃ x, x = w44.setCell ⟨w41.heap.size + 2, 0, none⟩ (.int .u8 1) := ⟨_, rfl⟩
  have hb45 : Below w41.heap.size w44 w45 := by rw [hw45]; exact (Below.refl _ _).setCell (by simp) _
  have SA45 : Hid (Sh3At w45 w41.heap.size 1) := Lib.hid (by rw [hw45]; exact SA44.out.set)
  have J145 := Lib.hid (by rw [hw45]; rw [size_setCell]; exact J144.out.five SA44.out.2.2.1 _ : Rd w45 w45.heap.size 1 A43 1 (u8s [5]))
  have J245 := Lib.hid (by rw [hw45]; rw [size_setCell]; exact J244.out.five SA44.out.2.2.1 _ : Rd w45 w45.heap.size 1 A44 1 (u8s [5]))
  have s45 : w44.heap.size = w45.heap.size := by rw [hw45, size_setCell]
  rw [← hw45]
  clear hw45 J144 J244 SA44
  have B45 : Below w.heap.size w w45 := B44.trans (hb45.mono (by omega))
  
  go_wp2_with fail
  refine (k_Join3bad _ (some ⟨w41.heap.size, 0, none⟩) (some ⟨w41.heap.size + 1, 0, none⟩) (some ⟨w41.heap.size + 2, 0, none⟩) _ _ (by decide) (SA45.out.shr (by decide))).mono ?_
  rintro e w46 ⟨A46, m46, c46, rfl, hc46, hS46, hr46, hb46⟩
  have SA46 := Lib.hid (SA45.out.below hb46); clear SA45
  have s46 := hb46.size
  have B46 : Below w.heap.size w w46 := B45.trans (hb46.mono (by omega))
  have J146 := Lib.hid ((J145.out.below hb46).mono s46); clear J145
  have J246 := Lib.hid ((J245.out.below hb46).mono s46); clear J245
  clear hr46 hS46
  go_wp2_with fail
  obtain ⟨w47, hw47⟩ : ∃ x, x = w46.alloc (.cells #[.int .u8 9] 5) := ⟨_, rfl⟩
  have hb47 : Below w46.heap.size w46 w47 := by rw [hw47]; exact (Below.refl _ _).alloc (Nat.le_refl _) _
  have hz47 : w47.heap.size = w46.heap.size + 1 := by rw [hw47]; simp
  have X47 := Lib.hid (by rw [hw47]; exact (Rd.new w46 _ _ 1 _ rfl).mono (by simp) : Rd w47 w47.heap.size 1 (some ⟨w46.heap.size, 0, none⟩) 1 (u8s [9]))
  rw [← hw47]
  clear hw47
  have s47 := hb47.size
  have B47 : Below w.heap.size w w47 := B46.trans (hb47.mono (by omega))
  have J147 := Lib.hid ((J146.out.below hb47).mono s47); clear J146
  have J247 := Lib.hid ((J246.out.below hb47).mono s47); clear J246
  clear hz47
  have SA47 := Lib.hid (SA46.out.below hb47)
  refine (k_Expl _ (some ⟨w41.heap.size, 0, none⟩) _ _ _ _ ((SA47.out.shr (by decide)).head 1 (by decide) ((SA47.out.shr (by decide)).2.1.firsts2 1 (by decide))) (X47.out)).mono ?_
  rintro e w48 ⟨A48, m48, c48, rfl, hc48, hS48, hr48, hb48⟩
  have s48 := hb48.size
  have B48 : Below w.heap.size w w48 := B47.trans (hb48.mono (by omega))
  have J148 := Lib.hid ((J147.out.below hb48).mono s48); clear J147
  have J248 := Lib.hid ((J247.out.below hb48).mono s48); clear J247
  have X48 := Lib.hid ((X47.out.below hb48).mono s48); clear X47
  obtain rfl : m48 = 1 := hS48.symm
  have O148 := Lib.hid hr48; clear hr48 hS48
  clear X48
  go_wp2_with fail
  obtain ⟨w49, hw49⟩ : ∃ x, x = w48.alloc (.cells #[.int .u8 5] 5) := ⟨_, rfl⟩
  have hb49 : Below w48.heap.size w48 w49 := by rw [hw49]; exact (Below.refl _ _).alloc (Nat.le_refl _) _
  have hz49 : w49.heap.size = w48.heap.size + 1 := by rw [hw49]; simp
  have X49 := Lib.hid (by rw [hw49]; exact (Rd.new w48 _ _ 1 _ rfl).mono (by simp) : Rd w49 w49.heap.size 1 (some ⟨w48.heap.size, 0, none⟩) 1 (u8s [5]))
  rw [← hw49]
  clear hw49
  have s49 := hb49.size
  have B49 : Below w.heap.size w w49 := B48.trans (hb49.mono (by omega))
  have J149 := Lib.hid ((J148.out.below hb49).mono s49); clear J148
  have J249 := Lib.hid ((J248.out.below hb49).mono s49); clear J248
  have O149 := Lib.hid ((O148.out.below hb49).mono s49); clear O148
  clear hz49
  refine (same_yes _ _ _ _ _ _ [5] _ _ (by intro x hx; simp at hx; omega) (J149.out) (X49.out)).mono ?_
  rintro e w' ⟨rfl, rfl⟩
  clear X49
  clear J149
  go_wp2_with fail
  obtain ⟨w50, hw50⟩ : ∃ x, x = w49.alloc (.cells #[.int .u8 5] 5) := ⟨_, rfl⟩
  have hb50 : Below w49.heap.size w49 w50 := by rw [hw50]; exact (Below.refl _ _).alloc (Nat.le_refl _) _
  have hz50 : w50.heap.size = w49.heap.size + 1 := by rw [hw50]; simp
  have X50 := Lib.hid (by rw [hw50]; exact (Rd.new w49 _ _ 1 _ rfl).mono (by simp) : Rd w50 w50.heap.size 1 (some ⟨w49.heap.size, 0, none⟩) 1 (u8s [5]))
  rw [← hw50]
  clear hw50
  have s50 := hb50.size
  have B50 : Below w.heap.size w w50 := B49.trans (hb50.mono (by omega))
  have J250 := Lib.hid ((J249.out.below hb50).mono s50); clear J249
  have O150 := Lib.hid ((O149.out.below hb50).mono s50); clear O149
  clear hz50
  refine (same_yes _ _ _ _ _ _ [5] _ _ (by intro x hx; simp at hx; omega) (J250.out) (X50.out)).mono ?_
  rintro e w' ⟨rfl, rfl⟩
  clear X50
  clear J250
  go_wp2_with fail
  obtain ⟨w51, hw51⟩ : ∃ x, x = w50.alloc (.cells #[.int .u8 15] 5) := ⟨_, rfl⟩
  have hb51 : Below w50.heap.size w50 w51 := by rw [hw51]; exact (Below.refl _ _).alloc (Nat.le_refl _) _
  have hz51 : w51.heap.size = w50.heap.size + 1 := by rw [hw51]; simp
  have X51 := Lib.hid (by rw [hw51]; exact (Rd.new w50 _ _ 1 _ rfl).mono (by simp) : Rd w51 w51.heap.size 1 (some ⟨w50.heap.size, 0, none⟩) 1 (u8s [15]))
  rw [← hw51]
  clear hw51
  have s51 := hb51.size
  have B51 : Below w.heap.size w w51 := B50.trans (hb51.mono (by omega))
  have O151 := Lib.hid ((O150.out.below hb51).mono s51); clear O150
  clear hz51
  refine (same_yes _ _ _ _ _ _ [15] _ _ (by intro x hx; simp at hx; omega) (O151.out) (X51.out)).mono ?_
  rintro e w' ⟨rfl, rfl⟩
  clear X51
  clear O151
  go_wp2_with fail
  refine (known_any _).mono ?_
  rintro e w99 ⟨rfl, hb99⟩
  go_wp2_with fail
  go_ret
  exact ⟨rfl, B51.trans (hb99.mono (by omega))⟩
end Go.Proofs.Ythmooplhhkafcaa
