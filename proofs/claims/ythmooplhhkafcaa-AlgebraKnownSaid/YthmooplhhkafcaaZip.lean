/- Contracts of kept, zip and Xor. Conditions: as each statement says. -/
import Derived.Test.YthmooplhhkafcaaBits2
import Derived.Test.YthmooplhhkafcaaApp
import Derived.Test.YthmooplhhkafcaaDrawMath
import Derived.Test.YthmooplhhkafcaaDraw
namespace Go.Proofs.Ythmooplhhkafcaa
open Go.RowKit
set_option maxHeartbeats 400000 in
theorem zip_differ (A A' : Option Addr) (n c c' : Nat) (xs ys : List Bool) (w : World) (hn : n ≤ 1073741824) (h : Rd w w.heap.size 1 A n (xs.map Value.bool)) (h' : Rd w w.heap.size 1 A' n (ys.map Value.bool)) :
    Calls Try.prog 82 #[.slice A n c, .slice A' n c', .func (.func 83) #[] #[]] w (RetOwn w 4 1 n ((xorL xs ys).map Value.bool) id) := by
  have hl : xs.length = n := by have := h.1; simpa using this
  have hl' : ys.length = n := by have := h'.1; simpa using this
  have H := Lib.hid h; clear h
  have H' := Lib.hid h'; clear h'
  have HL := Lib.hid hl; clear hl
  have HL' := Lib.hid hl'; clear hl'
  have hmk := fun w => make_bool w n (by omega)
  go_enter Try.func82, Try.ntmps82
  go_wp2
  clear hmk
  go_loopw [15] (fun i wr => ∃ k : Nat, k ≤ n ∧ i = .int .i64 k ∧ wr.heap[w.heap.size]? = some (.cells (((xorL xs ys).take k).map Value.bool ++ List.replicate (n - k) (Value.bool false)).toArray 4 (0, 0)) ∧ Below w.heap.size w wr) (fun i _ => n - (intOf i).toNat)
  case atStart => exact ⟨0, Nat.zero_le _, rfl, by simpa using heap_alloc_new w _, (Below.refl _ _).alloc (Nat.le_refl _) _⟩
  case round =>
    obtain ⟨k, hk, rfl, hB, hbw⟩ := hrel
    have HB := Lib.hid hB; clear hB
    by_cases hlt : k < n
    · obtain ⟨b, off, rfl, hb, hc⟩ := H.out.2 (by omega)
      obtain ⟨b', off', rfl, hb', hc'⟩ := H'.out.2 (by omega)
      have hka : k < xs.length := by rw [HL.out]; exact hlt
      have hkb : k < ys.length := by rw [HL'.out]; exact hlt
      have h1 : wr.cell? ⟨b, off + k, none⟩ = some (.bool xs[k]) := (hbw.cell (p := ⟨b, off + k, none⟩) hb).trans (hc k _ (by simp [hka]))
      have h2 : wr.cell? ⟨b', off' + k, none⟩ = some (.bool ys[k]) := (hbw.cell (p := ⟨b', off' + k, none⟩) hb').trans (hc' k _ (by simp [hkb]))
      have hx : (((xorL xs ys).take k).map Value.bool).length = k := by simp [xorL]; omega
      have h3 : ∃ u, wr.cell? ⟨w.heap.size, k, none⟩ = some u := ⟨_, (cell_of_row _ _ _ _ _ _ HB.out).trans (Array.getElem?_eq_getElem (by simp [xorL]; omega))⟩
      obtain ⟨u, h3⟩ := h3
      have h4 : wr.frozen? ⟨w.heap.size, k, none⟩ = false := by simp [World.frozen?, HB.out]
      have HS := Lib.hid (xorL_snoc k hka hkb)
      have HX := Lib.hid hx
      clear hc hc' hx
      generalize xs[k] = x at h1 HS
      generalize ys[k] = y at h2 HS
      clear hka hkb
      go_wp2
      refine ⟨⟨k + 1, by omega, by go_num, ?_, hbw.setCell (p := ⟨w.heap.size, k, none⟩) (Nat.le_refl _) _⟩, by simp [intOf]; omega⟩
      obtain ⟨d, hd⟩ : ∃ d, n - k = d + 1 := ⟨n - k - 1, by omega⟩
      have h5 := HB.out
      rw [hd] at h5
      rw [HS.out, show n - (k + 1) = d by omega, row_fill (j := k) h5 HX.out]
      simp [bne]
    · go_wp2
      go_ret
      obtain rfl : k = n := by omega
      have h5 := HB.out
      rw [Nat.sub_self, List.replicate_zero, List.append_nil, List.take_of_length_le (by rw [xorL_len (by rw [HL.out, HL'.out]), HL.out]; exact Nat.le_refl _)] at h5
      exact RetOwn.of (mk := id) (own_of_row h5 (by simp [xorL, HL.out, HL'.out]) (Nat.le_refl _) (by simp [maxLen]; omega)) hbw
/-- Xor of the program. -/
theorem Xor_any (A A' : Option Addr) (n c c' : Nat) (xs ys : List Bool) (w : World) (hn : n ≤ 1073741824) (h : Rd w w.heap.size 1 A n (xs.map Value.bool)) (h' : Rd w w.heap.size 1 A' n (ys.map Value.bool)) :
    Calls Try.prog 76 #[.slice A n c, .slice A' n c'] w (RetOwn w 4 1 n ((xorL xs ys).map Value.bool) (fun v => .tuple #[v, .int .i64 0])) := by
  have H := Lib.hid h; clear h
  have H' := Lib.hid h'; clear h'
  go_enter Try.func76, Try.ntmps76
  go_wp2_with fail
  refine (zip_differ _ _ _ _ _ xs ys _ hn H.out H'.out).mono ?_
  rintro e w1 ⟨A2, c2, rfl, hc2, hown, hb⟩
  dsimp only [id]
  go_wp2_with fail
  go_ret2
  exact ⟨A2, c2, rfl, hc2, hown, hb⟩
theorem Xor_bad (A A' : Option Addr) (n m c c' : Nat) (hne : n ≠ m) (w : World) :
    Calls Try.prog 76 #[.slice A n c, .slice A' m c'] w fun e w' => e = .returned (.tuple #[.slice none 0 0, .int .i64 22]) ∧ w = w' := by
  have h : ((n : Int) != (m : Int)) = true := by rw [bne_iff_ne]; omega
  clear hne
  go_enter Try.func76, Try.ntmps76
  go_wp2
  go_ret2
  exact ⟨rfl, rfl⟩
end Go.Proofs.Ythmooplhhkafcaa
/- Contracts of the Toeplitz hash (program and reference). Conditions: as each statement says. -/
namespace Go.Proofs.Ythmooplhhkafcaa
open Go.RowKit
theorem ownsRow_base {w : World} {base base' : Nat} {t : TypeId} {sz n : Nat} {v : Value} {xs : List Value} (h : w.ownsRow base t sz v n xs) (hb : base' ≤ base) : w.ownsRow base' t sz v n xs := by
  refine ⟨h.1, ?_⟩
  rcases h.2 with h1 | ⟨g, cap, cur, hv, hg, rest⟩
  · exact .inl h1
  · exact .inr ⟨g, cap, cur, hv, by omega, rest⟩
def ToepRel (w : World) (seed a : List Bool) (out : Nat) (v i : Value) (wr : World) : Prop :=
  ∃ k : Nat, k ≤ a.length ∧ i = .int .i64 k ∧ ∃ A c, v = .slice A out c ∧ out ≤ c ∧ wr.ownsRow w.heap.size 4 1 (.slice A out c) out ((toepL seed a out k).map Value.bool) ∧ Below w.heap.size w wr
set_option maxRecDepth 100000 in
set_option maxHeartbeats 1000000 in
theorem Toeplitz_ok (A A' : Option Addr) (s cs n c out : Nat) (seed a : List Bool) (w : World) (hn : n ≤ 512) (hout : out ≤ 512) (hs : s = n + out - 1) (hcs : s ≤ cs)
    (h : Rd w w.heap.size 1 A s (seed.map Value.bool)) (h' : Rd w w.heap.size 1 A' n (a.map Value.bool)) :
    Calls Try.prog 48 #[.slice A s cs, .slice A' n c, .int .i64 out] w (RetOwn w 4 1 out ((toepL seed a out a.length).map Value.bool) (fun v => .tuple #[v, .int .i64 0])) := by
  have hl : seed.length = s := by have := h.1; simpa using this
  have hl' : a.length = n := by have := h'.1; simpa using this
  have hmax : max 0 ((n : Int) + (out : Int) - 1) = (s : Int) := by omega
  have H := Lib.hid h; clear h
  have H' := Lib.hid h'; clear h'
  have HL := Lib.hid hl; clear hl
  have HL' := Lib.hid hl'; clear hl'
  have HS := Lib.hid hs; clear hs
  have hmk := fun w => make_bool w out (by omega)
  go_enter Try.func48, Try.ntmps48
  go_wp2
  clear hmk hmax
  all_goals
    go_loopw [8, 34] (fun v i wr => ToepRel w seed a out v i wr) (fun _ i _ => n - (intOf i).toNat)
    case atStart =>
      refine ⟨0, Nat.zero_le _, rfl, _, _, rfl, Nat.le_refl _, own_of_row (xs := (toepL seed a out 0).map Value.bool) ?_ (by simp [toepL]) (Nat.le_refl _) (by simp [maxLen]; omega), (Below.refl _ _).alloc (Nat.le_refl _) _⟩
      rw [toepL_zero]
      simpa using heap_alloc_new w _
    case round =>
      obtain ⟨k, hk, rfl, Ah, ch, rfl, hch, hown, hbw⟩ := hrel
      have hsz := hbw.size
      have hkn : k ≤ n := by rw [← HL'.out]; exact hk
      by_cases hlt : k < n
      · obtain ⟨b', off', rfl, hb', hc'⟩ := H'.out.2 (by omega)
        have hka : k < a.length := by rw [HL'.out]; exact hlt
        have h1 : wr.cell? ⟨b', off' + k, none⟩ = some (.bool (a.getD k false)) := (hbw.cell (p := ⟨b', off' + k, none⟩) hb').trans (hc' k _ (by simp [hka]))
        have HK : Hid (k < a.length) := Lib.hid hka
        clear hc' hka hk
        cases hx : a.getD k false with
        | false =>
          rw [hx] at h1
          have HS := Lib.hid (toepL_skip (seed := seed) (out := out) hx)
          clear hx
          go_wp2
          refine ⟨⟨k + 1, HK.out, by go_num, Ah, ch, rfl, hch, by rw [HS.out]; exact hown, hbw⟩, by simp [intOf]; omega⟩
        | true =>
          rw [hx] at h1
          by_cases ho : out = 0
          · subst ho
            clear hx
            go_wp2
            refine ⟨⟨k + 1, HK.out, by go_num, Ah, ch, rfl, hch, hown, hbw⟩, by simp [intOf]; omega⟩
          · have ho' : (0 : Int) < (out : Int) := by omega
            obtain ⟨q, hq⟩ : ∃ q, q = n - 1 - k := ⟨_, rfl⟩
            have hqi : (n : Int) - 1 - (k : Int) = (q : Int) := by omega
            have hqs : q + out ≤ s := by have := HS.out; omega
            obtain ⟨A2, hsl, hrd⟩ := slice_cut (P := Try.prog) (t := 22) (sz := 1) Try.underlying22 Try.sizeOf4 (H.out.below hbw) q (q + out) cs (by omega) hqs hcs
            rw [show q + out - q = out by omega] at hsl hrd
            simp only [Int.natCast_add] at hsl
            have hrd' : Rd wr wr.heap.size 1 A2 out (((seed.drop q).take out).map Value.bool) := (by simpa [List.map_drop, List.map_take] using hrd : Rd wr w.heap.size 1 A2 out (((seed.drop q).take out).map Value.bool)).mono hsz
            have HRD := Lib.hid hrd'
            have HS2 := Lib.hid (toepL_add (seed := seed) (a := a) (out := out) (q := q) HK.out (by rw [HL'.out]; exact hq) (by rw [HL.out]; exact hqs) hx)
            have HRA := Lib.hid (Rd.own hown)
            have HQ := Lib.hid hq
            clear hx hrd hrd' hq
            go_wp2_with fail
            all_goals
              refine (zip_differ _ _ _ _ _ (toepL seed a out k) ((seed.drop q).take out) _ (by omega) HRA.out HRD.out).mono ?_
              rintro e w1 ⟨A3, c3, rfl, hc3, hown3, hb3⟩
              dsimp only [id]
              go_wp2
              refine ⟨⟨k + 1, HK.out, by go_num, A3, c3, rfl, hc3, by rw [HS2.out]; exact ownsRow_base hown3 hsz, hbw.trans (hb3.mono hsz)⟩, by simp [intOf]; omega⟩
      · go_wp2
        go_ret2
        have e : k = a.length := by rw [HL'.out] at hk; have := HL'.out; omega
        rw [← e]
        exact ⟨Ah, ch, rfl, hch, hown, hbw⟩
end Go.Proofs.Ythmooplhhkafcaa
/- Contracts of the Toeplitz hash: what is refused; the reference's; SeedBits. Conditions: as each statement says. -/
namespace Go.Proofs.Ythmooplhhkafcaa
open Go.RowKit
def seedB (n out : Int) : Int := if 1 ≤ n + out then n + out - 1 else 0
/-- The error of a Toeplitz hash. -/
def toepE (n s : Nat) (out : Int) : Int := if 512 < n then 4 else if out < 0 ∨ 512 < out then 3 else if (s : Int) ≠ seedB n out then 22 else 0
theorem Toeplitz_bad (A A' : Option Addr) (s cs n c : Nat) (out : Int) (w : World) (hn : n ≤ 1073741824) (he : toepE n s out ≠ 0) :
    Calls Try.prog 48 #[.slice A s cs, .slice A' n c, .int .i64 out] w fun e w' => e = .returned (.tuple #[.slice none 0 0, .int .i64 (toepE n s out)]) ∧ w = w' := by
  by_cases h1 : 512 < n
  · have HE : Hid (toepE n s out = 4) := Lib.hid (by unfold toepE; rw [if_pos h1])
    clear he
    have h1' : (512 : Int) < (n : Int) := by omega
    go_enter Try.func48, Try.ntmps48
    go_wp2
    go_ret2
    exact ⟨by rw [HE.out]; rfl, rfl⟩
  · have h1' : (n : Int) ≤ 512 := by omega
    by_cases h2 : out < 0
    · have HE : Hid (toepE n s out = 3) := Lib.hid (by unfold toepE; rw [if_neg h1, if_pos (.inl h2)])
      clear he
      go_enter Try.func48, Try.ntmps48
      go_wp2
      go_ret2
      exact ⟨by rw [HE.out]; rfl, rfl⟩
    · by_cases h3 : 512 < out
      · have HE : Hid (toepE n s out = 3) := Lib.hid (by unfold toepE; rw [if_neg h1, if_pos (.inr h3)])
        clear he
        go_enter Try.func48, Try.ntmps48
        go_wp2
        go_ret2
        exact ⟨by rw [HE.out]; rfl, rfl⟩
      · have h4 : (s : Int) ≠ seedB n out := by
          intro h4
          apply he
          unfold toepE
          rw [if_neg h1, if_neg (by omega), if_neg (by simpa using h4)]
        have HE : Hid (toepE n s out = 22) := Lib.hid (by unfold toepE; rw [if_neg h1, if_neg (by omega), if_pos h4])
        clear he
        unfold seedB at h4
        by_cases h5 : 1 ≤ (n : Int) + out
        · rw [if_pos h5] at h4
          by_cases h6 : 1 < (n : Int) + out
          · have ht : ((s : Int) != (n : Int) + out - 1) = true := by rw [bne_iff_ne]; exact h4
            clear h4
            go_enter Try.func48, Try.ntmps48
            go_wp2
            go_ret2
            exact ⟨by rw [HE.out]; rfl, rfl⟩
          · have ht : ((s : Int) != 0) = true := by rw [bne_iff_ne]; omega
            clear h4
            go_enter Try.func48, Try.ntmps48
            go_wp2
            go_ret2
            exact ⟨by rw [HE.out]; rfl, rfl⟩
        · rw [if_neg h5] at h4
          have h6 : ¬ 1 < (n : Int) + out := by omega
          have ht : ((s : Int) != 0) = true := by rw [bne_iff_ne]; exact h4
          clear h4
          go_enter Try.func48, Try.ntmps48
          go_wp2
          go_ret2
          exact ⟨by rw [HE.out]; rfl, rfl⟩
end Go.Proofs.Ythmooplhhkafcaa
/- Contracts of the functions between bits and numbers (program and reference): number, Word, Number. Conditions: as each statement says. -/
namespace Go.Proofs.Ythmooplhhkafcaa
open Go.RowKit
set_option linter.unusedVariables false
set_option linter.unusedSimpArgs false
def wordV (l : List Bool) : Nat := l.foldl (fun n b => 2 * n + if b then 1 else 0) 0
theorem wordV_snoc (l : List Bool) (b : Bool) : wordV (l ++ [b]) = 2 * wordV l + if b then 1 else 0 := by simp [wordV, List.foldl_append]
theorem wordV_lt (l : List Bool) : wordV l < 2 ^ l.length := by
  suffices h : ∀ (r : List Bool), wordV r.reverse < 2 ^ r.length by have := h l.reverse; simpa using this
  intro r
  induction r with
  | nil => simp [wordV]
  | cons b r ih =>
    rw [List.reverse_cons, wordV_snoc, List.length_cons, Nat.pow_succ]
    split <;> omega
theorem wordV_small (l : List Bool) (k n : Nat) (hk : k < n) (hn : n ≤ 64) : wordV (l.take k) < 9223372036854775808 := by
  refine Nat.lt_of_lt_of_le (wordV_lt _) ?_
  refine Nat.le_trans (Nat.pow_le_pow_right (by omega) (List.length_take_le _ _)) ?_
  exact Nat.le_trans (Nat.pow_le_pow_right (by omega) (show k ≤ 63 by omega)) (by decide)
/-- The bits of a number. -/
def numL (a width : Nat) : List Bool := (List.range width).map fun i => (a / 2 ^ (width - 1 - i)) % 2 == 1
theorem numL_len (a width : Nat) : (numL a width).length = width := by simp [numL]
theorem or_one {q : Nat} (hq : q < 9223372036854775808) : bits BinOp.or IntKind.u64 ((q : Int) * 2) 1 = ((2 * q + 1 : Nat) : Int) := by
  rw [show ((q : Int) * 2) = ((q * 2 : Nat) : Int) by omega, show (1 : Int) = ((1 : Nat) : Int) from rfl, u64_or_nat _ _ (by omega) (by omega)]
  congr 1
  rw [Nat.mul_comm]
  exact (Nat.two_pow_add_eq_or_of_lt (i := 1) (b := 1) (by decide) q).symm
set_option maxHeartbeats 400000 in
theorem number_any (A : Option Addr) (n c : Nat) (bs : List Bool) (w : World) (B : Nat) (hn : n ≤ 64) (h : Rd w B 1 A n (bs.map Value.bool)) :
    Calls Try.prog 57 #[.slice A n c] w fun e w' => e = .returned (.int .u64 (wordV bs)) ∧ w = w' := by
  have hl : bs.length = n := by have := h.1; simpa using this
  have H := Lib.hid h; clear h
  have HL := Lib.hid hl; clear hl
  go_enter Try.func57, Try.ntmps57
  go_wp2
  go_loop [2, 7] (fun t i => ∃ k : Nat, k ≤ n ∧ i = .int .i64 k ∧ t = .int .u64 (wordV (bs.take k))) (fun _ i => n - (intOf i).toNat)
  case atStart => exact ⟨0, Nat.zero_le _, rfl, rfl⟩
  case round =>
    obtain ⟨k, hk, rfl, rfl⟩ := hrel
    by_cases hlt : k < n
    · obtain ⟨b, off, rfl, hb, hc⟩ := H.out.2 (by omega)
      have hkb : k < bs.length := by rw [HL.out]; exact hlt
      have hcell := hc k (.bool bs[k]) (by simp [hkb])
      have HS := Lib.hid (wordV_snoc (bs.take k) bs[k])
      rw [← take_snoc _ _ hkb] at HS
      have hq := wordV_small bs k n hlt hn
      generalize bs[k] = x at hcell HS
      generalize wordV (bs.take k) = q at HS hq
      clear hc hkb
      have HO := Lib.hid (or_one hq)
      cases x
      all_goals
        go_wp2
        go_round
        case rel => exact ⟨k + 1, by omega, by go_num, by rw [HS.out]; first | (simp; omega) | (rw [HO.out]; simp)⟩
        case measure => simp [intOf]; omega
    · go_wp2
      go_ret
      exact ⟨ret_int (by rw [List.take_of_length_le (by rw [HL.out]; omega)]), rfl⟩
theorem Word_any (A : Option Addr) (n c : Nat) (bs : List Bool) (w : World) (B : Nat) (hn : n ≤ 64) (h : Rd w B 1 A n (bs.map Value.bool)) :
    Calls Try.prog 19 #[.slice A n c] w fun e w' => e = .returned (.tuple #[.int .u64 (wordV bs), .int .i64 0]) ∧ w = w' := by
  have H := Lib.hid h; clear h
  have hn' : ¬ (64 : Int) < (n : Int) := by omega
  go_enter Try.func19, Try.ntmps19
  go_wp2_with (go_at_call 57; refine (number_any _ _ _ bs _ _ hn H.out).mono ?_; rintro e w' ⟨rfl, rfl⟩)
  go_ret2
  exact ⟨rfl, rfl⟩
theorem Word_long (A : Option Addr) (n c : Nat) (w : World) (hn : 64 < n) (hm : n ≤ 1073741824) :
    Calls Try.prog 19 #[.slice A n c] w fun e w' => e = .returned (.tuple #[.int .u64 0, .int .i64 4]) ∧ w = w' := by
  have hn' : (64 : Int) < (n : Int) := by omega
  clear hn
  go_enter Try.func19, Try.ntmps19
  go_wp2
  go_ret2
  exact ⟨rfl, rfl⟩
/-- A store into the last of the cells that have not been filled, from the end on. -/
theorem row_put {wi : World} {h q : Nat} {t : TypeId} {xs : List Value} {z u : Value} (hh : wi.heap[h]? = some (.cells (List.replicate (q + 1) z ++ xs).toArray t (0, 0))) :
    (wi.setCell ⟨h, q, none⟩ u).heap[h]? = some (.cells (List.replicate q z ++ (u :: xs)).toArray t (0, 0)) := by
  simp only [World.setCell, Array.getElem?_modify, hh, if_true, Option.map_some, Option.isSome_none, Bool.false_eq_true, if_false]
  congr 2
  apply Array.ext'
  rw [List.replicate_succ']
  simp
theorem numL_drop (a width q : Nat) (hq : q < width) : (numL a width).drop q = ((a / 2 ^ (width - 1 - q)) % 2 == 1) :: (numL a width).drop (q + 1) := by
  rw [List.drop_eq_getElem_cons (by rw [numL_len]; exact hq)]
  simp [numL]
theorem numL_take (a width q : Nat) (hq : q < width) : (numL a width).take (q + 1) = (numL a width).take q ++ [((a / 2 ^ (width - 1 - q)) % 2 == 1)] := by
  rw [take_snoc _ _ (by rw [numL_len]; exact hq)]
  simp [numL]
theorem odd_cast (b : Nat) : ((b : Int) % 2 == 1) = (b % 2 == 1) := by
  rw [Bool.eq_iff_iff]
  simp
  omega
theorem Number_range (a : Nat) (width : Int) (w : World) (h : width < 0 ∨ 64 < width) :
    Calls Try.prog 20 #[.int .u64 a, .int .i64 width] w fun e w' => e = .returned (.tuple #[.slice none 0 0, .int .i64 3]) ∧ w = w' := by
  by_cases h0 : width < 0
  · clear h
    go_enter Try.func20, Try.ntmps20
    go_wp2
    go_ret2
    exact ⟨rfl, rfl⟩
  · have h1 : 64 < width := by omega
    clear h
    go_enter Try.func20, Try.ntmps20
    go_wp2
    go_ret2
    exact ⟨rfl, rfl⟩
theorem Number_over (a width : Nat) (w : World) (ha : a < 18446744073709551616) (hw : width ≤ 64) (h : ¬ a < 2 ^ width) :
    Calls Try.prog 20 #[.int .u64 a, .int .i64 width] w fun e w' => e = .returned (.tuple #[.slice none 0 0, .int .i64 8]) ∧ w = w' := by
  have h1 : width < 64 := by
    rcases Nat.lt_or_ge width 64 with h1 | h1
    · exact h1
    · exact absurd (Nat.lt_of_lt_of_le ha (Nat.le_trans (by decide : 18446744073709551616 ≤ 2 ^ 64) (Nat.pow_le_pow_right (by omega) h1))) h
  have h2 : ((a : Int) / 2 ^ width != 0) = true := by
    rw [bne_iff_ne, show ((2 : Int) ^ width) = ((2 ^ width : Nat) : Int) by simp, ← Int.natCast_ediv]
    have := (Nat.le_div_iff_mul_le (Nat.two_pow_pos width) (x := 1) (y := a)).2 (by omega)
    omega
  clear h
  go_enter Try.func20, Try.ntmps20
  go_wp2
  go_ret2
  exact ⟨rfl, rfl⟩
theorem mask_one (b : Nat) (hb : b < 18446744073709551616) : (bits BinOp.and IntKind.u64 (b : Int) 1 == 1) = (b % 2 == 1) := by
  rw [show (1 : Int) = ((1 : Nat) : Int) from rfl, u64_and_nat b 1 hb (by omega), nat_mask1, Bool.eq_iff_iff]
  simp
  omega
set_option maxRecDepth 100000 in
set_option maxHeartbeats 400000 in
theorem Number_any (a width : Nat) (w : World) (ha : a < 18446744073709551616) (hw : width ≤ 64) (h : a < 2 ^ width) :
    Calls Try.prog 20 #[.int .u64 a, .int .i64 width] w (RetOwn w 4 1 width ((numL a width).map Value.bool) (fun v => .tuple #[v, .int .i64 0])) := by
  have hmk := fun w => make_bool w width (by omega)
  have h2 : ((a : Int) / 2 ^ width != 0) = false := by
    rw [bne_eq_false_iff_eq, show ((2 : Int) ^ width) = ((2 ^ width : Nat) : Int) by simp, ← Int.natCast_ediv, Nat.div_eq_of_lt h]; rfl
  clear h
  have h3 : (width : Int) < 64 ∨ (64 : Int) ≤ (width : Int) := by omega
  rcases h3 with h3 | h3
  all_goals
    go_enter Try.func20, Try.ntmps20
    go_wp2
    clear hmk
    go_loopw [26] (fun i wr => ∃ k : Nat, k ≤ width ∧ i = .int .i64 k ∧ wr.heap[w.heap.size]? = some (.cells (((numL a width).take k).map Value.bool ++ List.replicate (width - k) (Value.bool false)).toArray 4 (0, 0)) ∧ Below w.heap.size w wr) (fun i _ => width - (intOf i).toNat)
    case atStart => exact ⟨0, Nat.zero_le _, rfl, by simpa using heap_alloc_new w _, (Below.refl _ _).alloc (Nat.le_refl _) _⟩
    case round =>
      obtain ⟨k, hk, rfl, hrow, hbw⟩ := hrel
      have HR := Lib.hid hrow; clear hrow
      by_cases hlt : k < width
      · have h3 : ∃ u, wr.cell? ⟨w.heap.size, k, none⟩ = some u := ⟨_, (cell_of_row _ _ _ _ _ _ HR.out).trans (Array.getElem?_eq_getElem (by simp [numL]; omega))⟩
        obtain ⟨u, h3⟩ := h3
        have h4 : wr.frozen? ⟨w.heap.size, k, none⟩ = false := by simp [World.frozen?, HR.out]
        have HT := Lib.hid (numL_take a width k hlt)
        obtain ⟨s, hs⟩ : ∃ s, s = width - 1 - k := ⟨_, rfl⟩
        have hsi : (width : Int) - 1 - (k : Int) = (s : Int) := by omega
        have hs2 : s < 64 := by omega
        rw [← hs] at HT
        clear hs
        have hd : a / 2 ^ s < 18446744073709551616 := Nat.lt_of_le_of_lt (Nat.div_le_self _ _) ha
        have HE : Hid (((a : Int) / 2 ^ s) = ((a / 2 ^ s : Nat) : Int)) := Lib.hid (by simp)
        have HM := Lib.hid (mask_one (a / 2 ^ s) hd)
        rw [← HE.out] at HM
        go_wp2
        refine ⟨⟨k + 1, by omega, by go_num, ?_, hbw.setCell (p := ⟨w.heap.size, k, none⟩) (Nat.le_refl _) _⟩, by simp [intOf]; omega⟩
        obtain ⟨d, hd⟩ : ∃ d, width - k = d + 1 := ⟨width - k - 1, by omega⟩
        have h5 := HR.out
        rw [hd] at h5
        rw [HT.out, show width - (k + 1) = d by omega, row_fill (j := k) h5 (by simp [numL_len]; omega), HM.out]
        simp
      · go_wp2
        go_ret2
        obtain rfl : k = width := by omega
        have h5 := HR.out
        rw [Nat.sub_self, List.replicate_zero, List.append_nil, List.take_of_length_le (by rw [numL_len]; exact Nat.le_refl _)] at h5
        exact RetOwn.of (mk := fun v => .tuple #[v, .int .i64 0]) (own_of_row h5 (by simp [numL]) (Nat.le_refl _) (by simp [maxLen]; omega)) hbw
end Go.Proofs.Ythmooplhhkafcaa
/- Plain mathematics of AlgebraUniform: how many seeds have a hash. No program is in sight. -/
namespace Go.Proofs.Ythmooplhhkafcaa
def cU (F : Nat → Nat) : Nat → Nat → Nat
  | 0, _ => 0
  | N + 1, j => cU F N j + if F N = j then 1 else 0
/-- The number of the hash of the seed with a number. -/
def hW (a : List Bool) (m s i : Nat) : Nat := wordV (toepL (numL i s) a m a.length)
theorem hW_lt (a : List Bool) (m s i : Nat) : hW a m s i < 2 ^ m := by
  have := wordV_lt (toepL (numL i s) a m a.length)
  rwa [toepL_len] at this
def wantU (a : List Bool) (n s k : Nat) : Nat := if cnt a = 0 then (if k = 0 then 2 ^ s else 0) else 2 ^ (n - 1)
theorem cU_le (F : Nat → Nat) : ∀ N j, cU F N j ≤ N
  | 0, _ => Nat.le_refl _
  | N + 1, j => by have := cU_le F N j; simp only [cU]; split <;> omega
end Go.Proofs.Ythmooplhhkafcaa
/- Plain mathematics of AlgebraHash: the words of a bit string; the program's hash (step by step) is the document's (a sum of words times powers). No program is in sight. -/
namespace Go.Proofs.Ythmooplhhkafcaa
set_option linter.unusedVariables false
/-- The full words of a bit string, and the last one. -/
def chunkL (w : Nat) (m : List Bool) (q : Nat) : List Nat := (List.range q).map fun i => wordV ((m.drop (i * w)).take w)
def tailW (w : Nat) (t : List Bool) : Nat := (2 * wordV t + 1) * 2 ^ (w - 1 - t.length)
def wordsL (w : Nat) (m : List Bool) : List Nat := 1 :: (chunkL w m (m.length / w) ++ [tailW w (m.drop (m.length / w * w))])
theorem chunkL_snoc (w : Nat) (m : List Bool) (q : Nat) : chunkL w m (q + 1) = chunkL w m q ++ [wordV ((m.drop (q * w)).take w)] := by simp [chunkL, List.range_succ]
theorem chunkL_pre (w : Nat) (m : List Bool) {q n : Nat} (h : q ≤ n) : chunkL w m q <+: chunkL w m n := by
  unfold chunkL
  refine List.IsPrefix.map _ ?_
  rw [← Nat.add_sub_of_le h, List.range_add]
  exact ⟨_, rfl⟩
theorem words_pre (w : Nat) (m : List Bool) {q : Nat} (h : q < m.length / w) : (1 :: chunkL w m q) ++ [wordV ((m.drop (q * w)).take w)] <+: wordsL w m := by
  rw [List.cons_append, ← chunkL_snoc]
  obtain ⟨r, hr⟩ := chunkL_pre w m (show q + 1 ≤ m.length / w from h)
  exact ⟨r ++ [tailW w (m.drop (m.length / w * w))], by rw [List.cons_append, ← List.append_assoc, hr]; rfl⟩
theorem wordsL_len (w : Nat) (m : List Bool) : (wordsL w m).length = m.length / w + 2 := by simp [wordsL, chunkL]
theorem tailW_lt {w : Nat} {t : List Bool} (h : t.length < w) : tailW w t < 2 ^ w := by
  unfold tailW
  have h1 := wordV_lt t
  have e : 2 ^ w = 2 * 2 ^ t.length * 2 ^ (w - 1 - t.length) := by
    rw [Nat.mul_assoc, ← Nat.pow_add, ← Nat.pow_succ', show (t.length + (w - 1 - t.length)).succ = w by omega]
  rw [e]
  exact Nat.mul_lt_mul_of_pos_right (by omega) (Nat.two_pow_pos _)
theorem wordsL_lt {w : Nat} (hw : 0 < w) (m : List Bool) : ∀ x ∈ wordsL w m, x < 2 ^ w := by
  intro x hx
  unfold wordsL at hx
  rcases List.mem_cons.1 hx with rfl | hx
  · exact Nat.one_lt_two_pow (by omega)
  · rcases List.mem_append.1 hx with hx | hx
    · obtain ⟨i, _, rfl⟩ := List.mem_map.1 hx
      refine Nat.lt_of_lt_of_le (wordV_lt _) (Nat.pow_le_pow_right (by decide) ?_)
      exact List.length_take_le _ _
    · rw [List.mem_singleton.1 hx]
      refine tailW_lt ?_
      rw [List.length_drop]
      have := Nat.mod_lt m.length hw
      have h2 := Nat.div_add_mod m.length w
      rw [Nat.mul_comm] at h2
      omega
/-- The program's hash of a list of words. -/
def horner (w key : Nat) (xs : List Nat) : Nat := xs.foldl (fun h c => gm w (h ^^^ c) key) 0
theorem horner_snoc (w key : Nat) (xs : List Nat) (c : Nat) : horner w key (xs ++ [c]) = gm w (horner w key xs ^^^ c) key := by simp [horner, List.foldl_append]
/-- The document's hash: from the last word on, each times a power. -/
def sumP (w key : Nat) : List Nat → Nat → Nat
  | [], _ => 0
  | c :: r, p => gm w c p ^^^ sumP w key r (gm w p key)
section
variable {w key : Nat} (hw : IsW w) (hk : key < 2 ^ w)
include hw hk
omit hk in
theorem horner_lt (xs : List Nat) (h : ∀ x ∈ xs, x < 2 ^ w) : horner w key xs < 2 ^ w := by
  suffices ∀ (r : List Nat), (∀ x ∈ r, x < 2 ^ w) → horner w key r.reverse < 2 ^ w by
    have := this xs.reverse (fun x hx => h x (List.mem_reverse.1 hx)); rwa [List.reverse_reverse] at this
  intro r
  induction r with
  | nil => intro _; exact Nat.two_pow_pos _
  | cons c r ih =>
    intro h
    rw [List.reverse_cons, horner_snoc]
    exact gm_lt hw (Nat.xor_lt_two_pow (ih fun x hx => h x (by simp [hx])) (h c (by simp)))
theorem sumP_horner : ∀ (r : List Nat) (t : Nat), t < 2 ^ w → (∀ x ∈ r, x < 2 ^ w) → sumP w key r (gm w key t) = gm w (horner w key r.reverse) t
  | [], t, ht, _ => by simp [sumP, horner, zero_gm hw]
  | c :: r, t, ht, h => by
    have hp : gm w key t < 2 ^ w := gm_lt hw hk
    have hc : c < 2 ^ w := h c (by simp)
    have hr := horner_lt hw (key := key) r.reverse (fun x hx => h x (by simp [List.mem_reverse.1 hx]))
    rw [sumP, gm_comm hw hp hk, sumP_horner r (gm w key t) hp (fun x hx => h x (by simp [hx])), List.reverse_cons, horner_snoc]
    rw [← gm_xor_left hw hc hr, Nat.xor_comm c, ← gm_assoc hw (Nat.xor_lt_two_pow hr hc) hk ht]
theorem hash_eq (xs : List Nat) (h : ∀ x ∈ xs, x < 2 ^ w) : sumP w key xs.reverse key = horner w key xs := by
  have := sumP_horner hw hk xs.reverse 1 (one_lt' hw) (fun x hx => h x (List.mem_reverse.1 hx))
  rw [gm_one hw, gm_one hw, List.reverse_reverse] at this
  exact this
end
/-- The bit string with the document's padding. -/
def padL (w : Nat) (m : List Bool) : List Bool := m ++ [true] ++ List.replicate (w - 1 - m.length % w) false
theorem wordV_rep (l : List Bool) : ∀ k, wordV (l ++ List.replicate k false) = wordV l * 2 ^ k
  | 0 => by simp
  | k + 1 => by
    rw [List.replicate_succ', ← List.append_assoc, wordV_snoc, wordV_rep l k, Nat.pow_succ]
    rw [if_neg (by decide), Nat.add_zero, Nat.mul_comm 2, Nat.mul_assoc]
theorem padL_len {w : Nat} (hw : 0 < w) (m : List Bool) : (padL w m).length = (m.length / w + 1) * w := by
  have h1 := Nat.mod_lt m.length hw
  have h2 := Nat.div_add_mod m.length w
  rw [Nat.mul_comm] at h2
  simp only [padL, List.length_append, List.length_replicate, List.length_cons, List.length_nil, Nat.add_mul]
  omega
/-- The document's words are the program's. -/
theorem pad_words {w : Nat} (hw : 0 < w) (m : List Bool) : 1 :: chunkL w (padL w m) (m.length / w + 1) = wordsL w m := by
  have h1 := Nat.mod_lt m.length hw
  have h2 := Nat.div_add_mod m.length w
  rw [Nat.mul_comm] at h2
  rw [wordsL, chunkL_snoc]
  congr 2
  · unfold chunkL
    apply List.map_congr_left
    intro i hi
    have hi' := List.mem_range.1 hi
    have hle : (i + 1) * w ≤ m.length / w * w := Nat.mul_le_mul_right _ hi'
    rw [Nat.add_mul] at hle
    unfold padL
    rw [List.append_assoc, List.drop_append_of_le_length (by omega), List.take_append_of_le_length (by rw [List.length_drop]; omega)]
  · congr 1
    unfold padL tailW
    rw [List.append_assoc, List.drop_append_of_le_length (by omega), List.take_of_length_le (by simp; omega)]
    have hl : (m.drop (m.length / w * w)).length = m.length % w := by rw [List.length_drop]; omega
    rw [← List.append_assoc, wordV_rep, wordV_snoc, hl]
    simp
end Go.Proofs.Ythmooplhhkafcaa
