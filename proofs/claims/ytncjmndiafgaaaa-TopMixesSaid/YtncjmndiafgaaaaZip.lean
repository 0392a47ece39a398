/- Contracts of kept, zip and Xor. Conditions: as each statement says. -/
import Derived.Test.YtncjmndiafgaaaaBits2
import Derived.Test.YtncjmndiafgaaaaApp
import Derived.Test.YtncjmndiafgaaaaDrawMath
import Derived.Test.YtncjmndiafgaaaaDraw
namespace Go.Proofs.Ytncjmndiafgaaaa
open Go.RowKit
set_option maxHeartbeats 400000 in
theorem zip_differ (A A' : Option Addr) (n c c' : Nat) (xs ys : List Bool) (w : World) (hn : n ≤ 1073741824) (h : Rd w w.heap.size 1 A n (xs.map Value.bool)) (h' : Rd w w.heap.size 1 A' n (ys.map Value.bool)) :
    Calls Try.prog 22 #[.slice A n c, .slice A' n c', .func (.func 23) #[] #[]] w (RetOwn w 4 1 n ((xorL xs ys).map Value.bool) id) := by
  have hl : xs.length = n := by have := h.1; simpa using this
  have hl' : ys.length = n := by have := h'.1; simpa using this
  have H := Lib.hid h; clear h
  have H' := Lib.hid h'; clear h'
  have HL := Lib.hid hl; clear hl
  have HL' := Lib.hid hl'; clear hl'
  have hmk := fun w => make_bool w n (by omega)
  go_enter Try.func22, Try.ntmps22
  go_wp2
  clear hmk
  go_loopw [15] (fun i wr => ∃ k : Nat, k ≤ n ∧ i = .int .i64 k ∧ wr.heap[w.heap.size]? = some (.cells (((xorL xs ys).take k).map Value.bool ++ List.replicate (n - k) (Value.bool false)).toArray 4 (0, 0)) ∧ Below w.heap.size w wr) (fun i _ => n - (intOf i).toNat)
  case atStart => exact ⟨0, Nat.zero_le _, rfl, by simpa using heap_alloc_new w _, (Below.refl _ _).alloc (Nat.le_refl _) _⟩
  case round =>
    obtain ⟨k, hk, rfl, hB, hbw⟩ := hrel
    have HB := Lib.hid hB; clear hB
    by_cases hlt : k < n
    · obtain ⟨b, off, rfl, hb, hc⟩ := H.out.2 (by omega)
      obtain ⟨b', off', rfl, hb', hc'⟩ := H'.out.2 (by omega)
      have hka : k < xs.length := by rw [HL.out]; exact hlt
      have hkb : k < ys.length := by rw [HL'.out]; exact hlt
      have h1 : wr.cell? ⟨b, off + k, none⟩ = some (.bool xs[k]) := (hbw.cell (p := ⟨b, off + k, none⟩) hb).trans (hc k _ (by simp [hka]))
      have h2 : wr.cell? ⟨b', off' + k, none⟩ = some (.bool ys[k]) := (hbw.cell (p := ⟨b', off' + k, none⟩) hb').trans (hc' k _ (by simp [hkb]))
      have hx : (((xorL xs ys).take k).map Value.bool).length = k := by simp [xorL]; omega
      have h3 : ∃ u, wr.cell? ⟨w.heap.size, k, none⟩ = some u := ⟨_, (cell_of_row _ _ _ _ _ _ HB.out).trans (Array.getElem?_eq_getElem (by simp [xorL]; omega))⟩
      obtain ⟨u, h3⟩ := h3
      have h4 : wr.frozen? ⟨w.heap.size, k, none⟩ = false := by simp [World.frozen?, HB.out]
      have HS := Lib.hid (xorL_snoc k hka hkb)
      have HX := Lib.hid hx
      clear hc hc' hx
      generalize xs[k] = x at h1 HS
      generalize ys[k] = y at h2 HS
      clear hka hkb
      go_wp2
      refine ⟨⟨k + 1, by omega, by go_num, ?_, hbw.setCell (p := ⟨w.heap.size, k, none⟩) (Nat.le_refl _) _⟩, by simp [intOf]; omega⟩
      obtain ⟨d, hd⟩ : ∃ d, n - k = d + 1 := ⟨n - k - 1, by omega⟩
      have h5 := HB.out
      rw [hd] at h5
      rw [HS.out, show n - (k + 1) = d by omega, row_fill (j := k) h5 HX.out]
      simp [bne]
    · go_wp2
      go_ret
      obtain rfl : k = n := by omega
      have h5 := HB.out
      rw [Nat.sub_self, List.replicate_zero, List.append_nil, List.take_of_length_le (by rw [xorL_len (by rw [HL.out, HL'.out]), HL.out]; exact Nat.le_refl _)] at h5
      exact RetOwn.of (mk := id) (own_of_row h5 (by simp [xorL, HL.out, HL'.out]) (Nat.le_refl _) (by simp [maxLen]; omega)) hbw
end Go.Proofs.Ytncjmndiafgaaaa
/- Contracts of the Toeplitz hash (program and reference). Conditions: as each statement says. -/
namespace Go.Proofs.Ytncjmndiafgaaaa
open Go.RowKit
theorem ownsRow_base {w : World} {base base' : Nat} {t : TypeId} {sz n : Nat} {v : Value} {xs : List Value} (h : w.ownsRow base t sz v n xs) (hb : base' ≤ base) : w.ownsRow base' t sz v n xs := by
  refine ⟨h.1, ?_⟩
  rcases h.2 with h1 | ⟨g, cap, cur, hv, hg, rest⟩
  · exact .inl h1
  · exact .inr ⟨g, cap, cur, hv, by omega, rest⟩
def ToepRel (w : World) (seed a : List Bool) (out : Nat) (v i : Value) (wr : World) : Prop :=
  ∃ k : Nat, k ≤ a.length ∧ i = .int .i64 k ∧ ∃ A c, v = .slice A out c ∧ out ≤ c ∧ wr.ownsRow w.heap.size 4 1 (.slice A out c) out ((toepL seed a out k).map Value.bool) ∧ Below w.heap.size w wr
set_option maxRecDepth 100000 in
set_option maxHeartbeats 1000000 in
theorem Toeplitz_ok (A A' : Option Addr) (s cs n c out : Nat) (seed a : List Bool) (w : World) (hn : n ≤ 512) (hout : out ≤ 512) (hs : s = n + out - 1) (hcs : s ≤ cs)
    (h : Rd w w.heap.size 1 A s (seed.map Value.bool)) (h' : Rd w w.heap.size 1 A' n (a.map Value.bool)) :
    Calls Try.prog 11 #[.slice A s cs, .slice A' n c, .int .i64 out] w (RetOwn w 4 1 out ((toepL seed a out a.length).map Value.bool) (fun v => .tuple #[v, .int .i64 0])) := by
  have hl : seed.length = s := by have := h.1; simpa using this
  have hl' : a.length = n := by have := h'.1; simpa using this
  have hmax : max 0 ((n : Int) + (out : Int) - 1) = (s : Int) := by omega
  have H := Lib.hid h; clear h
  have H' := Lib.hid h'; clear h'
  have HL := Lib.hid hl; clear hl
  have HL' := Lib.hid hl'; clear hl'
  have HS := Lib.hid hs; clear hs
  have hmk := fun w => make_bool w out (by omega)
  go_enter Try.func11, Try.ntmps11
  go_wp2
  clear hmk hmax
  all_goals
    go_loopw [8, 34] (fun v i wr => ToepRel w seed a out v i wr) (fun _ i _ => n - (intOf i).toNat)
    case atStart =>
      refine ⟨0, Nat.zero_le _, rfl, _, _, rfl, Nat.le_refl _, own_of_row (xs := (toepL seed a out 0).map Value.bool) ?_ (by simp [toepL]) (Nat.le_refl _) (by simp [maxLen]; omega), (Below.refl _ _).alloc (Nat.le_refl _) _⟩
      rw [toepL_zero]
      simpa using heap_alloc_new w _
    case round =>
      obtain ⟨k, hk, rfl, Ah, ch, rfl, hch, hown, hbw⟩ := hrel
      have hsz := hbw.size
      have hkn : k ≤ n := by rw [← HL'.out]; exact hk
      by_cases hlt : k < n
      · obtain ⟨b', off', rfl, hb', hc'⟩ := H'.out.2 (by omega)
        have hka : k < a.length := by rw [HL'.out]; exact hlt
        have h1 : wr.cell? ⟨b', off' + k, none⟩ = some (.bool (a.getD k false)) := (hbw.cell (p := ⟨b', off' + k, none⟩) hb').trans (hc' k _ (by simp [hka]))
        have HK : Hid (k < a.length) := Lib.hid hka
        clear hc' hka hk
        cases hx : a.getD k false with
        | false =>
          rw [hx] at h1
          have HS := Lib.hid (toepL_skip (seed := seed) (out := out) hx)
          clear hx
          go_wp2
          refine ⟨⟨k + 1, HK.out, by go_num, Ah, ch, rfl, hch, by rw [HS.out]; exact hown, hbw⟩, by simp [intOf]; omega⟩
        | true =>
          rw [hx] at h1
          by_cases ho : out = 0
          · subst ho
            clear hx
            go_wp2
            refine ⟨⟨k + 1, HK.out, by go_num, Ah, ch, rfl, hch, hown, hbw⟩, by simp [intOf]; omega⟩
          · have ho' : (0 : Int) < (out : Int) := by omega
            obtain ⟨q, hq⟩ : ∃ q, q = n - 1 - k := ⟨_, rfl⟩
            have hqi : (n : Int) - 1 - (k : Int) = (q : Int) := by omega
            have hqs : q + out ≤ s := by have := HS.out; omega
            obtain ⟨A2, hsl, hrd⟩ := slice_cut (P := Try.prog) (t := 40) (sz := 1) Try.underlying40 Try.sizeOf4 (H.out.below hbw) q (q + out) cs (by omega) hqs hcs
            rw [show q + out - q = out by omega] at hsl hrd
            simp only [Int.natCast_add] at hsl
            have hrd' : Rd wr wr.heap.size 1 A2 out (((seed.drop q).take out).map Value.bool) := (by simpa [List.map_drop, List.map_take] using hrd : Rd wr w.heap.size 1 A2 out (((seed.drop q).take out).map Value.bool)).mono hsz
            have HRD := Lib.hid hrd'
            have HS2 := Lib.hid (toepL_add (seed := seed) (a := a) (out := out) (q := q) HK.out (by rw [HL'.out]; exact hq) (by rw [HL.out]; exact hqs) hx)
            have HRA := Lib.hid (Rd.own hown)
            have HQ := Lib.hid hq
            clear hx hrd hrd' hq
            go_wp2_with fail
            all_goals
              refine (zip_differ _ _ _ _ _ (toepL seed a out k) ((seed.drop q).take out) _ (by omega) HRA.out HRD.out).mono ?_
              rintro e w1 ⟨A3, c3, rfl, hc3, hown3, hb3⟩
              dsimp only [id]
              go_wp2
              refine ⟨⟨k + 1, HK.out, by go_num, A3, c3, rfl, hc3, by rw [HS2.out]; exact ownsRow_base hown3 hsz, hbw.trans (hb3.mono hsz)⟩, by simp [intOf]; omega⟩
      · go_wp2
        go_ret2
        have e : k = a.length := by rw [HL'.out] at hk; have := HL'.out; omega
        rw [← e]
        exact ⟨Ah, ch, rfl, hch, hown, hbw⟩
end Go.Proofs.Ytncjmndiafgaaaa
/- Contracts of the Toeplitz hash: what is refused; the reference's; SeedBits. Conditions: as each statement says. -/
namespace Go.Proofs.Ytncjmndiafgaaaa
open Go.RowKit
def seedB (n out : Int) : Int := if 1 ≤ n + out then n + out - 1 else 0
/-- The error of a Toeplitz hash. -/
def toepE (n s : Nat) (out : Int) : Int := if 512 < n then 4 else if out < 0 ∨ 512 < out then 3 else if (s : Int) ≠ seedB n out then 22 else 0
theorem Toeplitz_bad (A A' : Option Addr) (s cs n c : Nat) (out : Int) (w : World) (hn : n ≤ 1073741824) (he : toepE n s out ≠ 0) :
    Calls Try.prog 11 #[.slice A s cs, .slice A' n c, .int .i64 out] w fun e w' => e = .returned (.tuple #[.slice none 0 0, .int .i64 (toepE n s out)]) ∧ w = w' := by
  by_cases h1 : 512 < n
  · have HE : Hid (toepE n s out = 4) := Lib.hid (by unfold toepE; rw [if_pos h1])
    clear he
    have h1' : (512 : Int) < (n : Int) := by omega
    go_enter Try.func11, Try.ntmps11
    go_wp2
    go_ret2
    exact ⟨by rw [HE.out]; rfl, rfl⟩
  · have h1' : (n : Int) ≤ 512 := by omega
    by_cases h2 : out < 0
    · have HE : Hid (toepE n s out = 3) := Lib.hid (by unfold toepE; rw [if_neg h1, if_pos (.inl h2)])
      clear he
      go_enter Try.func11, Try.ntmps11
      go_wp2
      go_ret2
      exact ⟨by rw [HE.out]; rfl, rfl⟩
    · by_cases h3 : 512 < out
      · have HE : Hid (toepE n s out = 3) := Lib.hid (by unfold toepE; rw [if_neg h1, if_pos (.inr h3)])
        clear he
        go_enter Try.func11, Try.ntmps11
        go_wp2
        go_ret2
        exact ⟨by rw [HE.out]; rfl, rfl⟩
      · have h4 : (s : Int) ≠ seedB n out := by
          intro h4
          apply he
          unfold toepE
          rw [if_neg h1, if_neg (by omega), if_neg (by simpa using h4)]
        have HE : Hid (toepE n s out = 22) := Lib.hid (by unfold toepE; rw [if_neg h1, if_neg (by omega), if_pos h4])
        clear he
        unfold seedB at h4
        by_cases h5 : 1 ≤ (n : Int) + out
        · rw [if_pos h5] at h4
          by_cases h6 : 1 < (n : Int) + out
          · have ht : ((s : Int) != (n : Int) + out - 1) = true := by rw [bne_iff_ne]; exact h4
            clear h4
            go_enter Try.func11, Try.ntmps11
            go_wp2
            go_ret2
            exact ⟨by rw [HE.out]; rfl, rfl⟩
          · have ht : ((s : Int) != 0) = true := by rw [bne_iff_ne]; omega
            clear h4
            go_enter Try.func11, Try.ntmps11
            go_wp2
            go_ret2
            exact ⟨by rw [HE.out]; rfl, rfl⟩
        · rw [if_neg h5] at h4
          have h6 : ¬ 1 < (n : Int) + out := by omega
          have ht : ((s : Int) != 0) = true := by rw [bne_iff_ne]; exact h4
          clear h4
          go_enter Try.func11, Try.ntmps11
          go_wp2
          go_ret2
          exact ⟨by rw [HE.out]; rfl, rfl⟩
end Go.Proofs.Ytncjmndiafgaaaa
/- Contracts of the functions between bits and numbers (program and reference): number, Word, Number. Conditions: as each statement says. -/
namespace Go.Proofs.Ytncjmndiafgaaaa
open Go.RowKit
set_option linter.unusedVariables false
set_option linter.unusedSimpArgs false
def wordV (l : List Bool) : Nat := l.foldl (fun n b => 2 * n + if b then 1 else 0) 0
theorem wordV_snoc (l : List Bool) (b : Bool) : wordV (l ++ [b]) = 2 * wordV l + if b then 1 else 0 := by simp [wordV, List.foldl_append]
theorem wordV_lt (l : List Bool) : wordV l < 2 ^ l.length := by
  suffices h : ∀ (r : List Bool), wordV r.reverse < 2 ^ r.length by have := h l.reverse; simpa using this
  intro r
  induction r with
  | nil => simp [wordV]
  | cons b r ih =>
    rw [List.reverse_cons, wordV_snoc, List.length_cons, Nat.pow_succ]
    split <;> omega
theorem wordV_small (l : List Bool) (k n : Nat) (hk : k < n) (hn : n ≤ 64) : wordV (l.take k) < 9223372036854775808 := by
  refine Nat.lt_of_lt_of_le (wordV_lt _) ?_
  refine Nat.le_trans (Nat.pow_le_pow_right (by omega) (List.length_take_le _ _)) ?_
  exact Nat.le_trans (Nat.pow_le_pow_right (by omega) (show k ≤ 63 by omega)) (by decide)
/-- The bits of a number. -/
def numL (a width : Nat) : List Bool := (List.range width).map fun i => (a / 2 ^ (width - 1 - i)) % 2 == 1
theorem numL_len (a width : Nat) : (numL a width).length = width := by simp [numL]
theorem or_one {q : Nat} (hq : q < 9223372036854775808) : bits BinOp.or IntKind.u64 ((q : Int) * 2) 1 = ((2 * q + 1 : Nat) : Int) := by
  rw [show ((q : Int) * 2) = ((q * 2 : Nat) : Int) by omega, show (1 : Int) = ((1 : Nat) : Int) from rfl, u64_or_nat _ _ (by omega) (by omega)]
  congr 1
  rw [Nat.mul_comm]
  exact (Nat.two_pow_add_eq_or_of_lt (i := 1) (b := 1) (by decide) q).symm
/-- A store into the last of the cells that have not been filled, from the end on. -/
theorem row_put {wi : World} {h q : Nat} {t : TypeId} {xs : List Value} {z u : Value} (hh : wi.heap[h]? = some (.cells (List.replicate (q + 1) z ++ xs).toArray t (0, 0))) :
    (wi.setCell ⟨h, q, none⟩ u).heap[h]? = some (.cells (List.replicate q z ++ (u :: xs)).toArray t (0, 0)) := by
  simp only [World.setCell, Array.getElem?_modify, hh, if_true, Option.map_some, Option.isSome_none, Bool.false_eq_true, if_false]
  congr 2
  apply Array.ext'
  rw [List.replicate_succ']
  simp
theorem numL_drop (a width q : Nat) (hq : q < width) : (numL a width).drop q = ((a / 2 ^ (width - 1 - q)) % 2 == 1) :: (numL a width).drop (q + 1) := by
  rw [List.drop_eq_getElem_cons (by rw [numL_len]; exact hq)]
  simp [numL]
theorem numL_take (a width q : Nat) (hq : q < width) : (numL a width).take (q + 1) = (numL a width).take q ++ [((a / 2 ^ (width - 1 - q)) % 2 == 1)] := by
  rw [take_snoc _ _ (by rw [numL_len]; exact hq)]
  simp [numL]
theorem odd_cast (b : Nat) : ((b : Int) % 2 == 1) = (b % 2 == 1) := by
  rw [Bool.eq_iff_iff]
  simp
  omega
theorem Number_range (a : Nat) (width : Int) (w : World) (h : width < 0 ∨ 64 < width) :
    Calls Try.prog 10 #[.int .u64 a, .int .i64 width] w fun e w' => e = .returned (.tuple #[.slice none 0 0, .int .i64 3]) ∧ w = w' := by
  by_cases h0 : width < 0
  · clear h
    go_enter Try.func10, Try.ntmps10
    go_wp2
    go_ret2
    exact ⟨rfl, rfl⟩
  · have h1 : 64 < width := by omega
    clear h
    go_enter Try.func10, Try.ntmps10
    go_wp2
    go_ret2
    exact ⟨rfl, rfl⟩
theorem Number_over (a width : Nat) (w : World) (ha : a < 18446744073709551616) (hw : width ≤ 64) (h : ¬ a < 2 ^ width) :
    Calls Try.prog 10 #[.int .u64 a, .int .i64 width] w fun e w' => e = .returned (.tuple #[.slice none 0 0, .int .i64 8]) ∧ w = w' := by
  have h1 : width < 64 := by
    rcases Nat.lt_or_ge width 64 with h1 | h1
    · exact h1
    · exact absurd (Nat.lt_of_lt_of_le ha (Nat.le_trans (by decide : 18446744073709551616 ≤ 2 ^ 64) (Nat.pow_le_pow_right (by omega) h1))) h
  have h2 : ((a : Int) / 2 ^ width != 0) = true := by
    rw [bne_iff_ne, show ((2 : Int) ^ width) = ((2 ^ width : Nat) : Int) by simp, ← Int.natCast_ediv]
    have := (Nat.le_div_iff_mul_le (Nat.two_pow_pos width) (x := 1) (y := a)).2 (by omega)
    omega
  clear h
  go_enter Try.func10, Try.ntmps10
  go_wp2
  go_ret2
  exact ⟨rfl, rfl⟩
theorem mask_one (b : Nat) (hb : b < 18446744073709551616) : (bits BinOp.and IntKind.u64 (b : Int) 1 == 1) = (b % 2 == 1) := by
  rw [show (1 : Int) = ((1 : Nat) : Int) from rfl, u64_and_nat b 1 hb (by omega), nat_mask1, Bool.eq_iff_iff]
  simp
  omega
set_option maxRecDepth 100000 in
set_option maxHeartbeats 400000 in
theorem Number_any (a width : Nat) (w : World) (ha : a < 18446744073709551616) (hw : width ≤ 64) (h : a < 2 ^ width) :
    Calls Try.prog 10 #[.int .u64 a, .int .i64 width] w (RetOwn w 4 1 width ((numL a width).map Value.bool) (fun v => .tuple #[v, .int .i64 0])) := by
  have hmk := fun w => make_bool w width (by omega)
  have h2 : ((a : Int) / 2 ^ width != 0) = false := by
    rw [bne_eq_false_iff_eq, show ((2 : Int) ^ width) = ((2 ^ width : Nat) : Int) by simp, ← Int.natCast_ediv, Nat.div_eq_of_lt h]; rfl
  clear h
  have h3 : (width : Int) < 64 ∨ (64 : Int) ≤ (width : Int) := by omega
  rcases h3 with h3 | h3
  all_goals
    go_enter Try.func10, Try.ntmps10
    go_wp2
    clear hmk
    go_loopw [26] (fun i wr => ∃ k : Nat, k ≤ width ∧ i = .int .i64 k ∧ wr.heap[w.heap.size]? = some (.cells (((numL a width).take k).map Value.bool ++ List.replicate (width - k) (Value.bool false)).toArray 4 (0, 0)) ∧ Below w.heap.size w wr) (fun i _ => width - (intOf i).toNat)
    case atStart => exact ⟨0, Nat.zero_le _, rfl, by simpa using heap_alloc_new w _, (Below.refl _ _).alloc (Nat.le_refl _) _⟩
    case round =>
      obtain ⟨k, hk, rfl, hrow, hbw⟩ := hrel
      have HR := Lib.hid hrow; clear hrow
      by_cases hlt : k < width
      · have h3 : ∃ u, wr.cell? ⟨w.heap.size, k, none⟩ = some u := ⟨_, (cell_of_row _ _ _ _ _ _ HR.out).trans (Array.getElem?_eq_getElem (by simp [numL]; omega))⟩
        obtain ⟨u, h3⟩ := h3
        have h4 : wr.frozen? ⟨w.heap.size, k, none⟩ = false := by simp [World.frozen?, HR.out]
        have HT := Lib.hid (numL_take a width k hlt)
        obtain ⟨s, hs⟩ : ∃ s, s = width - 1 - k := ⟨_, rfl⟩
        have hsi : (width : Int) - 1 - (k : Int) = (s : Int) := by omega
        have hs2 : s < 64 := by omega
        rw [← hs] at HT
        clear hs
        have hd : a / 2 ^ s < 18446744073709551616 := Nat.lt_of_le_of_lt (Nat.div_le_self _ _) ha
        have HE : Hid (((a : Int) / 2 ^ s) = ((a / 2 ^ s : Nat) : Int)) := Lib.hid (by simp)
        have HM := Lib.hid (mask_one (a / 2 ^ s) hd)
        rw [← HE.out] at HM
        go_wp2
        refine ⟨⟨k + 1, by omega, by go_num, ?_, hbw.setCell (p := ⟨w.heap.size, k, none⟩) (Nat.le_refl _) _⟩, by simp [intOf]; omega⟩
        obtain ⟨d, hd⟩ : ∃ d, width - k = d + 1 := ⟨width - k - 1, by omega⟩
        have h5 := HR.out
        rw [hd] at h5
        rw [HT.out, show width - (k + 1) = d by omega, row_fill (j := k) h5 (by simp [numL_len]; omega), HM.out]
        simp
      · go_wp2
        go_ret2
        obtain rfl : k = width := by omega
        have h5 := HR.out
        rw [Nat.sub_self, List.replicate_zero, List.append_nil, List.take_of_length_le (by rw [numL_len]; exact Nat.le_refl _)] at h5
        exact RetOwn.of (mk := fun v => .tuple #[v, .int .i64 0]) (own_of_row h5 (by simp [numL]) (Nat.le_refl _) (by simp [maxLen]; omega)) hbw
end Go.Proofs.Ytncjmndiafgaaaa
/- Plain mathematics of AlgebraUniform: how many seeds have a hash. No program is in sight. -/
namespace Go.Proofs.Ytncjmndiafgaaaa
def cU (F : Nat → Nat) : Nat → Nat → Nat
  | 0, _ => 0
  | N + 1, j => cU F N j + if F N = j then 1 else 0
/-- The number of the hash of the seed with a number. -/
def hW (a : List Bool) (m s i : Nat) : Nat := wordV (toepL (numL i s) a m a.length)
theorem hW_lt (a : List Bool) (m s i : Nat) : hW a m s i < 2 ^ m := by
  have := wordV_lt (toepL (numL i s) a m a.length)
  rwa [toepL_len] at this
def wantU (a : List Bool) (n s k : Nat) : Nat := if cnt a = 0 then (if k = 0 then 2 ^ s else 0) else 2 ^ (n - 1)
theorem cU_le (F : Nat → Nat) : ∀ N j, cU F N j ≤ N
  | 0, _ => Nat.le_refl _
  | N + 1, j => by have := cU_le F N j; simp only [cU]; split <;> omega
end Go.Proofs.Ytncjmndiafgaaaa
/- Plain mathematics of AlgebraUniform: each hash has as many seeds as any other. No program is in sight. -/
namespace Go.Proofs.Ytncjmndiafgaaaa
theorem cU_add (F : Nat → Nat) (N j : Nat) : ∀ K, cU F (N + K) j = cU F N j + cU (fun i => F (N + i)) K j
  | 0 => rfl
  | K + 1 => by
    rw [← Nat.add_assoc]
    simp only [cU]
    rw [cU_add F N j K, Nat.add_assoc]
theorem cU_congr {F G : Nat → Nat} {j k : Nat} : ∀ N, (∀ i, i < N → (F i = j ↔ G i = k)) → cU F N j = cU G N k
  | 0, _ => rfl
  | N + 1, h => by
    simp only [cU]
    rw [cU_congr N fun i hi => h i (by omega)]
    have := h N (by omega)
    by_cases e : F N = j
    · rw [if_pos e, if_pos (this.1 e)]
    · rw [if_neg e, if_neg fun h => e (this.2 h)]
theorem xor_eq_iff (x v j : Nat) : x ^^^ v = j ↔ x = j ^^^ v := by
  constructor
  · rintro rfl; rw [Nat.xor_assoc, Nat.xor_self, Nat.xor_zero]
  · rintro rfl; rw [Nat.xor_assoc, Nat.xor_self, Nat.xor_zero]
theorem cU_double {F : Nat → Nat} {t : Nat} (h : ∀ i, i < 2 ^ t → F (2 ^ t + i) = F i ^^^ F (2 ^ t)) (j : Nat) : cU F (2 ^ (t + 1)) j = cU F (2 ^ t) j + cU F (2 ^ t) (j ^^^ F (2 ^ t)) := by
  rw [show 2 ^ (t + 1) = 2 ^ t + 2 ^ t by rw [Nat.pow_succ]; omega, cU_add]
  congr 1
  exact cU_congr _ fun i hi => by rw [h i hi]; exact xor_eq_iff _ _ _
theorem wordV_bit (l : List Bool) : ∀ u, (wordV l).testBit u = (decide (u < l.length) && l.getD (l.length - 1 - u) false) := by
  suffices h : ∀ (r : List Bool) u, (wordV r.reverse).testBit u = (decide (u < r.length) && r.getD u false) by
    intro u
    have := h l.reverse u
    rw [List.reverse_reverse, List.length_reverse] at this
    rw [this]
    by_cases hu : u < l.length
    · simp only [hu, decide_true, Bool.true_and, List.getD_eq_getElem?_getD]
      rw [List.getElem?_reverse hu]
    · simp [hu]
  intro r
  induction r with
  | nil => intro u; simp [wordV]
  | cons b r ih =>
    intro u
    rw [List.reverse_cons, wordV_snoc]
    cases u with
    | zero => cases b <;> simp [Nat.testBit_zero] <;> omega
    | succ u =>
      rw [Nat.testBit_succ, show (2 * wordV r.reverse + if b = true then 1 else 0) / 2 = wordV r.reverse by split <;> omega, ih u]
      simp
theorem numL_getD (i s p : Nat) (hp : p < s) : (numL i s).getD p false = i.testBit (s - 1 - p) := by
  rw [List.getD_eq_getElem?_getD, Nat.testBit_eq_decide_div_mod_eq]
  simp [numL, hp]
  rw [Bool.eq_iff_iff]; simp
theorem hW_bit (a : List Bool) (m s i u : Nat) : (hW a m s i).testBit u = (decide (u < m) && tb (numL i s) a a.length (m - 1 - u) a.length) := by
  unfold hW
  rw [wordV_bit, toepL_len]
  by_cases hu : u < m
  · simp only [hu, decide_true, Bool.true_and, List.getD_eq_getElem?_getD]
    rw [List.getElem?_eq_getElem (by rw [toepL_len]; omega)]
    simp [toepL]
  · simp [hu]
theorem tb_seed (x y z a : List Bool) (n i : Nat) : ∀ k, k ≤ n → (∀ p, p < i + n → z.getD p false = (x.getD p false != y.getD p false)) → tb z a n i k = (tb x a n i k != tb y a n i k)
  | 0, _, _ => rfl
  | k + 1, hk, h => by
    simp only [tb]
    rw [tb_seed x y z a n i k (by omega) h, h (i + (n - 1 - k)) (by omega)]
    cases tb x a n i k <;> cases tb y a n i k <;> cases a.getD k false <;> cases x.getD (i + (n - 1 - k)) false <;> cases y.getD (i + (n - 1 - k)) false <;> rfl
theorem pow_add_bit (t i q : Nat) (hi : i < 2 ^ t) : (2 ^ t + i).testBit q = (i.testBit q != (2 ^ t).testBit q) := by
  have e := Nat.two_pow_add_eq_or_of_lt hi 1
  rw [Nat.mul_one] at e
  rw [e, Nat.testBit_or, Nat.testBit_two_pow]
  by_cases h : t = q
  · subst h
    rw [Nat.testBit_lt_two_pow hi]; simp
  · simp [h]
theorem hW_add (a : List Bool) (m s t i : Nat) (hm : m ≠ 0) (hs : s = a.length + m - 1) (hi : i < 2 ^ t) : hW a m s (2 ^ t + i) = hW a m s i ^^^ hW a m s (2 ^ t) := by
  apply Nat.eq_of_testBit_eq
  intro u
  rw [Nat.testBit_xor, hW_bit, hW_bit, hW_bit]
  by_cases hu : u < m
  · simp only [hu, decide_true, Bool.true_and]
    exact tb_seed _ _ _ a a.length (m - 1 - u) a.length (Nat.le_refl _) fun p hp => by
      rw [numL_getD _ _ _ (by omega), numL_getD _ _ _ (by omega), numL_getD _ _ _ (by omega)]
      exact pow_add_bit t i _ hi
  · simp [hu]
/-- A seed with one bit: the hash shows one bit of a. -/
theorem tb_one (a seed : List Bool) (n i c : Nat) (h : ∀ p, p < i + n → seed.getD p false = decide (p = c)) : ∀ k, k ≤ n → tb seed a n i k = (decide (i ≤ c ∧ c - i < n ∧ n - 1 - (c - i) < k) && a.getD (n - 1 - (c - i)) false)
  | 0, _ => by simp [tb]
  | k + 1, hk => by
    simp only [tb]
    rw [tb_one a seed n i c h k (by omega), h (i + (n - 1 - k)) (by omega)]
    by_cases e : i + (n - 1 - k) = c
    · have e1 : n - 1 - (c - i) = k := by omega
      have e2 : i ≤ c ∧ c - i < n := by omega
      simp [e, e1, e2]
    · by_cases e3 : i ≤ c ∧ c - i < n ∧ n - 1 - (c - i) < k
      · have e4 : i ≤ c ∧ c - i < n ∧ n - 1 - (c - i) < k + 1 := by omega
        simp [e, e3, e4]
      · have e4 : ¬ (i ≤ c ∧ c - i < n ∧ n - 1 - (c - i) < k + 1) := by omega
        simp [e, e3, e4]
theorem hW_one (a : List Bool) (m s t u : Nat) (hm : m ≠ 0) (hs : s = a.length + m - 1) (ht : t < s) : (hW a m s (2 ^ t)).testBit u = (decide (u < m ∧ u ≤ t) && a.getD (t - u) false) := by
  rw [hW_bit]
  by_cases hu : u < m
  · rw [tb_one a _ a.length (m - 1 - u) (s - 1 - t) (fun p hp => by
      rw [numL_getD _ _ _ (by omega), Nat.testBit_two_pow]
      rw [Bool.eq_iff_iff]; simp; omega) a.length (Nat.le_refl _)]
    simp only [hu, decide_true, Bool.true_and]
    by_cases h1 : u ≤ t ∧ t - u < a.length
    · have e : a.length - 1 - (s - 1 - t - (m - 1 - u)) = t - u := by omega
      rw [e]
      congr 1
      rw [Bool.eq_iff_iff]; simp; omega
    · have e1 : decide (m - 1 - u ≤ s - 1 - t ∧ s - 1 - t - (m - 1 - u) < a.length ∧ a.length - 1 - (s - 1 - t - (m - 1 - u)) < a.length) = false := by
        rw [decide_eq_false_iff_not]; omega
      rw [e1]
      by_cases h2 : u ≤ t
      · have h3 : a.getD (t - u) false = false := by
          rw [List.getD_eq_getElem?_getD, List.getElem?_eq_none (by omega)]; rfl
        rw [h3]; simp
      · simp [h2]
  · simp [hu]
end Go.Proofs.Ytncjmndiafgaaaa
/- Plain mathematics of AlgebraUniform, second part: the count. No program is in sight. -/
namespace Go.Proofs.Ytncjmndiafgaaaa
theorem cU_const {F : Nat → Nat} {c j : Nat} : ∀ N, (∀ i, i < N → F i = c) → cU F N j = if c = j then N else 0
  | 0, _ => by simp [cU]
  | N + 1, h => by
    simp only [cU]
    rw [cU_const N fun i hi => h i (by omega), h N (by omega)]
    split <;> omega
theorem tb_none (seed a : List Bool) (n i : Nat) (h : ∀ k, a.getD k false = false) : ∀ k, tb seed a n i k = false
  | 0 => rfl
  | k + 1 => by
    simp only [tb]
    rw [tb_none seed a n i h k, h k]
    rfl
theorem cnt_zero {a : List Bool} (h : cnt a = 0) (k : Nat) : a.getD k false = false := by
  unfold cnt at h
  have h1 : a.filter id = [] := List.eq_nil_of_length_eq_zero h
  rw [List.filter_eq_nil_iff] at h1
  rw [List.getD_eq_getElem?_getD]
  cases hk : a[k]? with
  | none => rfl
  | some b =>
    have := h1 b (List.mem_of_getElem? hk)
    cases b <;> simp_all
theorem cnt_some {a : List Bool} (h : cnt a ≠ 0) : ∃ k, a.getD k false = true := by
  apply Classical.byContradiction
  intro hn
  apply h
  unfold cnt
  rw [List.length_eq_zero_iff, List.filter_eq_nil_iff]
  intro x hx hxt
  obtain ⟨k, hk⟩ := List.getElem?_of_mem hx
  apply hn
  refine ⟨k, ?_⟩
  rw [List.getD_eq_getElem?_getD, hk]
  simpa using hxt
theorem least {p : Nat → Bool} : ∀ k, p k = true → ∃ k1, k1 ≤ k ∧ p k1 = true ∧ ∀ i, i < k1 → p i = false := by
  intro k
  induction k using Nat.strongRecOn with
  | _ k ih =>
    intro h
    by_cases hx : ∃ i, i < k ∧ p i = true
    · obtain ⟨i, hi, hp⟩ := hx
      obtain ⟨k1, h1, h2, h3⟩ := ih i hi hp
      exact ⟨k1, by omega, h2, h3⟩
    · refine ⟨k, Nat.le_refl _, h, fun i hi => ?_⟩
      cases hb : p i with
      | false => rfl
      | true => exact absurd ⟨i, hi, hb⟩ hx
theorem uni_law (a : List Bool) (n m s j : Nat) (hl : a.length = n) (hn : 1 ≤ n) (hs : s = n + m - 1) (hj : j < 2 ^ m) : cU (hW a m s) (2 ^ s) j = wantU a n s j := by
  unfold wantU
  by_cases h0 : cnt a = 0
  · rw [if_pos h0]
    have hz : ∀ i, hW a m s i = 0 := fun i => by
      apply Nat.eq_of_testBit_eq
      intro u
      rw [hW_bit, tb_none _ _ _ _ (cnt_zero h0)]
      simp
    rw [cU_const (c := 0) _ fun i _ => hz i]
    by_cases e : j = 0
    · rw [if_pos e.symm, if_pos e]
    · rw [if_neg (Ne.symm e), if_neg e]
  · rw [if_neg h0]
    by_cases hm : m = 0
    · subst hm
      have hz : ∀ i, hW a 0 s i = 0 := fun i => by have := hW_lt a 0 s i; omega
      rw [cU_const (c := 0) _ fun i _ => hz i, if_pos (by omega), hs, Nat.add_zero]
    · obtain ⟨k0, hk0⟩ := cnt_some h0
      obtain ⟨k1, _, hk1, hlow⟩ := least (p := fun k => a.getD k false) k0 hk0
      try simp only at hk1 hlow
      have hkn : k1 < n := by
        apply Classical.byContradiction
        intro hge
        rw [List.getD_eq_getElem?_getD, List.getElem?_eq_none (by omega)] at hk1
        cases hk1
      have hsl : s = a.length + m - 1 := by rw [hl]; exact hs
      generalize hF : hW a m s = F
      have hadd : ∀ t i, i < 2 ^ t → F (2 ^ t + i) = F i ^^^ F (2 ^ t) := fun t i hi => by rw [← hF]; exact hW_add a m s t i hm hsl hi
      have hone : ∀ t u, t < s → (F (2 ^ t)).testBit u = (decide (u < m ∧ u ≤ t) && a.getD (t - u) false) := fun t u ht => by rw [← hF]; exact hW_one a m s t u hm hsl ht
      have hlt : ∀ i, F i < 2 ^ m := fun i => by rw [← hF]; exact hW_lt a m s i
      have hzero : F 0 = 0 := by
        have h := hadd 0 0 (by decide)
        rw [Nat.add_zero] at h
        have h2 : F 0 = F (2 ^ 0) ^^^ F (2 ^ 0) := by
          have := (xor_eq_iff (F 0) (F (2 ^ 0)) (F (2 ^ 0))).1 h.symm
          exact this
        rwa [Nat.xor_self] at h2
      -- the bits below the least one of a
      have stA : ∀ t, t ≤ k1 → ∀ j, cU F (2 ^ t) j = if j = 0 then 2 ^ t else 0 := by
        intro t
        induction t with
        | zero =>
          intro _ j
          simp only [Nat.pow_zero, cU, hzero]
          by_cases e : j = 0
          · subst e; simp
          · rw [if_neg (Ne.symm e), if_neg e]
        | succ t ih =>
          intro ht j
          have hv : F (2 ^ t) = 0 := by
            apply Nat.eq_of_testBit_eq
            intro u
            rw [hone t u (by omega), hlow (t - u) (by omega)]
            simp
          rw [cU_double (hadd t), hv, Nat.xor_zero, ih (by omega) j, Nat.pow_succ]
          split <;> omega
      -- the next m bits: one new bit of the hash each
      have stB : ∀ r, r ≤ m → ∀ j, cU F (2 ^ (k1 + r)) j = if j < 2 ^ r then 2 ^ k1 else 0 := by
        intro r
        induction r with
        | zero =>
          intro _ j
          rw [Nat.add_zero, stA k1 (Nat.le_refl _) j, Nat.pow_zero]
          by_cases e : j = 0
          · rw [if_pos e, if_pos (by omega)]
          · rw [if_neg e, if_neg (by omega)]
        | succ r ih =>
          intro hr j
          have hb : (F (2 ^ (k1 + r))).testBit r = true := by
            rw [hone (k1 + r) r (by omega), show k1 + r - r = k1 by omega, hk1]
            simp; omega
          have hge : 2 ^ r ≤ F (2 ^ (k1 + r)) := Nat.ge_two_pow_of_testBit hb
          have hlt2 : F (2 ^ (k1 + r)) < 2 ^ (r + 1) := by
            apply Nat.lt_pow_two_of_testBit
            intro u hu
            rw [hone (k1 + r) u (by omega)]
            by_cases h1 : u ≤ k1 + r
            · rw [hlow (k1 + r - u) (by omega)]; simp
            · simp [h1]
          have e2 : 2 ^ (r + 1) = 2 ^ r * 2 := Nat.pow_succ ..
          rw [show k1 + (r + 1) = (k1 + r) + 1 by omega, cU_double (hadd (k1 + r)), ih (by omega) j, ih (by omega)]
          generalize F (2 ^ (k1 + r)) = v at hge hlt2
          by_cases c1 : j < 2 ^ r
          · have c2 : ¬ j ^^^ v < 2 ^ r := fun h => by
              have h3 := xor_lt c1 h
              rw [← Nat.xor_assoc, Nat.xor_self, Nat.zero_xor] at h3
              omega
            rw [if_pos c1, if_neg c2, if_pos (by omega), Nat.add_zero]
          · by_cases c3 : j < 2 ^ (r + 1)
            · have c2 : j ^^^ v < 2 ^ r := top_clear (by omega) (by omega) (by omega) hge
              rw [if_neg c1, if_pos c2, if_pos c3]; omega
            · have c2 : ¬ j ^^^ v < 2 ^ (r + 1) := fun h => by
                have h3 := xor_lt h hlt2
                rw [Nat.xor_assoc, Nat.xor_self, Nat.xor_zero] at h3
                omega
              rw [if_neg c1, if_neg (by omega), if_neg c3]
      -- the rest doubles
      have stC : ∀ d, k1 + m + d ≤ s → ∀ j, j < 2 ^ m → cU F (2 ^ (k1 + m + d)) j = 2 ^ (k1 + d) := by
        intro d
        induction d with
        | zero => intro _ j hj; rw [Nat.add_zero, stB m (Nat.le_refl _) j, if_pos hj, Nat.add_zero]
        | succ d ih =>
          intro hd j hj
          rw [show k1 + m + (d + 1) = (k1 + m + d) + 1 by omega, cU_double (hadd _), ih (by omega) j hj, ih (by omega) _ (xor_lt hj (hlt _)), show k1 + (d + 1) = (k1 + d) + 1 by omega, Nat.pow_succ]
          omega
      have h := stC (n - 1 - k1) (by omega) j hj
      rw [show k1 + m + (n - 1 - k1) = s by omega, show k1 + (n - 1 - k1) = n - 1 by omega] at h
      exact h
end Go.Proofs.Ytncjmndiafgaaaa
/- How many seeds do not tell two strings apart. Conditions: as each statement says. -/
namespace Go.Proofs.Ytncjmndiafgaaaa
set_option linter.unusedVariables false
theorem toepL_xor2 (seed a b : List Bool) (o n : Nat) (ha : a.length = n) (hb : b.length = n) : toepL seed (xorL a b) o (xorL a b).length = xorL (toepL seed a o a.length) (toepL seed b o b.length) := by
  apply List.ext_getElem
  · simp [toepL, xorL]
  · intro i h1 h2
    have hx : (xorL a b).length = n := by rw [xorL_len (by omega), ha]
    simp only [toepL, xorL, List.getElem_map, List.getElem_range, List.getElem_zipWith]
    have hx' : (List.zipWith (fun x y => x != y) a b).length = n := hx
    rw [hx', tb_xor seed a b n i n (by omega) (by omega), ha, hb]
theorem xorL_getD {a b : List Bool} (h : a.length = b.length) (k : Nat) : (xorL a b).getD k false = (a.getD k false != b.getD k false) := by
  simp only [List.getD_eq_getElem?_getD]
  by_cases hk : k < a.length
  · rw [List.getElem?_eq_getElem (by rw [xorL_len h]; exact hk), List.getElem?_eq_getElem hk, List.getElem?_eq_getElem (by omega)]
    simp [xorL]
  · rw [List.getElem?_eq_none (by rw [xorL_len h]; omega), List.getElem?_eq_none (by omega), List.getElem?_eq_none (by omega)]; rfl
theorem wordV_none {l : List Bool} (h : wordV l = 0) (k : Nat) : l.getD k false = false := by
  by_cases hk : k < l.length
  · have h2 := wordV_bit l (l.length - 1 - k)
    rw [h, Nat.zero_testBit, show l.length - 1 - (l.length - 1 - k) = k by omega] at h2
    rw [show decide (l.length - 1 - k < l.length) = true from decide_eq_true (by omega), Bool.true_and] at h2
    exact h2.symm
  · rw [List.getD_eq_getElem?_getD, List.getElem?_eq_none (by omega)]; rfl
theorem wordV_all {l : List Bool} (h : ∀ k, l.getD k false = false) : wordV l = 0 := by
  apply Nat.eq_of_testBit_eq
  intro u
  rw [wordV_bit, h]; simp
theorem getD_same {a b : List Bool} (hl : a.length = b.length) (h : ∀ k, a.getD k false = b.getD k false) : a = b := by
  apply List.ext_getElem hl
  intro i h1 h2
  have := h i
  rw [List.getD_eq_getElem?_getD, List.getD_eq_getElem?_getD, List.getElem?_eq_getElem h1, List.getElem?_eq_getElem h2] at this
  exact this
theorem word_xor {a b : List Bool} (hl : a.length = b.length) : wordV (xorL a b) = 0 ↔ a = b := by
  constructor
  · intro h
    refine getD_same hl (fun k => ?_)
    have h2 := wordV_none h k
    rw [xorL_getD hl] at h2
    simpa using h2
  · rintro rfl
    refine wordV_all (fun k => ?_)
    rw [xorL_getD rfl]; simp
theorem mix_step (x y : List Bool) (k s i : Nat) (hl : x.length = y.length) : hW (xorL x y) k s i = 0 ↔ toepL (numL i s) x k x.length = toepL (numL i s) y k y.length := by
  unfold hW
  rw [toepL_xor2 (numL i s) x y k x.length rfl hl.symm]
  exact word_xor (by rw [toepL_len, toepL_len])
theorem mix_law (x y : List Bool) (n k s : Nat) (hx : x.length = n) (hy : y.length = n) (hn : 1 ≤ n) (hs : s = n + k - 1) : cU (hW (xorL x y) k s) (2 ^ s) 0 = if x = y then 2 ^ s else 2 ^ (s - k) := by
  rw [uni_law (xorL x y) n k s 0 (by rw [xorL_len (by omega), hx]) hn hs (Nat.pow_pos (by decide))]
  unfold wantU
  by_cases h : x = y
  · subst h
    have h0 : cnt (xorL x x) = 0 := by
      apply Classical.byContradiction
      intro h1
      obtain ⟨k, hk⟩ := cnt_some h1
      rw [xorL_getD rfl] at hk
      simp at hk
    rw [if_pos h0, if_pos rfl, if_pos rfl]
  · have h0 : cnt (xorL x y) ≠ 0 := by
      intro h1
      refine h (getD_same (by omega) (fun k => ?_))
      have h2 := cnt_zero h1 k
      rw [xorL_getD (by omega)] at h2
      simpa using h2
    rw [if_neg h0, if_neg h, show n - 1 = s - k by omega]
#print axioms mix_law
#print axioms mix_step
end Go.Proofs.Ytncjmndiafgaaaa
