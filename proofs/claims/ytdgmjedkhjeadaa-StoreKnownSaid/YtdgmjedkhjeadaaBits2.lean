/- Contracts of the functions that combine bit strings (program and reference). Conditions: xs each statement says. -/
import Derived.Test.YtdgmjedkhjeadaaProg
import Derived.Test.YtdgmjedkhjeadaaTypes
import Derived.Deep.RegionHeld3
import Derived.Deep.AppendLies
namespace Go.Proofs.Ytdgmjedkhjeadaa
open Go.RowKit
def xorL (a b : List Bool) : List Bool := List.zipWith (fun x y => x != y) a b
theorem xorL_snoc {a b : List Bool} (k : Nat) (ha : k < a.length) (hb : k < b.length) : (xorL a b).take (k + 1) = (xorL a b).take k ++ [a[k] != b[k]] := by
  have : k < (xorL a b).length := by simp [xorL]; omega
  rw [take_snoc _ _ this]
  simp [xorL]
theorem xorL_len {a b : List Bool} (h : a.length = b.length) : (xorL a b).length = a.length := by simp [xorL, h]

set_option maxRecDepth 100000 in
set_option maxHeartbeats 1000000 in
theorem refXor_any (A A' : Option Addr) (n c c' : Nat) (xs ys : List Bool) (w : World) (hn : n ≤ 1073741824) (h : Rd w w.heap.size 1 A n (xs.map Value.bool)) (h' : Rd w w.heap.size 1 A' n (ys.map Value.bool)) :
    Calls Try.prog 38 #[.slice A n c, .slice A' n c'] w (RetOwn w 4 1 n ((xorL xs ys).map Value.bool) id) := by
  have hl : xs.length = n := by have := h.1; simpa using this
  have hl' : ys.length = n := by have := h'.1; simpa using this
  have H := Lib.hid h; clear h
  have H' := Lib.hid h'; clear h'
  have HL := Lib.hid hl; clear hl
  have HL' := Lib.hid hl'; clear hl'
  obtain ⟨i0, hi0, hz0, hz1, hz2⟩ := info_parts info_bool
  have HI0 := Lib.hid hi0; have HZ0 := Lib.hid hz0; have HZ1 := Lib.hid hz1; have HZ2 := Lib.hid hz2
  clear hi0 hz0 hz1 hz2
  go_enter Try.func38, Try.ntmps38
  go_wp2
  go_loopw [5, 6] (fun v i wr => ∃ k : Nat, k ≤ n ∧ i = .int .i64 k ∧ wr.ownsRow w.heap.size 4 1 v k (((xorL xs ys).take k).map Value.bool) ∧ Below w.heap.size w wr) (fun _ i _ => n - (intOf i).toNat)
  case atStart => exact ⟨0, Nat.zero_le _, rfl, World.ownsRow_nil _ _ _ _, Below.refl _ _⟩
  case round =>
    obtain ⟨k, hk, rfl, hown, hbw⟩ := hrel
    have hsz := hbw.size
    by_cases hlt : k < n
    · obtain ⟨b, off, rfl, hb, hc⟩ := H.out.2 (by omega)
      obtain ⟨b', off', rfl, hb', hc'⟩ := H'.out.2 (by omega)
      have hka : k < xs.length := by rw [HL.out]; exact hlt
      have hkb : k < ys.length := by rw [HL'.out]; exact hlt
      have h1 : wr.cell? ⟨b, off + k, none⟩ = some (.bool xs[k]) := (hbw.cell (p := ⟨b, off + k, none⟩) hb).trans (hc k _ (by simp [hka]))
      have h2 : wr.cell? ⟨b', off' + k, none⟩ = some (.bool ys[k]) := (hbw.cell (p := ⟨b', off' + k, none⟩) hb').trans (hc' k _ (by simp [hkb]))
      have HS := Lib.hid (xorL_snoc k hka hkb)
      clear hc hc'
      generalize xs[k] = x at h1 HS
      generalize ys[k] = y at h2 HS
      have hki : (k : Int) < (n : Int) := by omega
      clear hka hkb
      go_wp2
      go_region_held3 (fun w' => w'.cell? ⟨b, off + k, none⟩ = some (.bool x) ∧ w'.cell? ⟨b', off' + k, none⟩ = some (.bool y))
        (first
          | go_keep
          | (go_split_ands
             refine ⟨?_, ?_⟩
             · (rw [hgrow.cell_far _ (by simp; omega) (by intro e; exact absurd hb (Nat.not_lt.2 (hown.lt _ e.symm).1))]; assumption)
             · (rw [hgrow.cell_far _ (by simp; omega) (by intro e; exact absurd hb' (Nat.not_lt.2 (hown.lt _ e.symm).1))]; assumption)))
        ((refine step_append_lies _ (by rfl) _ _ _ (by rfl) w.heap.size 4 i0 _ 1 1 Try.underlying33 HI0.out HZ0.out HZ1.out HZ2.out rfl (by omega) _ k _ (by rfl) ((hown.alloc _).drew)
            ⟨wr.heap.size, 0, none⟩ 1 1 [.bool (x != y)] (by rfl) (by rfl) (World.news_of_block (cs := #[.bool (x != y)]) (t := 4) (fr := (0, 0)) (heap_alloc_new wr _)) (by simp [Value.oneCell'])
            (by omega) (by unfold maxLen; omega) (by omega) (by simp; omega) (wr.heap.size + 1) (by simp) ?_; intro gg cap w1 hown1 hgrow hat hlt1))
      go_wp2
      go_roundw
      case rel => exact ⟨k + 1, by omega, by go_num, by rw [HS.out]; simpa using hown1, ((hbw.alloc hsz _).drew).grown hgrow (by simp; omega) (fun g hg => (hown.lt g hg).1)⟩
      case measure => simp [intOf]; omega
    · go_wp2
      go_ret
      obtain rfl : k = n := by omega
      rw [List.take_of_length_le (by rw [xorL_len (by rw [HL.out, HL'.out]), HL.out]; exact Nat.le_refl _)] at hown
      exact RetOwn.of (mk := id) hown hbw
end Go.Proofs.Ytdgmjedkhjeadaa
/- Contracts of kept, Same, Count and zip. Conditions: as each statement says. -/
namespace Go.Proofs.Ytdgmjedkhjeadaa
open Go.RowKit
set_option maxHeartbeats 400000 in
theorem refCount_any (A : Option Addr) (n c : Nat) (bs : List Bool) (w : World) (B : Nat) (hn : n ≤ 9223372036854775807) (h : Rd w B 1 A n (bs.map Value.bool)) :
    Calls Try.prog 15 #[.slice A n c] w fun e w' => e = .returned (.int .i64 (cnt bs)) ∧ w = w' := by
  have hl : bs.length = n := by have := h.1; simpa using this
  have H := Lib.hid h; clear h
  have HL := Lib.hid hl; clear hl
  go_enter Try.func15, Try.ntmps15
  go_wp2
  go_loop [3, 4] (fun t i => ∃ k : Nat, k ≤ n ∧ i = .int .i64 k ∧ t = .int .i64 (cnt (bs.take k))) (fun _ i => n - (intOf i).toNat)
  case atStart => exact ⟨0, Nat.zero_le _, rfl, rfl⟩
  case round =>
    obtain ⟨k, hk, rfl, rfl⟩ := hrel
    have hle := cnt_le (bs.take k)
    have hl : (bs.take k).length ≤ k := List.length_take_le _ _
    by_cases hlt : k < n
    · obtain ⟨b, off, rfl, hb, hc⟩ := H.out.2 (by omega)
      have hcell := hc k (.bool (bs[k]'(by rw [HL.out]; exact hlt))) (by simp [HL.out, hlt])
      have HS := Lib.hid (cnt_snoc (bs.take k) (bs[k]'(by rw [HL.out]; exact hlt)))
      rw [← take_snoc] at HS
      clear hc
      generalize bs[k]'(by rw [HL.out]; exact hlt) = x at hcell HS
      cases x
      all_goals
        go_wp2
        go_round
        case rel => exact ⟨k + 1, by omega, by go_num, by rw [HS.out]; simp⟩
        case measure => simp [intOf]; omega
    · go_wp2
      go_ret
      exact ⟨ret_int (by rw [List.take_of_length_le (by rw [HL.out]; omega)]), rfl⟩
theorem cnt_xor (xs ys : List Bool) (h : xs.length = ys.length) : cnt (xorL xs ys) = 0 ↔ xs = ys := by
  induction xs generalizing ys with
  | nil => cases ys with
    | nil => simp [xorL, cnt]
    | cons y ys => simp at h
  | cons x xs ih => cases ys with
    | nil => simp at h
    | cons y ys =>
      have := ih ys (by simpa using h)
      simp only [xorL, List.zipWith_cons_cons, cnt] at *
      cases x <;> cases y <;> simp_all
/-- Whether two bit strings are equal. -/
def sameB (xs ys : List Bool) : Bool := decide (xs = ys)
theorem Same_any (A A' : Option Addr) (n m c c' : Nat) (xs ys : List Bool) (w : World) (hn : n ≤ 1073741824) (hm : m ≤ 1073741824) (h : Rd w w.heap.size 1 A n (xs.map Value.bool)) (h' : Rd w w.heap.size 1 A' m (ys.map Value.bool)) :
    Calls Try.prog 17 #[.slice A n c, .slice A' m c'] w fun e w' => e = .returned (.bool (sameB xs ys)) ∧ Below w.heap.size w w' := by
  have hl : xs.length = n := by have := h.1; simpa using this
  have hl' : ys.length = m := by have := h'.1; simpa using this
  by_cases hnm : n = m
  · subst hnm
    have HE : Hid (sameB xs ys = ((cnt (xorL xs ys) : Int) == 0)) := Lib.hid (by
      unfold sameB
      rw [Bool.eq_iff_iff]
      simp only [decide_eq_true_eq, beq_iff_eq]
      rw [← cnt_xor xs ys (by omega)]
      omega)
    have H := Lib.hid h; clear h
    have H' := Lib.hid h'; clear h'
    have HL := Lib.hid hl; clear hl
    have HL' := Lib.hid hl'; clear hl'
    go_enter Try.func17, Try.ntmps17
    go_wp2_with fail
    refine (refXor_any _ _ _ _ _ xs ys _ hn H.out H'.out).mono ?_
    rintro e w1 ⟨A2, c2, rfl, hc2, hown, hb⟩
    have HR := Lib.hid (Rd.own hown); clear hown
    dsimp only [id]
    go_wp2_with fail
    refine (refCount_any _ _ _ _ _ _ (by omega) HR.out).mono ?_
    rintro e w2 ⟨rfl, rfl⟩
    go_wp2_with fail
    go_ret
    exact ⟨by rw [HE.out]; rfl, hb⟩
  · have hne : ((n : Int) == (m : Int)) = false := by rw [beq_eq_false_iff_ne]; omega
    have HE : Hid (sameB xs ys = false) := Lib.hid (by
      unfold sameB
      simp only [decide_eq_false_iff_not]
      intro h; rw [h] at hl; omega)
    clear h h' hl hl'
    go_enter Try.func17, Try.ntmps17
    go_wp2
    go_ret
    exact ⟨by rw [HE.out]; rfl, Below.refl _ _⟩
end Go.Proofs.Ytdgmjedkhjeadaa
