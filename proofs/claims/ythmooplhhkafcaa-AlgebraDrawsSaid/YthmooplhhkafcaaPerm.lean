/- Contracts of bits that are drawn (the program's and the reference's), of the reference's Next and Below. Conditions: as each statement says. -/
import Derived.Test.YthmooplhhkafcaaDraws2
import Derived.Test.YthmooplhhkafcaaPermMath
import Derived.Test.YthmooplhhkafcaaApp
namespace Go.Proofs.Ythmooplhhkafcaa
open Go.RowKit
set_option linter.unusedVariables false
theorem Upd.mono {w w' : World} {B B' b s : Nat} (h : Upd B b s w w') (hB : B' ≤ B) : Upd B' b s w w' := Below.mono h hB
theorem setCell_set {w : World} {p : Addr} {u v : Value} : ((w.setCell p u).setCell p v) = w.setCell p v := by
  unfold World.setCell
  congr 1
  apply Array.ext_getElem?
  intro k
  rw [Array.getElem?_modify, Array.getElem?_modify, Array.getElem?_modify]
  split
  · cases w.heap[k]? with
    | none => rfl
    | some o =>
      simp only [Option.map_some, Option.some.injEq]
      cases o <;> try rfl
      rename_i c t fz
      simp only [Obj.cells.injEq, and_true]
      split
      · rfl
      · apply Array.ext_getElem?
        intro i
        rw [Array.getElem?_setIfInBounds, Array.getElem?_setIfInBounds, Array.getElem?_setIfInBounds]
        simp only [Array.size_setIfInBounds]
        split <;> simp_all
  · rfl
theorem Below.setBoth {a w : World} {B : Nat} (h : Below B a w) (p : Addr) (u : Value) : Below B (a.setCell p u) (w.setCell p u) := by
  refine ⟨h.os, h.tape, h.output, by rw [size_setCell, size_setCell]; exact h.size, fun k hk => ?_⟩
  have := h.block k hk
  simp only [World.setCell, Array.getElem?_modify, this]
theorem Upd.trans {a w w' : World} {B b s s' : Nat} (h : Upd B b s a w) (k : Upd B b s' w w') : Upd B b s' a w' := by
  have h1 := Below.setBoth h ⟨b, 0, none⟩ (.int .u64 s')
  rw [setCell_set] at h1
  exact Below.trans h1 k
theorem Upd.below {a w w' : World} {B b s : Nat} (h : Upd B b s a w) (k : Below B w w') : Upd B b s a w' := Below.trans h k
theorem Upd.bel0 {a w w' : World} {B b s : Nat} (h : Below B a w) (k : Upd B b s w w') : Upd B b s a w' := Below.trans (Below.setBoth h _ _) k
/-- What is but the draws' state and new memory changes nothing below the draws. -/
theorem Upd.to {a w : World} {B b s B0 : Nat} (h : Upd B b s a w) (h0 : B0 ≤ b) (hB : B0 ≤ B) : Below B0 a w := (((Below.refl B0 a).setCell (p := ⟨b, 0, none⟩) h0 _)).trans (Below.mono h hB)
theorem ownsRow_upd {w w' : World} {base b s : Nat} {t : TypeId} {sz n : Nat} {v : Value} {xs : List Value} (h : w.ownsRow base t sz v n xs) (hu : Upd w.heap.size b s w w') (hb : b < base) : w'.ownsRow base t sz v n xs := by
  refine ⟨h.1, ?_⟩
  rcases h.2 with h1 | ⟨g, cap, cur, hv, hg, hh, rest⟩
  · exact .inl h1
  · refine .inr ⟨g, cap, cur, hv, hg, ?_, rest⟩
    rw [hu.heap (Array.getElem?_eq_some_iff.1 hh).1 (by omega)]; exact hh
theorem refNext_any (s : Nat) (w : World) (hs : s < two64) :
    Calls Try.prog 40 #[.int .u64 s] w fun e w' => e = .returned (.tuple #[.int .u64 (nextS s), .int .u64 (nextY s)]) ∧ Qw w w' := by
  have hS := wrapS s
  have hX := wrapX (nextS_lt s)
  have hY := wrapY (nextX_lt (nextS s))
  rw [Int.mul_comm] at hS
  rw [Int.mul_comm] at hX
  have q1 : IntKind.u64.wrap ((nextS s : Int) / 4294967296) = (nextS s : Int) / 4294967296 := by
    have := nextS_lt s; unfold two64 at this; rw [IntKind.wrap_u64]; omega
  have q2 : IntKind.u64.wrap ((nextX (nextS s) : Int) / 536870912) = (nextX (nextS s) : Int) / 536870912 := by
    have := nextX_lt (nextS s); unfold two64 at this; rw [IntKind.wrap_u64]; omega
  have HY := Lib.hid (show outY (nextX (nextS s)) = nextY s from rfl)
  generalize ht : nextS s = t at hS hX hY HY q1 q2
  have HT := Lib.hid ht; clear ht
  generalize nextX t = x at hX hY HY q2
  generalize outY x = y at hY HY
  go_enter Try.func40, Try.ntmps40
  go_wp2
  go_ret2
  refine ⟨?_, Qw.refl _⟩
  rw [← HY.out]
  rfl
theorem refBelow_any (s n : Nat) (w : World) (hs : s < two64) (hn : 1 ≤ n) (hn' : n ≤ 9223372036854775807) :
    Calls Try.prog 73 #[.int .u64 s, .int .i64 n] w fun e w' => e = .returned (.tuple #[.int .u64 (nextS s), .int .i64 (nextY s % n : Nat)]) ∧ Qw w w' := by
  have hY : nextY s < two64 := outY_lt (nextX_lt _)
  have hn0 : (1 : Int) ≤ (n : Int) := by omega
  have HS := Lib.hid hs; clear hs
  go_enter Try.func73, Try.ntmps73
  go_wp2_with fail
  refine (refNext_any s _ HS.out).mono ?_
  rintro e w1 ⟨rfl, d, rfl⟩
  unfold two64 at hY
  generalize hyy : nextY s = y at hY
  have HYY := Lib.hid hyy; clear hyy
  have hm : y % n < n := Nat.mod_lt _ (by omega)
  go_wp2_with fail
  go_quiet (fail)
  go_wp2
  go_ret2
  refine ⟨?_, ((Qw.refl w).drewN d).drewN nq⟩
  rw [HYY.out]; simp
/-- The same, the results under names of their own (the kernel must not unfold them). -/
theorem refBelow_ex (s n : Nat) (w : World) (hs : s < two64) (hn : 1 ≤ n) (hn' : n ≤ 9223372036854775807) :
    Calls Try.prog 73 #[.int .u64 s, .int .i64 n] w fun e w' => ∃ s2 j : Nat, s2 = nextS s ∧ j = nextY s % n ∧ e = .returned (.tuple #[.int .u64 s2, .int .i64 j]) ∧ Qw w w' :=
  (refBelow_any s n w hs hn hn').mono fun _ _ ⟨he, hq⟩ => ⟨_, _, rfl, rfl, he, hq⟩
theorem fill_get {α : Type} (xs : List α) (z : α) (k n : Nat) (hl : xs.length = k) (h : k < n) : (xs ++ List.replicate (n - k) z)[k]? = some z := by
  rw [List.getElem?_append_right (by omega), hl, Nat.sub_self, List.getElem?_replicate, if_pos (by omega)]
theorem fill_set {α : Type} (xs : List α) (z u : α) (k n : Nat) (hl : xs.length = k) (h : k < n) : (xs ++ List.replicate (n - k) z).set k u = (xs ++ [u]) ++ List.replicate (n - (k + 1)) z := by
  rw [List.set_append_right _ _ (by omega), hl, Nat.sub_self, show n - k = (n - (k + 1)) + 1 by omega, List.replicate_succ]
  simp
theorem bit_odd (y : Nat) : ((y : Int) % 2 == 1) = (y % 2 == 1) := by rw [Bool.eq_iff_iff]; simp; omega
theorem mask_odd {y : Nat} (h : y < two64) : (bits BinOp.and IntKind.u64 (y : Int) 1 == 1) = (y % 2 == 1) := by
  rw [show (1 : Int) = ((1 : Nat) : Int) from rfl, u64_and_nat y 1 h (by decide), Nat.and_one_is_mod, Bool.eq_iff_iff]
  simp; omega
set_option maxHeartbeats 400000 in
theorem Bits_any (b s n : Nat) (w : World) (hd : DrawAt w b s) (hn : n ≤ 65536) :
    Calls Try.prog 38 #[.pointer (some ⟨b, 0, none⟩), .int .i64 n] w fun e w' => ∃ A c, e = .returned (.tuple #[.slice A n c, .int .i64 0]) ∧ w'.ownsRow w.heap.size 4 1 (.slice A n c) n ((bitsD n s).map Value.bool) ∧ Upd w.heap.size b (stN n s) w w' := by
  have hmk := fun w => make_bool w n (by omega)
  have hlt := hd.lt
  have HD := Lib.hid hd; clear hd
  go_enter Try.func38, Try.ntmps38
  go_wp2_with fail
  refine (size_in b s n _ HD.out (by omega) (by omega)).mono ?_
  rintro e w' ⟨rfl, rfl⟩
  go_wp2_with fail
  go_loopw [19, 8] (fun i _ wr => ∃ k : Nat, k ≤ n ∧ i = .int .i64 k ∧ Upd w.heap.size b (stN k s) w wr ∧ wr.ownsRow w.heap.size 4 1 (.slice (some ⟨w.heap.size, 0, none⟩) n n) n ((bitsD k s ++ List.replicate (n - k) false).map Value.bool)) (fun i _ _ => n - (intOf i).toNat)
  case atStart =>
    refine ⟨0, Nat.zero_le _, rfl, Upd.below (Upd.start HD.out) ((Below.refl _ _).alloc (Nat.le_refl _) _), ?_⟩
    refine own_of_row (g := w.heap.size) ?_ (by simp [bitsD]) (Nat.le_refl _) (by unfold maxLen; omega)
    rw [heap_alloc_new]
    simp [bitsD]
  case round =>
    obtain ⟨k, hk, rfl, hu, hown⟩ := hrel
    have HU := Lib.hid hu; have HO := Lib.hid hown
    have hs2 := hu.size
    clear hu hown
    by_cases hlt2 : k < n
    · have hki : (k : Int) < (n : Int) := by omega
      go_wp2_with fail
      refine (Next_upd b (stN k s) wr.heap.size _ (Upd.at HD.out HU.out hlt) (by omega)).mono ?_
      rintro e w2 ⟨rfl, hu2, hs3⟩
      have HU2 := Lib.hid (HU.out.trans (hu2.mono hs2))
      have hown2 := ownsRow_upd HO.out hu2 hlt
      have hf := hown2.frozenAt k
      have hY : nextY (stN k s) < two64 := outY_lt (nextX_lt _)
      have HM := Lib.hid (mask_odd hY)
      have hcl : w2.cell? ⟨w.heap.size, k, none⟩ = some (.bool false) := by
        rw [hown2.cellAt k (by omega), List.getElem?_map, fill_get _ _ _ _ (bitsD_len k s) hlt2]; rfl
      have HO2 := Lib.hid hown2
      clear hu2 hown2 hs3 hY
      generalize hyy : nextY (stN k s) = y at HM
      have HYY := Lib.hid hyy; clear hyy
      go_wp2
      have h3 := (HO2.out.stored k (.bool (y % 2 == 1))).1
      rw [HM.out]
      go_roundw
      case rel =>
        refine ⟨k + 1, by omega, by go_num, ?_, ?_⟩
        · exact Upd.below HU2.out ((Below.refl _ _).setCell (p := ⟨w.heap.size, k, none⟩) (Nat.le_refl _) _)
        · rw [bitsD_snoc, HYY.out, ← fill_set _ _ _ _ _ (bitsD_len k s) hlt2, List.map_set]
          exact h3
      case measure => simp [intOf]; omega
    · obtain rfl : k = n := by omega
      go_wp2
      go_ret2
      refine ⟨_, _, rfl, ?_, HU.out⟩
      have := HO.out
      simpa using this
end Go.Proofs.Ythmooplhhkafcaa
