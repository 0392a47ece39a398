/- The contracts of words and Hash of the program. Conditions: as each statement says. -/
import Derived.Test.YthmooplhhkafcaaWordsIter
import Derived.RangeFuncFrom
import Derived.RangeFuncBox
import Derived.RangeFuncNested
import Derived.RangeFuncBound
import Derived.RangeFuncCalls
import Derived.RangeFuncLeaves
import Derived.Shelf.Abstract
import Derived.Shelf.RegionOpen
import Derived.OwnWalkIn
import Derived.TacticsInMore
import Derived.LoopNIn
import Derived.LoopIn
namespace Go.Proofs.Ythmooplhhkafcaa
open Go.RowKit
set_option linter.unusedVariables false
attribute [local go_sem] Oper.semAt_some
theorem words_any (A : Option Addr) (k c : Nat) (wd : Nat) (w : World) :
    Calls Try.prog 80 #[.int .i64 wd, .slice A k c] w fun e w' => e = .returned (.func (.func 97) #[] #[.pointer (some ⟨w.heap.size + 1, 0, none⟩), .pointer (some ⟨w.heap.size, 0, none⟩)]) ∧
      (w.alloc (.cells #[.int .i64 wd] 3)).alloc (.cells #[.slice A k c] 22) = w' := by
  go_enter Try.func80, Try.ntmps80
  go_wp2
  go_ret
  exact ⟨rfl, rfl⟩
theorem heap_new_at (w : World) (o : Obj) {n : Nat} (h : w.heap.size = n) : (w.alloc o).heap[n]? = some o := by subst h; exact heap_alloc_new w o
/-- The results of Hash. -/
def hashR (n : Int) (key : Nat) (bits : List Bool) : Nat × Int := if elemE n [key] = 0 then (horner n.toNat key (wordsL n.toNat bits), 0) else (0, elemE n [key])
theorem hash_elem (n : Int) (key : Nat) (w : World) :
    Calls Try.prog 78 #[.int .i64 n, .slice (some ⟨w.heap.size + 1 + 1, 0, none⟩) 1 1] (((w.alloc (.cells #[.int .i64 n] 3)).alloc (.cells #[.int .u64 key] 33)).alloc (.cells #[.int .u64 key] 33))
      fun e w' => e = .returned (.int .i64 (elemE n [key])) ∧ (((w.alloc (.cells #[.int .i64 n] 3)).alloc (.cells #[.int .u64 key] 33)).alloc (.cells #[.int .u64 key] 33)) = w' := by
  obtain ⟨W0, hW0⟩ : ∃ W0, W0 = (w.alloc (.cells #[.int .i64 n] 3)).alloc (.cells #[.int .u64 key] 33) := ⟨_, rfl⟩
  have hs0 : W0.heap.size = w.heap.size + 1 + 1 := by rw [hW0]; simp
  rw [← hW0, ← hs0]
  exact elements_any n (some ⟨W0.heap.size, 0, none⟩) 1 1 [key] _ _ (by omega) (Rd.new W0 #[.int .u64 key] 33 1 1 rfl)
set_option maxRecDepth 100000 in
set_option maxHeartbeats 400000 in
theorem Hash_ok (wd key k c : Nat) (A : Option Addr) (bits : List Bool) (w : World) (hw : IsW wd) (hkey : key < 2 ^ wd) (hk : k ≤ 65536) (hkc : k ≤ c) (hr : Rd w w.heap.size 1 A k (bits.map Value.bool)) :
    Calls Try.prog 47 #[.int .i64 wd, .int .u64 key, .slice A k c] w fun e w' => e = .returned (.tuple #[.int .u64 (horner wd key (wordsL wd bits)), .int .i64 0]) ∧ Below w.heap.size w w' := by
  have hz' : elemE (wd : Int) [key] = 0 := by
    unfold elemE
    rw [if_neg (by rw [modN_zero]; unfold IsW at hw; omega), if_pos (by simpa using Nat.div_eq_of_lt hkey)]
  have HZ := Lib.hid hz'; clear hz'
  have hk2 : ¬ ((65536 : Int) < (k : Int)) := by omega
  have HR := Lib.hid hr; clear hr
  have HE := hash_elem (wd : Int) key w
  rw [HZ.out] at HE
  have HEE := Lib.hid HE
  clear HE
  refine (callsIn_wide (n := 6)).1 ?_
  refine callsIn_of_wp_marks Try.func47 rfl trivial ?_ rfl
  simp only [Try.ntmps47, List.size_toArray, List.length_cons, List.length_nil, Nat.reduceAdd, Nat.reduceSub, Array.replicate_succ, Array.replicate_zero, List.push_toArray, List.append_toArray, List.nil_append, List.cons_append]
  gi_wp2_with fail
  refine ⟨trivial, (callsIn_wide.2 HEE.out).mono ?_⟩
  rintro e w' ⟨rfl, rfl⟩
  gi_wp2_with fail
  have HWO := words_any A k c wd ((((w.alloc (.cells #[.int .i64 wd] 3)).alloc (.cells #[.int .u64 key] 33)).alloc (.cells #[.int .u64 key] 33)).alloc (.cells #[.int .u64 0] 33))
  refine ⟨trivial, (callsIn_wide.2 HWO).mono ?_⟩
  clear HWO HEE
  rintro e W ⟨rfl, hW⟩
  simp only [World.size_alloc] at hW ⊢
  have hsz : W.heap.size = w.heap.size + 6 := by rw [← hW]; simp
  have hbW : Below w.heap.size w W := by
    rw [← hW]
    exact ((((((Below.refl _ _).alloc (Nat.le_refl _) _).alloc (by simp) _).alloc (by simp; omega) _).alloc (by simp; omega) _).alloc (by simp; omega) _).alloc (by simp; omega) _
  have hB : W.heap[w.heap.size]? = some (.cells #[.int .i64 wd] 3 (0, 0)) ∧ W.heap[w.heap.size + 1]? = some (.cells #[.int .u64 key] 33 (0, 0)) ∧ W.heap[w.heap.size + 3]? = some (.cells #[.int .u64 0] 33 (0, 0)) ∧ W.heap[w.heap.size + 4]? = some (.cells #[.int .i64 wd] 3 (0, 0)) ∧ W.heap[w.heap.size + 5]? = some (.cells #[.slice A k c] 22 (0, 0)) := by
    rw [← hW]
    refine ⟨?_, ?_, ?_, ?_, ?_⟩
    · rw [Below.heap_alloc _ _ _ (by simp <;> omega), Below.heap_alloc _ _ _ (by simp <;> omega), Below.heap_alloc _ _ _ (by simp <;> omega), Below.heap_alloc _ _ _ (by simp <;> omega), Below.heap_alloc _ _ _ (by simp)]
      exact heap_alloc_new w _
    · rw [Below.heap_alloc _ _ _ (by simp <;> omega), Below.heap_alloc _ _ _ (by simp <;> omega), Below.heap_alloc _ _ _ (by simp <;> omega), Below.heap_alloc _ _ _ (by simp)]
      exact heap_new_at _ _ (by simp)
    · rw [Below.heap_alloc _ _ _ (by simp), Below.heap_alloc _ _ _ (by simp)]
      exact heap_new_at _ _ (by simp)
    · rw [Below.heap_alloc _ _ _ (by simp)]
      exact heap_new_at _ _ (by simp)
    · exact heap_new_at _ _ (by simp)
  have HRW : Hid (Rd W w.heap.size 1 A k (bits.map Value.bool)) := Lib.hid (HR.out.below hbW)
  have HB := Lib.hid hB
  clear hW hB HR
  obtain ⟨b0, b1, b3, b4, b5⟩ := HB.out
  gi_wp2_with fail
  refine wpIn_rangeFunc_ownM (n := 6) rfl (by decide) (gf := 97) (lb := #[.pointer (some ⟨w.heap.size + 5, 0, none⟩), .pointer (some ⟨w.heap.size + 4, 0, none⟩)]) rfl trivial (enters_of Try.func97 (by kernel_rfl) rfl)
    (words1_all 5 (w.heap.size + 3) (w.heap.size + 6) (w.heap.size + 5) (w.heap.size + 4) wd w.heap.size k c A bits W hw hk hkc (by omega) (by omega) (by omega) (by omega) (by omega) (by omega) (by omega) (by omega)
      (cell_of_one b5) (free_of_one b5) (cell_of_one b4) HRW.out) (by omega) KpH.trans ?keeps (Below.refl _ _) (fun _ => rfl)
    (fun pre W' => (W'.heap[w.heap.size]? = some (.cells #[.int .i64 wd] 3 (0, 0)) ∧ W'.heap[w.heap.size + 1]? = some (.cells #[.int .u64 key] 33 (0, 0)) ∧ W'.heap[w.heap.size + 3]? = some (.cells #[.int .u64 (horner wd key pre)] 33 (0, 0))) ∧ Below w.heap.size w W')
    ?own ?set ⟨⟨b0, b1, b3⟩, hbW⟩
    (fun x => { tmps := #[.int .i64 wd, .int .u64 key, .slice A k c, .pointer (some ⟨w.heap.size, 0, none⟩), .pointer (some ⟨w.heap.size + 1, 0, none⟩), undef, .int .u64 0, .int .i64 0, .int .i64 0, .pointer (some ⟨w.heap.size + 1 + 1 + 1, 0, none⟩), .int .u64 x, .int .i64 wd, .int .u64 key, .slice (some ⟨w.heap.size + 1 + 1, 0, none⟩) 1 1, .int .i64 0, .int .i64 0, .bool false, undef, .slice A k c, .int .i64 k, .bool (decide ((65536 : Int) < (k : Int))), .int .i64 wd, .slice A k c, .func (.func 97) #[] #[.pointer (some ⟨w.heap.size + 5, 0, none⟩), .pointer (some ⟨w.heap.size + 4, 0, none⟩)], .int .u64 x, undef, undef, undef, undef, undef, undef, undef], defers := [] }) ?assign ?body ?done
  case keeps =>
    intro W2 l o o' hl ho _ _
    exact ⟨by simp, fun j h1 h2 => World.putObj_heap_other (by omega)⟩
  case own =>
    refine OwnFrom.and (Own.from (fun s W1 W2 row h hg hr => ?_) _) (ownFrom_below (Nat.le_refl _) (by omega))
    exact ⟨(grownBy_keeps_cells hg hr h.1 rfl).trans h.1, (grownBy_keeps_cells hg hr h.2.1 rfl).trans h.2.1, (grownBy_keeps_cells hg hr h.2.2 rfl).trans h.2.2⟩
  case set =>
    rintro s W2 u ⟨⟨h1, h2, h3⟩, h4⟩
    exact ⟨⟨(Below.heap_setCell _ _ _ _ (by simp only; omega)).trans h1, (Below.heap_setCell _ _ _ _ (by simp only; omega)).trans h2, (Below.heap_setCell _ _ _ _ (by simp only; omega)).trans h3⟩, h4.setCell (by simp only; omega) _⟩
  case assign =>
    intro l x W2 K hK
    gi_wp2
    exact hK
  case body =>
    rintro l pre x W2 hpre ⟨⟨h1, h2, h3⟩, h4⟩
    have d1 := cell_of_one h1
    have d2 := cell_of_one h2
    have d3 := cell_of_one h3
    have d4 := free_of_one h3
    have hx : ∀ y ∈ pre ++ [x], y < 2 ^ wd := fun y hy => wordsL_lt (by have := hw.pos; omega) bits y (hpre.subset hy)
    have hx1 : x < 2 ^ wd := hx x (by simp)
    have hh : horner wd key pre < 2 ^ wd := horner_lt hw pre (fun y hy => hx y (by simp [hy]))
    have hpw := hw.pow
    have HT := Lib.hid (times_nat wd (horner wd key pre ^^^ x) key hw (Nat.xor_lt_two_pow hh hx1) hkey W2)
    have HS := Lib.hid (horner_snoc wd key pre x)
    have HX : Hid (Go.bits .xor .u64 (horner wd key pre : Int) (x : Int) = ((horner wd key pre ^^^ x : Nat) : Int)) := Lib.hid (u64_xor' (by omega) (by omega))
    clear hx hpw
    gi_wp2_with fail
    rw [HX.out]
    refine ⟨trivial, (CallsIn.inRound l (callsIn_wide.2 HT.out)).mono ?_⟩
    rintro e w' ⟨rfl, rfl⟩
    rw [← HS.out]
    gi_wp2_with fail
    refine ⟨KeepsOthers.setCell _ _ _, ⟨by simp [World.setCell], fun j h1 h2 => Below.heap_setCell _ _ _ _ (by simp only; omega)⟩, ⟨(Below.heap_setCell _ _ _ _ (by simp only; omega)).trans h1, (Below.heap_setCell _ _ _ _ (by simp only; omega)).trans h2, one_setCell h3⟩, h4.setCell (by simp only; omega) _⟩
  case done =>
    rintro D W2 hD ⟨⟨h1, h2, h3⟩, h4⟩ hK
    have d3 := cell_of_one h3
    gi_wp2_with fail
    refine ⟨by simp, .inl ⟨_, _, rfl, run_takeDeferred hK, ?_⟩⟩
    refine ⟨_, by simp [results, Try.results47, go_sem], rfl, h4.trans (belowK_b (w := W) (by omega) W2 D _ _ (by omega) hK rfl rfl)⟩
theorem Hash_any (n : Int) (key k c : Nat) (A : Option Addr) (bits : List Bool) (w : World) (hkey : key < 18446744073709551616) (hk : k ≤ 65536) (hkc : k ≤ c) (hr : Rd w w.heap.size 1 A k (bits.map Value.bool)) :
    Calls Try.prog 47 #[.int .i64 n, .int .u64 key, .slice A k c] w fun e w' => e = .returned (.tuple #[.int .u64 (hashR n key bits).1, .int .i64 (hashR n key bits).2]) ∧ Below w.heap.size w w' := by
  by_cases hz : elemE n [key] = 0
  · obtain ⟨hn, hlt⟩ := elemE_ok hz
    obtain ⟨wd, rfl⟩ := Int.eq_ofNat_of_zero_le (show 0 ≤ n by omega)
    have hw : IsW wd := by unfold IsW; omega
    have hR : hashR (wd : Int) key bits = (horner wd key (wordsL wd bits), 0) := by unfold hashR; rw [if_pos hz]; rfl
    rw [hR]
    exact Hash_ok wd key k c A bits w hw (by simpa using hlt key (by simp)) hk hkc hr
  · have HR := Lib.hid (show hashR n key bits = (0, elemE n [key]) by unfold hashR; rw [if_neg hz])
    have hz' : (elemE n [key] != 0) = true := by simp [hz]
    have HZ := Lib.hid hz; clear hz
    go_enter Try.func47, Try.ntmps47
    go_wp2_with fail
    refine (hash_elem n key w).mono ?_
    rintro e w' ⟨rfl, rfl⟩
    go_wp2_with fail
    go_ret2
    refine ⟨by rw [HR.out]; simp, by go_grown⟩
end Go.Proofs.Ythmooplhhkafcaa
