/- The walk of AlgebraUniform. -/
import Derived.Test.YtahfkhnhmnjbeaaToepWalk
import Derived.Test.YtahfkhnhmnjbeaaUniMath
namespace Go.Proofs.Ytahfkhnhmnjbeaa
open Go.RowKit
set_option linter.unusedVariables false
theorem info_int : (Try.prog.info? 3).map (fun i => (i.zero, i.size, i.bytes)) = some (some (.int .i64 0), 1, 8) := by kernel_rfl
theorem make_int (w : World) (c : Nat) (hc : c ≤ 1000000) : (Instr.makeSlice 53 (.int .i64 c) (.int .i64 c)).run Try.prog w = .ok (.slice (some ⟨w.heap.size, 0, none⟩) c c) (w.alloc (.cells (Array.replicate c (.int .i64 0)) 3)) := by
  obtain ⟨i, hi, hz, hs, hb⟩ := info_parts info_int
  have h := run_make (P := Try.prog) w _ _ i _ Try.underlying53 hi hz .i64 .i64 c c (by omega) (by omega) (by rw [hb]; omega) (by omega)
  rw [hs] at h
  simpa [madeCells_one, Value.cells] using h
def cRow (F : Nat → Nat) (M k : Nat) : Obj := .cells ((List.range M).map fun j => Value.int .i64 (cU F k j)).toArray 3 (0, 0)
theorem cRow_cell {w : World} {h M k j : Nat} {F : Nat → Nat} (hh : w.heap[h]? = some (cRow F M k)) (hj : j < M) : w.cell? ⟨h, j, none⟩ = some (.int .i64 (cU F k j)) := by
  rw [cell_of_row _ _ _ _ _ _ hh]
  simp [hj]
theorem cRow_frozen {w : World} {h M k j : Nat} {F : Nat → Nat} (hh : w.heap[h]? = some (cRow F M k)) : w.frozen? ⟨h, j, none⟩ = false := by simp [World.frozen?, hh, cRow]
theorem cRow_set {w : World} {h M k q : Nat} {F : Nat → Nat} (hh : w.heap[h]? = some (cRow F M k)) (hq : F k = q) (hj : q < M) : (w.setCell ⟨h, q, none⟩ (.int .i64 ((cU F k q : Int) + 1))).heap[h]? = some (cRow F M (k + 1)) := by
  subst hq
  simp only [cRow] at hh ⊢
  rw [heap_setCell_same w h _ _ _ _ hh]
  congr 2
  apply Array.ext'
  apply List.ext_getElem
  · simp
  · intro i h1 h2
    have hi : i < M := by simpa using h2
    simp only [Array.toList_setIfInBounds, List.getElem_set, List.getElem_map, List.getElem_range, cU]
    by_cases e : F k = i
    · subst e; simp
    · simp [e]
theorem cRow_zero (F : Nat → Nat) (M : Nat) : cRow F M 0 = .cells (Array.replicate M (Value.int .i64 0)) 3 (0, 0) := by
  unfold cRow
  congr 1
  apply Array.ext'
  apply List.ext_getElem
  · simp
  · intro i h1 h2; simp [cU]
set_option maxRecDepth 100000 in
set_option maxHeartbeats 4000000 in
theorem Uni_in (A : Option Addr) (n c o m s : Nat) (a : List Bool) (w : World) (hn1 : 1 ≤ n) (hn : n ≤ 6) (hm : (o : Int) % 5 = (m : Int)) (hm4 : m ≤ 4) (ho : o < 256) (hs : s = n + m - 1)
    (law : ∀ j, j < 2 ^ m → cU (hW a m s) (2 ^ s) j = wantU a n s j)
    (h : Rd w w.heap.size 1 A n (a.map Value.bool)) :
    Calls Try.prog 7 #[.slice A n c, .int .u8 o] w fun e w' => e = .returned (.bool true) ∧ Below w.heap.size w w' := by
  have H := Lib.hid h; clear h
  have hn1' : (1 : Int) ≤ n := by omega
  have hn' : (n : Int) ≤ 6 := by omega
  obtain ⟨M, hM⟩ : ∃ M : Nat, M = 2 ^ m := ⟨_, rfl⟩
  have hM16 : M ≤ 16 := by subst hM; exact Nat.le_trans (Nat.pow_le_pow_right (by omega) hm4) (by decide)
  have hpm : (2 : Int) ^ m = (M : Int) := by subst hM; simp
  have hsi : (n : Int) + (m : Int) - 1 = (s : Int) := by omega
  have hs9 : s ≤ 9 := by omega
  obtain ⟨S, hS⟩ : ∃ S : Nat, S = 2 ^ s := ⟨_, rfl⟩
  have hS512 : S ≤ 512 := by subst hS; exact Nat.le_trans (Nat.pow_le_pow_right (by omega) hs9) (by decide)
  have hps : (2 : Int) ^ s = (S : Int) := by subst hS; simp
  obtain ⟨r, hr⟩ : ∃ r, n = r + 1 := ⟨n - 1, by omega⟩
  have hri : (n : Int) - 1 = (r : Int) := by omega
  have hr5 : r ≤ 5 := by omega
  obtain ⟨R, hR⟩ : ∃ R : Nat, R = 2 ^ r := ⟨_, rfl⟩
  have hR32 : R ≤ 32 := by subst hR; exact Nat.le_trans (Nat.pow_le_pow_right (by omega) hr5) (by decide)
  have hpr : (2 : Int) ^ r = (R : Int) := by subst hR; simp
  have LAW : Hid (∀ j, j < M → cU (hW a m s) S j = if cnt a = 0 then (if j = 0 then S else 0) else R) := Lib.hid (by
    intro j hj
    rw [hS, law j (by rw [← hM]; exact hj)]
    unfold wantU
    rw [show n - 1 = r by omega, ← hR])
  have FLT : Hid (∀ i, hW a m s i < M) := Lib.hid (fun i => by rw [hM]; exact hW_lt a m s i)
  have la : a.length = n := by have := H.out.1; simpa using this
  have HLA := Lib.hid la
  have HM := Lib.hid hM; have HS := Lib.hid hs; have HSS := Lib.hid hS
  have HN := Lib.hid hn
  clear hM hs hS hR hr la law
  have HF : Hid (∀ i, hW a m s i = wordV (toepL (numL i s) a m a.length)) := Lib.hid (fun i => rfl)
  generalize hW a m s = F at LAW FLT HF
  have hmk := fun w => make_int w M (by omega)
  go_enter Try.func7, Try.ntmps7
  go_wp2_with fail
  clear hmk
  go_loopw [9] (fun i wr => ∃ k : Nat, k ≤ S ∧ i = .int .i64 k ∧ wr.heap[w.heap.size]? = some (cRow F M k) ∧ Below w.heap.size w wr ∧ w.heap.size + 1 ≤ wr.heap.size) (fun i _ => S - (intOf i).toNat)
  case atStart => exact ⟨0, Nat.zero_le _, rfl, by rw [cRow_zero]; simpa using heap_alloc_new w _, (Below.refl _ _).alloc (Nat.le_refl _) _, by simp⟩
  case round =>
    obtain ⟨wp, rfl⟩ : ∃ wp : World, wp = wr := ⟨_, rfl⟩
    obtain ⟨k, hk, rfl, hrow, hbw, hsz⟩ := hrel
    have HR := Lib.hid hrow; clear hrow
    by_cases hlt : k < S
    · go_wp2_with fail
      refine (refNumber_any k s _ (by omega) (by omega)).mono ?_
      rintro e w1 ⟨A1, c1, rfl, hc1, hown1, hb1⟩
      have s1 := hb1.size
      have R1 := Lib.hid (Rd.own hown1); clear hown1
      have HC := Lib.hid hc1; clear hc1
      try dsimp only [id]
      go_wp2_with fail
      refine (Toeplitz_ok _ _ _ _ _ _ m (numL k s) a _ (by omega) (by omega) HS.out HC.out R1.out (((H.out.below hbw).below (hb1.mono (by omega))).mono (by omega))).mono ?_
      rintro e w2 ⟨A2, c2, rfl, hc2, hown2, hb2⟩
      have s2 := hb2.size
      have R2 := Lib.hid (Rd.own hown2); clear hown2
      try dsimp only [id]
      go_wp2_with fail
      refine (refWord_any _ _ _ (toepL (numL k s) a m a.length) _ _ (by omega) R2.out).mono ?_
      rintro e w' ⟨rfl, rfl⟩
      have hq := FLT.out k
      have HQ := Lib.hid (HF.out k)
      rw [← HQ.out]
      have B2 : Below (w.heap.size + 1) wp w2 := (hb1.mono (by omega)).trans (hb2.mono (by omega))
      have HR2 : Hid (w2.heap[w.heap.size]? = some (cRow F M k)) := Lib.hid (by rw [B2.block _ (by omega)]; exact HR.out)
      have h1 := cRow_cell HR2.out hq
      have h2 := cRow_frozen (j := F k) HR2.out
      have HW := Lib.hid (cRow_set HR2.out rfl hq)
      have hcu := cU_le F k (F k)
      have BB : Below w.heap.size w w2 := hbw.trans (B2.mono (by omega))
      generalize F k = q at hq h1 h2 HW hcu ⊢
      generalize cU F k q = y at h1 HW hcu
      go_wp2_with fail
      go_roundw
      case rel => exact ⟨k + 1, by omega, by go_num, HW.out, BB.setCell (p := ⟨w.heap.size, q, none⟩) (Nat.le_refl _) _, by rw [size_setCell]; omega⟩
      case measure => simp [intOf]; omega
    · obtain rfl : k = S := by omega
      go_wp2_with fail
      go_loopw [12] (fun i wr => ∃ k2 : Nat, k2 ≤ M ∧ i = .int .i64 k2 ∧ wp = wr) (fun i _ => M - (intOf i).toNat)
      case atStart => exact ⟨0, Nat.zero_le _, rfl, rfl⟩
      case round =>
        obtain ⟨k2, hk2, rfl, rfl⟩ := hrel
        by_cases hlt2 : k2 < M
        · have h1 := cRow_cell HR.out hlt2
          have HLW := Lib.hid (LAW.out k2 hlt2)
          generalize cU F k k2 = y at h1 HLW
          obtain ⟨z, hz⟩ : ∃ z, z = cnt a := ⟨_, rfl⟩
          have HZ := Lib.hid hz
          rw [← hz] at HLW
          have hzn : z ≤ 6 := by have := cnt_le a; rw [HLA.out] at this; omega
          clear hz
          by_cases hz0 : z = 0
          · subst hz0
            rw [if_pos rfl] at HLW
            by_cases hk0 : k2 = 0
            · subst hk0
              obtain rfl : y = k := by rw [HLW.out, if_pos rfl]
              go_wp2_with fail
              refine (refCount_any _ _ _ a _ _ (by omega) (H.out.below hbw)).mono ?_
              rw [← HZ.out]
              rintro e w' ⟨rfl, rfl⟩
              go_wp2_with fail
              go_roundw
              case rel => exact ⟨1, by omega, by go_num, by first | rfl | exact True.intro⟩
              case measure => simp [intOf]; omega
            · have hk0' : ((k2 : Int) == 0) = false := by rw [beq_eq_false_iff_ne]; omega
              obtain rfl : y = 0 := by rw [HLW.out, if_neg hk0]
              go_wp2_with fail
              refine (refCount_any _ _ _ a _ _ (by omega) (H.out.below hbw)).mono ?_
              rw [← HZ.out]
              rintro e w' ⟨rfl, rfl⟩
              go_wp2_with fail
              go_roundw
              case rel => exact ⟨k2 + 1, by omega, by go_num, by first | rfl | exact True.intro⟩
              case measure => simp [intOf]; omega
          · have hz' : ((z : Int) == 0) = false := by rw [beq_eq_false_iff_ne]; omega
            rw [if_neg hz0] at HLW
            obtain rfl : y = R := HLW.out
            go_wp2_with fail
            refine (refCount_any _ _ _ a _ _ (by omega) (H.out.below hbw)).mono ?_
            rw [← HZ.out]
            rintro e w' ⟨rfl, rfl⟩
            go_wp2_with fail
            go_roundw
            case rel => exact ⟨k2 + 1, by omega, by go_num, by first | rfl | exact True.intro⟩
            case measure => simp [intOf]; omega
        · go_wp2_with fail
          refine (known_any _).mono ?_
          rintro e w9 ⟨rfl, hb9⟩
          go_wp2_with fail
          go_ret
          exact ⟨rfl, hbw.trans (hb9.mono (by omega))⟩
end Go.Proofs.Ytahfkhnhmnjbeaa
