/- Contracts of the Toeplitz hash: what is refused; the reference's; SeedBits. Conditions: as each statement says. -/
import Derived.Test.YtahfkhnhmnjbeaaToep
namespace Go.Proofs.Ytahfkhnhmnjbeaa
open Go.RowKit
def seedB (n out : Int) : Int := if 1 ≤ n + out then n + out - 1 else 0
/-- The error of a Toeplitz hash. -/
def toepE (n s : Nat) (out : Int) : Int := if 512 < n then 4 else if out < 0 ∨ 512 < out then 3 else if (s : Int) ≠ seedB n out then 22 else 0
theorem Toeplitz_bad (A A' : Option Addr) (s cs n c : Nat) (out : Int) (w : World) (hn : n ≤ 1073741824) (he : toepE n s out ≠ 0) :
    Calls Try.prog 25 #[.slice A s cs, .slice A' n c, .int .i64 out] w fun e w' => e = .returned (.tuple #[.slice none 0 0, .int .i64 (toepE n s out)]) ∧ w = w' := by
  by_cases h1 : 512 < n
  · have HE : Hid (toepE n s out = 4) := Lib.hid (by unfold toepE; rw [if_pos h1])
    clear he
    have h1' : (512 : Int) < (n : Int) := by omega
    go_enter Try.func25, Try.ntmps25
    go_wp2
    go_ret2
    exact ⟨by rw [HE.out]; rfl, rfl⟩
  · have h1' : (n : Int) ≤ 512 := by omega
    by_cases h2 : out < 0
    · have HE : Hid (toepE n s out = 3) := Lib.hid (by unfold toepE; rw [if_neg h1, if_pos (.inl h2)])
      clear he
      go_enter Try.func25, Try.ntmps25
      go_wp2
      go_ret2
      exact ⟨by rw [HE.out]; rfl, rfl⟩
    · by_cases h3 : 512 < out
      · have HE : Hid (toepE n s out = 3) := Lib.hid (by unfold toepE; rw [if_neg h1, if_pos (.inr h3)])
        clear he
        go_enter Try.func25, Try.ntmps25
        go_wp2
        go_ret2
        exact ⟨by rw [HE.out]; rfl, rfl⟩
      · have h4 : (s : Int) ≠ seedB n out := by
          intro h4
          apply he
          unfold toepE
          rw [if_neg h1, if_neg (by omega), if_neg (by simpa using h4)]
        have HE : Hid (toepE n s out = 22) := Lib.hid (by unfold toepE; rw [if_neg h1, if_neg (by omega), if_pos h4])
        clear he
        unfold seedB at h4
        by_cases h5 : 1 ≤ (n : Int) + out
        · rw [if_pos h5] at h4
          by_cases h6 : 1 < (n : Int) + out
          · have ht : ((s : Int) != (n : Int) + out - 1) = true := by rw [bne_iff_ne]; exact h4
            clear h4
            go_enter Try.func25, Try.ntmps25
            go_wp2
            go_ret2
            exact ⟨by rw [HE.out]; rfl, rfl⟩
          · have ht : ((s : Int) != 0) = true := by rw [bne_iff_ne]; omega
            clear h4
            go_enter Try.func25, Try.ntmps25
            go_wp2
            go_ret2
            exact ⟨by rw [HE.out]; rfl, rfl⟩
        · rw [if_neg h5] at h4
          have h6 : ¬ 1 < (n : Int) + out := by omega
          have ht : ((s : Int) != 0) = true := by rw [bne_iff_ne]; exact h4
          clear h4
          go_enter Try.func25, Try.ntmps25
          go_wp2
          go_ret2
          exact ⟨by rw [HE.out]; rfl, rfl⟩
theorem SeedBits_any (n out : Int) (w : World) (hn0 : 0 ≤ n) (hn : n ≤ 1073741824) (ho0 : 0 ≤ out) (ho : out ≤ 1073741824) :
    Calls Try.prog 27 #[.int .i64 n, .int .i64 out] w fun e w' => e = .returned (.int .i64 (seedB n out)) ∧ w = w' := by
  by_cases h : 1 < n + out
  · have HE : Hid (seedB n out = n + out - 1) := Lib.hid (if_pos (by omega))
    go_enter Try.func27, Try.ntmps27
    go_wp2
    go_ret
    exact ⟨by rw [HE.out]; rfl, rfl⟩
  · have HE : Hid (seedB n out = 0) := Lib.hid (by unfold seedB; split <;> omega)
    go_enter Try.func27, Try.ntmps27
    go_wp2
    go_ret
    exact ⟨by rw [HE.out]; rfl, rfl⟩
set_option maxRecDepth 100000 in
set_option maxHeartbeats 1000000 in
theorem refToeplitz_any (A A' : Option Addr) (s cs n c out : Nat) (seed a : List Bool) (w : World) (hn : n ≤ 512) (hout : out ≤ 512) (hs : s = n + out - 1)
    (h : Rd w w.heap.size 1 A s (seed.map Value.bool)) (h' : Rd w w.heap.size 1 A' n (a.map Value.bool)) :
    Calls Try.prog 28 #[.slice A s cs, .slice A' n c, .int .i64 out] w (RetOwn w 4 1 out ((toepL seed a out a.length).map Value.bool) id) := by
  have hl : seed.length = s := by have := h.1; simpa using this
  have hl' : a.length = n := by have := h'.1; simpa using this
  have H := Lib.hid h; clear h
  have H' := Lib.hid h'; clear h'
  have HL := Lib.hid hl; clear hl
  have HL' := Lib.hid hl'; clear hl'
  have HS := Lib.hid hs; clear hs
  obtain ⟨i0, hi0, hz0, hz1, hz2⟩ := info_parts info_bool
  have HI0 := Lib.hid hi0; have HZ0 := Lib.hid hz0; have HZ1 := Lib.hid hz1; have HZ2 := Lib.hid hz2
  clear hi0 hz0 hz1 hz2
  go_enter Try.func28, Try.ntmps28
  go_wp2
  go_loopw [7, 9] (fun v i wr => ∃ k : Nat, k ≤ out ∧ i = .int .i64 k ∧ wr.ownsRow w.heap.size 4 1 v k (((toepL seed a out a.length).take k).map Value.bool) ∧ Below w.heap.size w wr) (fun _ i _ => out - (intOf i).toNat)
  case atStart => exact ⟨0, Nat.zero_le _, rfl, World.ownsRow_nil _ _ _ _, Below.refl _ _⟩
  case round =>
    obtain ⟨wp, rfl⟩ : ∃ wp : World, wp = wr := ⟨_, rfl⟩
    obtain ⟨k, hk, rfl, hown, hbw⟩ := hrel
    have hsz := hbw.size
    by_cases hlt : k < out
    · go_wp2
      go_loop [10, 11] (fun o j => ∃ q : Nat, q ≤ n ∧ j = .int .i64 q ∧ o = .bool (tb seed a n k q)) (fun _ j => n - (intOf j).toNat)
      case atStart => exact ⟨0, Nat.zero_le _, rfl, rfl⟩
      case round =>
        obtain ⟨q, hq, rfl, rfl⟩ := hrel
        by_cases hqn : q < n
        · obtain ⟨b, off, rfl, hb, hc⟩ := H.out.2 (by have := HS.out; omega)
          obtain ⟨b', off', rfl, hb', hc'⟩ := H'.out.2 (by omega)
          have hqa : q < a.length := by rw [HL'.out]; exact hqn
          have hpp : k + (n - 1 - q) < seed.length := by rw [HL.out, HS.out]; omega
          have h1 : wp.cell? ⟨b', off' + q, none⟩ = some (.bool (a.getD q false)) := (hbw.cell (p := ⟨b', off' + q, none⟩) hb').trans (hc' q _ (by simp [hqa]))
          obtain ⟨p, hp⟩ : ∃ p, p = k + (n - 1 - q) := ⟨_, rfl⟩
          have h2 : wp.cell? ⟨b, off + p, none⟩ = some (.bool (seed.getD p false)) := (hbw.cell (p := ⟨b, off + p, none⟩) hb).trans (hc p _ (by rw [hp]; simp [hpp]))
          have hpi : (k : Int) + (n : Int) - 1 - (q : Int) = (p : Int) := by omega
          have hps : p < s := by rw [hp, ← HL.out]; exact hpp
          have HS2 : Hid (tb seed a n k (q + 1) = (tb seed a n k q != (a.getD q false && seed.getD p false))) := Lib.hid (by rw [hp]; rfl)
          have HP := Lib.hid hp
          clear hc hc' hp hpp hqa
          generalize a.getD q false = x at h1 HS2
          generalize seed.getD p false = y at h2 HS2
          generalize tb seed a n k q = z at HS2
          cases x <;> cases y <;> cases z
          all_goals
            go_wp2
            go_round
            case rel => exact ⟨q + 1, by omega, by go_num, by rw [HS2.out]; rfl⟩
            case measure => simp [intOf]; omega
        · obtain rfl : q = n := by omega
          have hg : ((toepL seed a out a.length).take k).map Value.bool ++ [Value.bool (tb seed a q k q)] = ((toepL seed a out a.length).take (k + 1)).map Value.bool := by
            rw [take_snoc _ _ (by rw [toepL_len]; exact hlt)]
            simp [toepL, HL'.out]
          have HG := Lib.hid hg; clear hg
          go_wp2_with (at_builtin; refine wpList_append_own _ rfl (.tmp 41) (.tmp 43) _ rfl w.heap.size 4 i0 _ 1 1 Try.underlying45 HI0.out HZ0.out HZ1.out HZ2.out rfl (by decide) _ k _ rfl (hown.alloc _) ⟨wp.heap.size, 0, none⟩ 1 1 [.bool _] rfl rfl (cell_one_new _ _ _) (by simp [Value.oneCell']) (by unfold maxLen; omega) (by omega) (by simp; omega) ?_; intro v1 w1 hown1 hg1 _)
          rw [HG.out] at hown1
          go_roundw
          case rel => exact ⟨k + 1, by omega, by go_num, hown1, ((hbw.alloc hsz _).grown hg1 (by simp; omega) (fun g hg => (hown.lt g hg).1))⟩
          case measure => simp [intOf]; omega
    · go_wp2
      go_ret
      obtain rfl : k = out := by omega
      rw [List.take_of_length_le (by rw [toepL_len]; exact Nat.le_refl _)] at hown
      exact RetOwn.of (mk := id) hown hbw
end Go.Proofs.Ytahfkhnhmnjbeaa
