/- Contracts of the reference's Sample, of size, kind, list and draw. Conditions: as each statement says. -/
import Derived.Test.YthmooplhhkafcaaSorted
import Derived.Test.YthmooplhhkafcaaSameInts
namespace Go.Proofs.Ythmooplhhkafcaa
open Go.RowKit
set_option linter.unusedVariables false
theorem refSample_any (s n k : Nat) (w : World) (hs : s < two64) (hn : n ≤ 65536) (hk : k ≤ n) :
    Calls Try.prog 94 #[.int .u64 s, .int .i64 n, .int .i64 k] w (RetOwn w 3 1 k ((sampL s n k).map (Value.int .i64)) (fun v => .tuple #[.int .u64 (permS s n), v])) := by
  have HS := Lib.hid hs; clear hs
  go_enter Try.func94, Try.ntmps94
  go_wp2_with fail
  refine (refPerm_any s n _ HS.out hn).mono ?_
  rintro e w1 ⟨A1, c1, rfl, hc1, hown1, hb1⟩
  have hs1 := hb1.size
  obtain ⟨A2, hsl, hr2⟩ := slice_head (P := Try.prog) (t := 54) (sz := 1) Try.underlying54 Try.sizeOf3 (Rd.own hown1) (k : Int) k c1 rfl hk hc1
  have e2 : (((permL s n).map (Value.int .i64)).take (k * 1)) = ((permL s n).take k).map (Value.int .i64) := by rw [Nat.mul_one, List.map_take]
  rw [e2] at hr2
  have R2 := Lib.hid hr2; have B1 := Lib.hid hb1
  clear hown1 hr2 e2 hb1
  go_wp2_with fail
  refine (sorted_any _ _ _ ((permL s n).take k) _ (by omega) R2.out).mono ?_
  rintro e w2 ⟨A3, c3, rfl, hc3, hown3, hb3⟩
  rw [srtL_samp] at hown3
  have H3 := Lib.hid (ownsRow_base hown3 hs1); have B3 := Lib.hid (B1.out.trans (hb3.mono hs1)); clear hown3 hb3
  go_wp2
  go_ret2
  exact ⟨A3, c3, rfl, hc3, H3.out, B3.out⟩
/-- size returns a number of things: one that is not refused is at most 300. -/
def SzIs (n r : Int) : Prop := (r = n ∧ (n < 0 ∨ 65536 < n)) ∨ (0 ≤ r ∧ r ≤ 300)
theorem size_any (n : Int) (w : World) (h1 : -9223372036854775808 ≤ n) (h2 : n ≤ 9223372036854775807) :
    Calls Try.prog 72 #[.int .i64 n] w fun e w' => ∃ r : Int, SzIs n r ∧ e = .returned (.int .i64 r) ∧ w = w' := by
  by_cases h3 : 300 < n
  · by_cases h4 : n ≤ 65536
    · go_enter Try.func72, Try.ntmps72
      go_wp2
      go_ret
      exact ⟨n % 301, .inr ⟨by omega, by omega⟩, rfl, rfl⟩
    · have h5 : 65536 < n := by omega
      clear h4
      go_enter Try.func72, Try.ntmps72
      go_wp2
      go_ret
      exact ⟨n, .inl ⟨rfl, .inr h5⟩, rfl, rfl⟩
  · have h5 : n ≤ 300 := by omega
    clear h3
    go_enter Try.func72, Try.ntmps72
    go_wp2
    go_ret
    exact ⟨n, by unfold SzIs; omega, rfl, rfl⟩
theorem kind_any (n : Int) (w : World) :
    Calls Try.prog 39 #[.int .i64 n, .int .i64 6] w fun e w' => ∃ r : Int, e = .returned (.int .i64 r) ∧ w = w' := by
  go_enter Try.func39, Try.ntmps39
  go_wp2
  go_ret
  exact ⟨_, rfl, rfl⟩
theorem Perm_bad (b s : Nat) (n : Int) (w : World) (hd : DrawAt w b s) (h : n < 0 ∨ 65536 < n) :
    Calls Try.prog 33 #[.pointer (some ⟨b, 0, none⟩), .int .i64 n] w fun e w' => e = .returned (.tuple #[.slice none 0 0, .int .i64 3]) ∧ w = w' := by
  have HD := Lib.hid hd; have HH := Lib.hid h; clear hd h
  go_enter Try.func33, Try.ntmps33
  go_wp2_with (go_at_call 68; refine (size_out _ _ _ _ HD.out HH.out).mono ?_; rintro e w' ⟨rfl, rfl⟩)
  go_ret2
  exact ⟨rfl, rfl⟩
theorem Bits_bad (b s : Nat) (n : Int) (w : World) (hd : DrawAt w b s) (h : n < 0 ∨ 65536 < n) :
    Calls Try.prog 38 #[.pointer (some ⟨b, 0, none⟩), .int .i64 n] w fun e w' => e = .returned (.tuple #[.slice none 0 0, .int .i64 3]) ∧ w = w' := by
  have HD := Lib.hid hd; have HH := Lib.hid h; clear hd h
  go_enter Try.func38, Try.ntmps38
  go_wp2_with (go_at_call 68; refine (size_out _ _ _ _ HD.out HH.out).mono ?_; rintro e w' ⟨rfl, rfl⟩)
  go_ret2
  exact ⟨rfl, rfl⟩
theorem Sample_bad (b s : Nat) (n k : Int) (w : World) (hd : DrawAt w b s) (h : n < 0 ∨ 65536 < n ∨ (0 ≤ n ∧ n ≤ 65536 ∧ (k < 0 ∨ (0 ≤ k ∧ n < k)))) :
    Calls Try.prog 34 #[.pointer (some ⟨b, 0, none⟩), .int .i64 n, .int .i64 k] w fun e w' => e = .returned (.tuple #[.slice none 0 0, .int .i64 3]) ∧ w = w' := by
  have HD := Lib.hid hd; clear hd
  by_cases hn : n < 0 ∨ 65536 < n
  · have HH := Lib.hid hn; clear h hn
    go_enter Try.func34, Try.ntmps34
    go_wp2_with (go_at_call 68; refine (size_out _ _ _ _ HD.out HH.out).mono ?_; rintro e w' ⟨rfl, rfl⟩)
    go_ret2
    exact ⟨rfl, rfl⟩
  · have h1 : 0 ≤ n := by omega
    have h2 : n ≤ 65536 := by omega
    have h3 : k < 0 ∨ (0 ≤ k ∧ n < k) := by omega
    clear h hn
    rcases h3 with h3 | ⟨h3, h4⟩
    all_goals
      go_enter Try.func34, Try.ntmps34
      go_wp2_with (go_at_call 68; refine (size_in _ _ _ _ HD.out h1 h2).mono ?_; rintro e w' ⟨rfl, rfl⟩)
      go_ret2
      exact ⟨rfl, rfl⟩
end Go.Proofs.Ythmooplhhkafcaa
