/- The contract of sameInts at equal lists. Conditions: as the statement says. -/
import Derived.Test.YthmooplhhkafcaaProg
import Derived.Test.YthmooplhhkafcaaBase
namespace Go.Proofs.Ythmooplhhkafcaa
open Go.RowKit
set_option linter.unusedVariables false
set_option maxHeartbeats 400000 in
theorem sameInts_self (A A' : Option Addr) (n c c' : Nat) (l : List Int) (w : World) (B : Nat) (hn : n ≤ 1073741824) (h : Rd w B 1 A n (l.map (Value.int .i64))) (h' : Rd w B 1 A' n (l.map (Value.int .i64))) :
    Calls Try.prog 35 #[.slice A n c, .slice A' n c'] w fun e w' => e = .returned (.bool true) ∧ Qw w w' := by
  have hl : l.length = n := by have := h.1; simpa using this
  have H := Lib.hid h; have H' := Lib.hid h'; have HL := Lib.hid hl; clear h h' hl
  go_enter Try.func35, Try.ntmps35
  go_wp2
  go_loopw [5] (fun i wr => ∃ k : Nat, k ≤ n ∧ i = .int .i64 k ∧ Qw w wr) (fun i _ => n - (intOf i).toNat)
  case atStart => exact ⟨0, Nat.zero_le _, rfl, Qw.refl _⟩
  case round =>
    obtain ⟨k, hk, rfl, hq⟩ := hrel
    by_cases hlt : k < n
    · have hki : (k : Int) < (n : Int) := by omega
      obtain ⟨b, off, rfl, hb, hc⟩ := H.out.2 (by omega)
      obtain ⟨b', off', rfl, hb', hc'⟩ := H'.out.2 (by omega)
      have hlk : k < l.length := by rw [HL.out]; exact hlt
      have h1 : wr.cell? ⟨b, off + k, none⟩ = some (.int .i64 l[k]) := (hq.cell _).trans (hc k _ (by simp [hlk]))
      have h2 : wr.cell? ⟨b', off' + k, none⟩ = some (.int .i64 l[k]) := (hq.cell _).trans (hc' k _ (by simp [hlk]))
      generalize l[k] = x at h1 h2
      have HQ := Lib.hid hq
      clear hc hc' hlk hq
      go_wp2_with fail
      go_quiet (fail)
      go_wp2
      go_roundw
      case rel => exact ⟨k + 1, by omega, by go_num, HQ.out.drewN _⟩
      case measure => simp [intOf]; omega
    · go_wp2
      go_ret
      exact ⟨rfl, hq⟩
end Go.Proofs.Ythmooplhhkafcaa
