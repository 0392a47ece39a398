/- Contracts of the draws: New, valid, Next. Conditions: the draws' two cells are known. -/
import Derived.Test.YthmooplhhkafcaaProg
import Derived.Test.YthmooplhhkafcaaBase
import Derived.Test.YthmooplhhkafcaaDrawMath
namespace Go.Proofs.Ythmooplhhkafcaa
open Go.RowKit
theorem New_any (s : Nat) (w : World) :
    Calls Try.prog 31 #[.int .u64 s] w fun e w' => e = .returned (.pointer (some ⟨w.heap.size, 0, none⟩)) ∧ w.alloc (.cells #[.int .u64 s, .bool true] 71) = w' := by
  go_enter Try.func31, Try.ntmps31
  go_wp2
  go_ret
  exact ⟨rfl, rfl⟩
theorem valid_yes (b : Nat) (w : World) (h : w.cell? ⟨b, 1, none⟩ = some (.bool true)) :
    Calls Try.prog 67 #[.pointer (some ⟨b, 0, none⟩)] w fun e w' => e = .returned (.bool true) ∧ w = w' := by
  go_enter Try.func67, Try.ntmps67
  go_wp2
  go_ret
  exact ⟨rfl, rfl⟩
theorem wrapS (s : Nat) : IntKind.u64.wrap (IntKind.u64.wrap ((s : Int) * 4906513781625342421) + 1181783497276652981) = (nextS s : Int) := by
  rw [IntKind.wrap_u64, IntKind.wrap_u64]; unfold nextS two64; omega
theorem wrapX {s : Nat} (hs : s < two64) : IntKind.u64.wrap (bits .xor .u64 (s : Int) ((s : Int) / 4294967296) * 7809847782465536323) = (nextX s : Int) := by
  have e : ((s : Int) / 4294967296) = ((s / 4294967296 : Nat) : Int) := by omega
  rw [e, u64_xor_nat _ _ hs (Nat.lt_of_le_of_lt (Nat.div_le_self _ _) hs), IntKind.wrap_u64]; unfold nextX two64; omega
theorem wrapY {x : Nat} (hx : x < two64) : bits .xor .u64 (x : Int) ((x : Int) / 536870912) = (outY x : Int) := by
  have e : ((x : Int) / 536870912) = ((x / 536870912 : Nat) : Int) := by omega
  rw [e, u64_xor_nat _ _ hx (Nat.lt_of_le_of_lt (Nat.div_le_self _ _) hx)]; rfl
theorem Next_any (s b : Nat) (w : World) (h0 : w.cell? ⟨b, 0, none⟩ = some (.int .u64 s)) (h1 : w.cell? ⟨b, 1, none⟩ = some (.bool true)) (hf : w.frozen? ⟨b, 0, none⟩ = false) :
    Calls Try.prog 36 #[.pointer (some ⟨b, 0, none⟩)] w fun e w' => e = .returned (.int .u64 (nextY s)) ∧ Qw (w.setCell ⟨b, 0, none⟩ (.int .u64 (nextS s))) w' := by
  have hS := wrapS s
  have hX := wrapX (nextS_lt s)
  have hY := wrapY (nextX_lt (nextS s))
  have HY := Lib.hid (show outY (nextX (nextS s)) = nextY s from rfl)
  go_enter Try.func36, Try.ntmps36
  go_wp2_with (go_at_call 67; refine (valid_yes _ _ h1).mono ?_; rintro e w' ⟨rfl, rfl⟩)
  generalize ht : nextS s = t at hX hY HY
  have HT := Lib.hid ht; clear ht
  have hc := cell_set (u := .int .u64 (t : Int)) h0
  clear h0 h1 hf hS
  generalize hw : w.setCell { block := b, off := 0 } (Value.int IntKind.u64 (t : Int)) = w1 at hc
  have HW := Lib.hid hw; clear hw
  go_quiet (fail)
  go_wp2
  go_ret
  refine ⟨?_, ?_⟩
  · rw [← HY.out]; rfl
  · rw [HT.out, HW.out]; exact ⟨_, rfl⟩
end Go.Proofs.Ythmooplhhkafcaa
