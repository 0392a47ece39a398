/- The contract of guard, and of must. Conditions: as each statement says. -/
import Derived.Test.YtdgmjedkhjeadaaGreatTick3
import Derived.Tactics
import Derived.Tactics2
import Derived.Defers
import Derived.Recover
namespace Go.Proofs.YtdgmjedkhjeadaaGreat
open Go.RowKit
set_option linter.unusedVariables false
def crashP : List PanicEntry := [{ v := .iface 157 (.agg #[]), recovered := false }]
set_option maxRecDepth 100000 in
theorem guard1_idle (p : Addr) (w : World) :
    CallsD Tryz.prog 94 #[.pointer (some p)] .returning w fun e u' w' => e = .returned (.tuple #[]) ∧ u' = .returning ∧ w' = w := by
  refine callsD_of_wpS Tryz.func94 rfl fun c₀ cs hu => ?_
  apply wpS_seq
  apply wpS_region
  simp [wpOpsS, go_sem, recoverD, hu, Tryz.ntmps94, Exit.thenS]
  rw [show (#[Value.pointer (some p)] ++ ((Array.replicate 14 undef).setIfInBounds 3 (Value.nilIface)).setIfInBounds 0 (Value.nilIface)) = #[Value.pointer (some p), Value.nilIface, undef, undef, Value.nilIface, undef, undef, undef, undef, undef, undef, undef, undef, undef, undef] from rfl]
  refine wpS_of_wp ?_
  go_wp2_with fail
  exact ⟨rfl, .returning, by rw [← hu], .tuple #[], results_none (by rfl) _ _ _, rfl, rfl, rfl⟩
set_option maxRecDepth 100000 in
theorem guard1_panicking (p : Addr) (x : Int) (w : World) (hc : (w.alloc (.cells #[] 157)).cell? p = some (.int .i64 x)) (hz : (w.alloc (.cells #[] 157)).frozen? p = false) :
    CallsD Tryz.prog 94 #[.pointer (some p)] (.panicking crashP) w fun e u' w' =>
      e = .returned (.tuple #[]) ∧ u' = .panicking [{ v := .iface 157 (.agg #[]), recovered := true }] ∧ w' = (w.alloc (.cells #[] 157)).setCell p (.int .i64 13) := by
  have hta : ∀ (t : TypeId) (w : World), (Instr.typeAssert (.iface 157 (.agg #[])) t 157 true).run Tryz.prog w = .ok (.tuple #[.agg #[], .bool true]) w := fun t w => by kernel_rfl
  refine callsD_of_wpS Tryz.func94 rfl fun c₀ cs hu => ?_
  apply wpS_seq
  apply wpS_region
  simp [wpOpsS, go_sem, recoverD, hu, crashP, Tryz.ntmps94, Exit.thenS]
  rw [show (#[Value.pointer (some p)] ++ ((Array.replicate 14 undef).setIfInBounds 3 (Value.iface 157 (Value.agg #[]))).setIfInBounds 0 (Value.iface 157 (Value.agg #[]))) = #[Value.pointer (some p), Value.iface 157 (Value.agg #[]), undef, undef, Value.iface 157 (Value.agg #[]), undef, undef, undef, undef, undef, undef, undef, undef, undef, undef] from rfl]
  refine wpS_of_wp ?_
  go_wp2_with fail
  go_wp2_with fail
  exact ⟨rfl, _, rfl, .tuple #[], results_none (by rfl) _ _ _, rfl, rfl, rfl⟩
set_option maxRecDepth 100000 in
theorem must_ok (w : World) : Calls Tryz.prog 70 #[.int .i64 0] w fun e w' => e = .returned (.tuple #[]) ∧ w = w' := by
  go_enter Tryz.func70, Tryz.ntmps70
  go_wp2_with fail
  go_end0
  exact ⟨rfl, rfl⟩
set_option maxRecDepth 100000 in
theorem must_bad (w : World) : Calls Tryz.prog 70 #[.int .i64 13] w fun e w' => e = .panicked crashP ∧ w = w' := by
  go_enter Tryz.func70, Tryz.ntmps70
  go_wp2_with fail
  exact ⟨rfl, rfl, rfl⟩
/-- What guard makes of how its function ended. -/
def endI : Ending → Int
  | .returned (.int _ x) => x
  | _ => 13
set_option maxRecDepth 100000 in
theorem guard_any {K : FuncId} {caps : Array Value} {w : World} {R : Ending → World → Prop} (hcall : ∀ w, (callFunc K caps).run Tryz.prog w = .ok (.enter K caps) w) (h : Calls Tryz.prog K caps (w.alloc (.cells #[.int .i64 0] 25)) R)
    (hR : ∀ e w2, R e w2 → Bk w2 w.heap.size #[.int .i64 0] 25 ∧ ((∃ x, e = .returned (.int .i64 x)) ∨ e = .panicked crashP)) :
    Calls Tryz.prog 67 #[.func (.func K) #[] caps] w fun e w' => ∃ e2 w2, R e2 w2 ∧ e = .returned (.int .i64 (endI e2)) ∧ KeepL [w.heap.size] w2 w' := by
  have hmf : ∀ (fn : Fn) (first cap : Array Value) (w : World), (Instr.makeFunc fn first cap).run Tryz.prog w = .ok (.func fn first cap) w := fun _ _ _ _ => rfl
  have H := Lib.hid h; have HR := Lib.hid hR
  clear h hR
  go_enter_defers Tryz.func67, Tryz.ntmps67
  go_wp2_with fail
  refine H.out.mono ?_
  intro e w2 hr
  obtain ⟨hb, ⟨x, rfl⟩ | rfl⟩ := HR.out _ _ hr
  · have c0 : w2.cell? ⟨w.heap.size, 0, none⟩ = some (.int .i64 0) := by rw [hb.cell]; rfl
    have f0 := hb.froz 0
    go_wp2_with fail
    refine leaves_cons (f := 94) (args := #[.pointer (some ⟨w.heap.size, 0, none⟩)]) (by simp) (by simp [go_sem]) ?_
    refine (guard1_idle _ _).mono ?_
    rintro e u' w'' ⟨rfl, rfl, rfl⟩
    refine ⟨.int .i64 x, ?_, _, w2, hr, rfl, KeepL.set _ _ _ _⟩
    simp [results, Tryz.results67, go_sem, c0]
  · go_wp2_with fail
    have hb3 := hb.past (balloc w2 (.cells #[] 157)) hb.lt
    refine leaves_cons (f := 94) (args := #[.pointer (some ⟨w.heap.size, 0, none⟩)]) (by simp) (by simp [go_sem]) ?_
    refine (guard1_panicking ⟨w.heap.size, 0, none⟩ 0 w2 (by rw [hb3.cell]; rfl) (hb3.froz 0)).mono ?_
    rintro e u' w'' ⟨rfl, rfl, rfl⟩
    have hk := (KeepL.of_below (L := [w.heap.size]) (balloc w2 (.cells #[] 157))).trans (KeepL.set _ w.heap.size 0 (.int .i64 13))
    have c1 := ((hb.past (balloc w2 (.cells #[] 157)) hb.lt).set 0 (.int .i64 13)).cell 0
    refine ⟨.int .i64 13, ?_, _, w2, hr, rfl, hk⟩
    simp [results, Tryz.results67, go_sem, c1]
end Go.Proofs.YtdgmjedkhjeadaaGreat
