/- Small laws about a record in its own block. Conditions: as each statement says. -/
import Derived.Test.YtdgmjedkhjeadaaGreatSecW8
import Derived.Test.YtdgmjedkhjeadaaGreatPack
import Derived.Laws.Tables
import Derived.Deep.WholeRow
namespace Go.Proofs.YtdgmjedkhjeadaaGreat
open Go.RowKit
set_option linter.unusedVariables false
theorem recC_info (r : Rc) (A : Option Addr) (c : Nat) : (Tryz.prog.info? 115).map (·.size) = some (recC r A c).size := by
  rw [show (recC r A c).size = 6 from rfl]
  kernel_rfl
theorem results_rec {fn : Func} {p u : Tmp} (h : fn.results = #[.cell p 115, .tmp u]) (tmps : Array Value) (w : World) (g : Nat) (t : TypeId) (r : Rc) (A : Option Addr) (c : Nat)
    (hp : tmps.getD p undef = .pointer (some ⟨g, 0, none⟩)) (hg : Bk w g (recC r A c) t) :
    (results fn tmps).run Tryz.prog w = .ok (.tuple #[recV r A c, tmps.getD u undef]) w := by
  have hp' : tmps[p]?.getD undef = .pointer (some ⟨g, 0, none⟩) := by simpa using hp
  simp [results, h, hp', asAddr, run_loadVar_row w g t 115 (recC r A c) (0, 0) _ hg Tryz.underlying115 rfl (recC_info r A c)]
  rfl
theorem run_load_rec {o : Oper} {ev : Operand → Value} {w : World} (x : Operand) (ho : o.op = .load 115 x) (b : Nat) (hx : ev x = .pointer (some ⟨b, 0, none⟩)) (r : Rc) (A : Option Addr) (c : Nat) {t : TypeId} (h : Bk w b (recC r A c) t) :
    (execOp ev o).run Tryz.prog w = .ok (.value (recV r A c)) w := by
  unfold execOp
  simp only [ho, hx, Instr.loadAt, Instr.sureAddr, Sem.run_bind, Sem.run_pure, Result.andThen_ok, run_loadVar_row w b t 115 (recC r A c) (0, 0) _ h Tryz.underlying115 rfl (recC_info r A c)]
  rfl
theorem step_store_bk {ops : Array Oper} {o : Oper} {a : Act} {w : World} {K : Act → World → Prop} {Q : Exit → Act → World → Prop} {E : Prop} (ty : TypeId) (x y : Operand) (hgd : o.guard = none) (ho : o.op = .store ty x y)
    (g : Nat) (cells : Array Value) (hx : a.eval x = .pointer (some ⟨g, 0, none⟩)) (hy : a.eval y = .agg cells)
    (t : TypeId) (old : Array Value) (hg : Bk w g old t) (hi : (Tryz.prog.info? ty).map (·.size) = some cells.size)
    (hold : old.size = cells.size) (h1 : cells.all (·.oneCell') = true)
    (h : K (a.put o.dst undef) (w.setRow g cells)) : if Region.wanted o (yielded ops a.tmps) = true then o.wp Tryz.prog a w K Q else E := by
  rw [if_pos (by simp [Region.wanted, hgd])]
  exact wp_store_row ty x y ho g cells hx hy t old hg hi hold h1 h
theorem below_put8 {w : World} {B g : Nat} (cs : Array Value) (hB : B ≤ g) : Below B w (w.setRow g cs) :=
  ⟨rfl, rfl, rfl, by simp [World.setRow], fun k hk => by simp only [World.setRow, Array.getElem?_modify]; rw [if_neg (by omega)]⟩
theorem below_set8 {w : World} {B g : Nat} (o : Nat) (v : Value) (hB : B ≤ g) : Below B w (w.setCell ⟨g, o, none⟩ v) :=
  ⟨rfl, rfl, rfl, by rw [size_setCell]; exact Nat.le_refl _, fun k hk => Below.heap_setCell _ _ _ _ (by show k ≠ g; omega)⟩
theorem below_drew8 (w : World) (B : Nat) : Below B w w.drew := Qw.below ⟨1, rfl⟩ B
theorem recC_all (r : Rc) (A : Option Addr) (c : Nat) : (recC r A c).all (·.oneCell') = true := by simp [recC, Value.oneCell']
theorem recC_0 : recC rc0 none 0 = #[.int .i64 0, .int .i64 0, .int .i64 0, .int .i64 0, .int .i64 0, .slice none 0 0] := rfl
end Go.Proofs.YtdgmjedkhjeadaaGreat
