/- The contract of Tail at its example. Conditions: as the statement says. -/
import Derived.Test.YtncjmndiafgaaaaNat25
namespace Go.Proofs.Ytncjmndiafgaaaa
open Go.RowKit
set_option linter.unusedVariables false
set_option maxRecDepth 100000 in
set_option maxHeartbeats 2000000 in
theorem tail_ex (w : World) : Calls Try.prog 19 #[.int .i64 4, .int .i64 1, .int .i64 2, .int .i64 0] w (RetFrac 1 2 w) := by
  go_enter Try.func19, Try.ntmps19
  go_wp2_with fail
  have HK0 := Lib.hid (BlkN.new w #[.slice none 0 0, .slice none 0 0] 29)
  have HB0 : Hid (Below w.heap.size w (w.alloc (.cells #[.slice none 0 0, .slice none 0 0] 29))) := Lib.hid ((Below.refl _ _).alloc (Nat.le_refl _) _)
  generalize w.alloc (.cells #[.slice none 0 0, .slice none 0 0] 29) = W at HK0 HB0 ⊢
  refine (sane_yes 4 1 W (by omega) (by omega) (by omega)).mono ?_
  rintro e w1 ⟨rfl, rfl⟩
  go_wp2_with fail
  refine (sane_yes 4 2 W (by omega) (by omega) (by omega)).mono ?_
  rintro e w1 ⟨rfl, rfl⟩
  go_wp2_with fail
  refine (ways_num 4 1 2 0 4 1 2 0 rfl rfl rfl rfl (by omega) (by omega) (by omega) (by omega)).mono ?_
  rintro e w1 ⟨A1, n1, c1, rfl, hr1, hb1⟩
  have HR1 := Lib.hid (show NumR w1 w1.heap.size A1 n1 c1 3 from hr1)
  have HK1 := Lib.hid (BlkN.past HK0.out hb1 HK0.out.lt); have HB1 := Lib.hid (bnextN HB0.out hb1)
  clear hr1 hb1 HK0 HB0
  go_wp2_with fail
  refine (choose_num 4 2 4 2 rfl rfl (by omega) (by omega)).mono ?_
  rintro e w2 ⟨A2, n2, c2, rfl, hr2, hb2⟩
  have HR2 := Lib.hid (show NumR w2 w2.heap.size A2 n2 c2 6 from hr2)
  have HR1' := Lib.hid (HR1.out.next hb2)
  have HK2 := Lib.hid (BlkN.past HK1.out hb2 HK1.out.lt); have HB2 := Lib.hid (bnextN HB1.out hb2)
  clear hr2 hb2 HK1 HB1 HR1
  go_wp2_with fail
  refine (reduced_36 HR1'.out HR2.out).mono ?_
  rintro e w3 ⟨f, rfl, hf, hv, hu, hb3⟩
  have HF := Lib.hid hf; have HV := Lib.hid hv; have HU := Lib.hid hu
  have HK3 := Lib.hid (BlkN.past HK2.out hb3 HK2.out.lt); have HB3 := Lib.hid (bnextN HB2.out hb3)
  clear hf hv hu hb3 HK2 HB2 HR1' HR2
  have s0 : w3.cell? ⟨w.heap.size, 0, none⟩ = some (.slice none 0 0) := HK3.out.cell 0
  have s1 : w3.cell? ⟨w.heap.size, 1, none⟩ = some (.slice none 0 0) := HK3.out.cell 1
  have f0 := HK3.out.froz 0
  have f1 := HK3.out.froz 1
  go_wp2_with fail
  have hk5 := (HK3.out.set 0 (.slice f.A f.n f.c)).set 1 (.slice f.B f.m f.d)
  have hk4 := HK3.out.set 0 (.slice f.A f.n f.c)
  have hb5 : Below w.heap.size w ((w3.setCell ⟨w.heap.size, 0, none⟩ (.slice f.A f.n f.c)).setCell ⟨w.heap.size, 1, none⟩ (.slice f.B f.m f.d)) := ((HB3.out.setCell (p := ⟨w.heap.size, 0, none⟩) (Nat.le_refl _) _).setCell (p := ⟨w.heap.size, 1, none⟩) (Nat.le_refl _) _)
  have hn5 : NumR ((w3.setCell ⟨w.heap.size, 0, none⟩ (.slice f.A f.n f.c)).setCell ⟨w.heap.size, 1, none⟩ (.slice f.B f.m f.d)) ((w3.setCell ⟨w.heap.size, 0, none⟩ (.slice f.A f.n f.c)).setCell ⟨w.heap.size, 1, none⟩ (.slice f.B f.m f.d)).heap.size f.A f.n f.c f.v := by
    rw [size_setCell, size_setCell]; exact num_set (num_set HF.out.num s0) (hk4.cell 1)
  have hm5 : NumR ((w3.setCell ⟨w.heap.size, 0, none⟩ (.slice f.A f.n f.c)).setCell ⟨w.heap.size, 1, none⟩ (.slice f.B f.m f.d)) ((w3.setCell ⟨w.heap.size, 0, none⟩ (.slice f.A f.n f.c)).setCell ⟨w.heap.size, 1, none⟩ (.slice f.B f.m f.d)).heap.size f.B f.m f.d f.u := by
    rw [size_setCell, size_setCell]; exact num_set (num_set HF.out.den s0) (hk4.cell 1)
  generalize (w3.setCell ⟨w.heap.size, 0, none⟩ (.slice f.A f.n f.c)).setCell ⟨w.heap.size, 1, none⟩ (.slice f.B f.m f.d) = wf at hk5 hb5 hn5 hm5 ⊢
  have e0 : wf.cell? ⟨w.heap.size, 0, none⟩ = some (.slice f.A f.n f.c) := hk5.cell 0
  have e1 : wf.cell? ⟨w.heap.size, 1, none⟩ = some (.slice f.B f.m f.d) := hk5.cell 1
  refine bodyPost_ret (v := .tuple #[.agg #[.slice f.A f.n f.c, .slice f.B f.m f.d], .int .i64 0]) (by simp [results, Try.results19, go_sem, e0, e1]) rfl ?_
  exact ⟨f, rfl, ⟨hn5, hm5, HF.out.pos⟩, HV.out, HU.out, hb5⟩
#print axioms tail_ex
end Go.Proofs.Ytncjmndiafgaaaa
