/- The contract of works04. Conditions: none. -/
import Derived.Test.YtncjmndiafgaaaaNat26
import Derived.Test.YtncjmndiafgaaaaBits
namespace Go.Proofs.Ytncjmndiafgaaaa
open Go.RowKit
set_option linter.unusedVariables false
set_option maxRecDepth 100000 in
set_option maxHeartbeats 2000000 in
theorem works04_any (w : World) : Calls Try.prog 9 #[] w fun e w' => e = .returned (.bool true) ∧ Below w.heap.size w w' := by
  go_enter Try.func9, Try.ntmps9
  go_wp2_with fail
  refine (tail_ex w).mono ?_
  rintro e w1 ⟨f, rfl, hf, hv, hu, hb1⟩
  have HF := Lib.hid hf; have HV := Lib.hid hv; have HU := Lib.hid hu; have HB1 := Lib.hid hb1
  clear hf hv hu hb1
  go_wp2_with fail
  have hba : Below w1.heap.size w1 (w1.alloc (.cells #[.slice f.A f.n f.c, .slice f.B f.m f.d] 29)) := (Below.refl _ _).alloc (Nat.le_refl _) _
  have HK2 := Lib.hid (BlkN.new w1 #[.slice f.A f.n f.c, .slice f.B f.m f.d] 29)
  have HF2 := Lib.hid (HF.out.next hba); have HB2 := Lib.hid (bnextN HB1.out hba)
  clear hba HF HB1
  generalize w1.alloc (.cells #[.slice f.A f.n f.c, .slice f.B f.m f.d] 29) = w2 at HK2 HF2 HB2 ⊢
  refine (Of_numI 1 1 _ rfl (by omega)).mono ?_
  rintro e w3 ⟨A1, n1, c1, rfl, hr, hb⟩
  have HR1 := Lib.hid hr; have HK3 := Lib.hid (BlkN.past HK2.out hb HK2.out.lt); have HF3 := Lib.hid (HF2.out.next hb); have HB3 := Lib.hid (bnextN HB2.out hb)
  clear hr hb HK2 HF2 HB2
  go_wp2_with fail
  refine (Of_numI 6 6 _ rfl (by omega)).mono ?_
  rintro e w4 ⟨A2, n2, c2, rfl, hr, hb⟩
  have HR2 := Lib.hid hr; have HK4 := Lib.hid (BlkN.past HK3.out hb HK3.out.lt); have HF4 := Lib.hid (HF3.out.next hb); have HB4 := Lib.hid (bnextN HB3.out hb); have HR1' := Lib.hid (HR1.out.next hb)
  clear hr hb HK3 HF3 HB3 HR1
  go_wp2_with fail
  refine (rate_num ⟨A1, n1, c1, 1, A2, n2, c2, 6⟩ w4 4 2 0 4 2 0 rfl rfl rfl (by omega) (by omega) (by omega) ⟨HR1'.out, HR2.out, by show 0 < 6; decide⟩ (by show 1 < 6; decide) (by show 6 ≤ 1000000; decide)).mono ?_
  rintro e w5 ⟨L, LI, hLI, rfl, p1, p2, p3, p4, hb⟩
  clear p1
  have hL : L = 1 := by
    change L = 0 ∨ possB 4 2 0 1 6 L = true at p3
    change L = 4 ∨ possB 4 2 0 1 6 (L + 1) = false at p4
    change L ≤ 4 at p2
    clear HR1' HR2 hb
    rcases (by omega : L = 0 ∨ L = 1 ∨ L = 2 ∨ L = 3 ∨ L = 4) with rfl | rfl | rfl | rfl | rfl
    · exact absurd p4 (by decide)
    · rfl
    · exact absurd p3 (by decide)
    · exact absurd p3 (by decide)
    · exact absurd p3 (by decide)
  subst hL
  subst hLI
  have HK5 := Lib.hid (BlkN.past HK4.out hb HK4.out.lt); have HF5 := Lib.hid (HF4.out.next hb); have HB5 := Lib.hid (bnextN HB4.out hb)
  clear hb HK4 HF4 HB4 HR1' HR2 p2 p3 p4
  have hbe : Below w5.heap.size w5 (w5.alloc (.cells #[.int .i64 4, .int .i64 2, .int .i64 0, .int .i64 1, .int .i64 1] 32)) := (Below.refl _ _).alloc (Nat.le_refl _) _
  have hk6 := BlkN.past HK5.out hbe HK5.out.lt
  have q0 := hk6.cell 0
  have q1 := hk6.cell 1
  have hk7 := BlkN.new w5 #[.int .i64 4, .int .i64 2, .int .i64 0, .int .i64 1, .int .i64 1] 32
  have q2 := hk7.cell 3
  have HF6 := Lib.hid (HF5.out.next hbe); have HB6 := Lib.hid (bnextN HB5.out hbe); have HK7 := Lib.hid hk7
  simp only [List.getElem?_toArray, List.getElem?_cons_succ, List.getElem?_cons_zero] at q0 q1 q2
  clear hbe hk6 hk7 HF5 HB5 HK5
  go_wp2_with fail
  generalize w5.alloc (.cells #[.int .i64 4, .int .i64 2, .int .i64 0, .int .i64 1, .int .i64 1] 32) = w6 at q0 q1 q2 HF6 HB6 HK7 ⊢
  refine (frac_num f 1 2 1 2 w6 rfl rfl (by omega) (by omega) (by omega) HF6.out (by rw [HV.out]; decide) (by rw [HU.out]; decide) (by rw [HV.out, HU.out])).mono ?_
  rintro e w7 ⟨rfl, hb⟩
  have HB7 := Lib.hid (bnextN HB6.out hb)
  have hk8 := BlkN.past HK7.out hb HK7.out.lt
  have q3 := hk8.cell 3
  simp only [List.getElem?_toArray, List.getElem?_cons_succ, List.getElem?_cons_zero] at q3
  clear hb hk8 q0 q1 q2 HF6 HB6
  go_wp2_with fail
  refine (Parity_any (some ⟨w7.heap.size, 0, none⟩) 1 1 [true] (w7.alloc (.cells #[.bool true] 4)) (w7.heap.size + 1) (by omega) ?_).mono ?_
  · have := Rd.new w7 #[.bool true] 4 1 1 rfl
    simpa using this
  rintro e w8 ⟨rfl, rfl⟩
  go_wp2_with fail
  go_ret
  exact ⟨rfl, HB7.out.alloc HB7.out.size _⟩
#print axioms works04_any
end Go.Proofs.Ytncjmndiafgaaaa
