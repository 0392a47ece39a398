/- The contracts of the reference's sorted and Sample. Conditions: as each statement says. -/
import Derived.Test.YtfinjdkcgmepfaaDrawMath
import Derived.Test.YtfinjdkcgmepfaaSample
import Derived.Test.YtfinjdkcgmepfaaPerm2
import Derived.Test.YtfinjdkcgmepfaaPack
import Derived.Deep.RegionHeld3
import Derived.Test.YtfinjdkcgmepfaaDraw
import Derived.Test.YtfinjdkcgmepfaaToepWalk
namespace Go.Proofs.Ytfinjdkcgmepfaa
open Go.RowKit
set_option linter.unusedVariables false
/-- What the region of an insertion reads: the element, and the two parts of the list so far. -/
structure SrtS (w0 : World) (B lb lo : Nat) (x : Int) (P : Option Addr) (p : Nat) (xs1 : List Value) (Q : Option Addr) (q : Nat) (xs2 : List Value) (w : World) : Prop where
  sz : B ≤ w.heap.size
  cx : w.cell? ⟨lb, lo, none⟩ = some (.int .i64 x)
  lt : lb < B
  r1 : Rd w B 1 P p xs1
  r2 : Rd w B 1 Q q xs2
  bb : Below B w0 w
section
variable {w0 : World} {B lb lo : Nat} {x : Int} {P : Option Addr} {p : Nat} {xs1 : List Value} {Q : Option Addr} {q : Nat} {xs2 : List Value} {w w' : World}
theorem SrtS.keep (h : SrtS w0 B lb lo x P p xs1 Q q xs2 w) (hb : Below B w w') : SrtS w0 B lb lo x P p xs1 Q q xs2 w' :=
  ⟨Nat.le_trans h.sz hb.size, (hb.cell (p := ⟨lb, lo, none⟩) h.lt).trans h.cx, h.lt, h.r1.below hb, h.r2.below hb, h.bb.trans hb⟩
theorem SrtS.alloc (h : SrtS w0 B lb lo x P p xs1 Q q xs2 w) (o : Obj) : SrtS w0 B lb lo x P p xs1 Q q xs2 (w.alloc o) := h.keep ((Below.refl _ _).alloc h.sz _)
theorem SrtS.drew (h : SrtS w0 B lb lo x P p xs1 Q q xs2 w) : SrtS w0 B lb lo x P p xs1 Q q xs2 w.drew := h.keep (Below.refl _ _).drew
theorem SrtS.grown (h : SrtS w0 B lb lo x P p xs1 Q q xs2 w) {row : Option Nat} (hg : w.grownBy w' row) (hr : ∀ k, row = some k → B ≤ k) : SrtS w0 B lb lo x P p xs1 Q q xs2 w' := h.keep ((Below.refl _ _).grown hg h.sz hr)
end
theorem row_grown {w w' : World} {row : Option Nat} (hg : w.grownBy w' row) {k : Nat} {o : Obj} (h : w.heap[k]? = some o) (hne : row ≠ some k) : w'.heap[k]? = some o :=
  (hg.block k (Array.getElem?_eq_some_iff.1 h).1 (fun e => hne e.symm)).trans h
theorem Rd.row {w : World} {g : Nat} {cs : List Value} {t : TypeId} {n : Nat} (h : w.heap[g]? = some (.cells cs.toArray t (0, 0))) (hl : cs.length = n) : Rd w w.heap.size 1 (some ⟨g, 0, none⟩) n cs :=
  ⟨by omega, fun _ => ⟨g, 0, rfl, (Array.getElem?_eq_some_iff.1 h).1, fun j u hu => by rw [Nat.zero_add, cell_of_row _ _ _ _ _ _ h]; simpa using hu⟩⟩
theorem ins_cells (out : List Int) (x : Int) (q k : Nat) (hl : out.length = k) (hi : insAt out x = q) :
    [] ++ ((out.map (Value.int .i64)).take (q * 1)) ++ [.int .i64 x] ++ (((out.map (Value.int .i64)).drop (q * 1)).take ((k - q) * 1)) = (insL out x).map (Value.int .i64) := by
  have e : ((out.map (Value.int .i64)).drop q).take (k - q) = (out.map (Value.int .i64)).drop q := List.take_of_length_le (by rw [List.length_drop, List.length_map, hl]; exact Nat.le_refl _)
  rw [insL, hi, Nat.mul_one, Nat.mul_one, List.nil_append, e]
  simp
theorem exec_idx' {P : Program} {t e : TypeId} (ht : P.underlying t = some (.slice e)) (hz : ∀ w, (sizeOf e).run P w = .ok 1 w) {ev : Operand → Value} {dst : Option Tmp} {ty : TypeId} {pos : String} {after : Array Edge} {guard : Option (Nat × Bool)} {x ix : Operand} {h off n cap j : Nat} {k : IntKind}
    (h1 : ev x = .slice (some ⟨h, off, none⟩) n cap) (h2 : ev ix = .int k (j : Int)) (h4 : j < n) (w : World) : (execOp ev ⟨dst, .indexAddr t x ix, ty, pos, after, guard⟩).run P w = .ok (.value (.pointer (some ⟨h, off + j, none⟩))) w := by
  have he : P.elem t = e := by simp [Program.elem, ht]
  have ht' : P.underlying t = some (.slice (P.elem t)) := by rw [he]; exact ht
  have h5 : (j : Int) < (n : Int) := by omega
  have hz' : (sizeOf (P.elem t)).run P w = .ok 1 w := by rw [he]; exact hz w
  have := run_indexAt_slice (P := P) (w := w) t ⟨h, off, none⟩ n cap k (j : Int) ht'
  rw [if_pos ⟨by omega, h5⟩, hz'] at this
  simp only [execOp, h1, h2, Sem.run_bind, this, Result.andThen_ok, Sem.run_pure]
  simp [addr_add]
set_option maxRecDepth 100000 in
set_option maxHeartbeats 4000000 in
theorem sorted_any (A : Option Addr) (n c : Nat) (l : List Int) (w : World) (hn : n ≤ 65536) (h : Rd w w.heap.size 1 A n (l.map (Value.int .i64))) :
    Calls Try.prog 55 #[.slice A n c] w (RetOwn w 3 1 n ((srtL l).map (Value.int .i64)) id) := by
  have hl : l.length = n := by have := h.1; simpa using this
  have H := Lib.hid h; have HL := Lib.hid hl; clear h hl
  obtain ⟨i0, hi0, hz0, hz1, hz2⟩ := info_parts info_int
  have HI0 := Lib.hid hi0; have HZ0 := Lib.hid hz0; have HZ1 := Lib.hid hz1; have HZ2 := Lib.hid hz2
  clear hi0 hz0 hz1 hz2
  go_enter Try.func55, Try.ntmps55
  go_wp2
  go_loopw [3, 4] (fun v i wr => ∃ k : Nat, k ≤ n ∧ i = .int .i64 k ∧ wr.ownsRow w.heap.size 3 1 v k ((srtL (l.take k)).map (Value.int .i64)) ∧ Below w.heap.size w wr) (fun _ i _ => n - (intOf i).toNat)
  case atStart => exact ⟨0, Nat.zero_le _, rfl, by simpa [srtL] using World.ownsRow_nil _ _ _ _, Below.refl _ _⟩
  case round =>
    obtain ⟨k, hk, rfl, hown, hbw⟩ := hrel
    by_cases hlt : k < n
    · have hki : (k : Int) < (n : Int) := by omega
      have hlk : k < l.length := by rw [HL.out]; exact hlt
      obtain ⟨lb, lo, rfl, hlb, hcl⟩ := H.out.2 (by omega)
      have hx : wr.cell? ⟨lb, lo + k, none⟩ = some (.int .i64 (l.getD k 0)) := (hbw.cell (p := ⟨lb, lo + k, none⟩) hlb).trans (hcl k _ (i64_cells_get l k hlk))
      obtain ⟨out, hout⟩ : ∃ out, out = srtL (l.take k) := ⟨_, rfl⟩
      have hol : out.length = k := by rw [hout, srtL_len, List.length_take]; omega
      have HN : Hid (srtL (l.take (k + 1)) = insL out (l.getD k 0)) := Lib.hid (by
        rw [take_snoc _ _ hlk, srtL_snoc, hout]; simp [List.getD, List.getElem?_eq_getElem hlk])
      rw [← hout] at hown
      obtain ⟨Ao, co, hv, hco⟩ := own_form hown
      subst hv
      generalize l.getD k 0 = x at hx HN
      have HO := Lib.hid hown; have HB := Lib.hid hbw; have HOL := Lib.hid hol
      clear hown hbw hout hol hlk hcl
      obtain ⟨wp, rfl⟩ : ∃ wp : World, wp = wr := ⟨_, rfl⟩
      go_wp2
      go_loopw [5] (fun i wr => ∃ q : Nat, q ≤ k ∧ i = .int .i64 q ∧ (∀ j, j < q → out.getD j 0 < x) ∧ Qw wp wr) (fun i _ => k - (intOf i).toNat)
      case atStart => exact ⟨0, Nat.zero_le _, rfl, fun j hj => absurd hj (by omega), Qw.refl _⟩
      case round =>
        obtain ⟨q, hq, rfl, hall, hqw⟩ := hrel
        have HA := Lib.hid hall; have HQ := Lib.hid hqw
        have hx2 : wr.cell? ⟨lb, lo + k, none⟩ = some (.int .i64 x) := (hqw.cell _).trans hx
        clear hall hqw
        by_cases hqk : q < k
        · have hqi : (q : Int) < (k : Int) := by omega
          obtain ⟨ob, oo, rfl, hob, hoc⟩ := (Rd.own HO.out).2 (by omega)
          have hy : wr.cell? ⟨ob, oo + q, none⟩ = some (.int .i64 (out.getD q 0)) := (HQ.out.cell _).trans (hoc q _ (i64_cells_get out q (by rw [HOL.out]; exact hqk)))
          have HD : Hid (∀ y, out.getD q 0 = y → y < x → ∀ j, j < q + 1 → out.getD j 0 < x) := Lib.hid (fun y h1 h2 j hj => by
            rcases Nat.lt_or_ge j q with h3 | h3
            · exact HA.out j h3
            · rw [show j = q by omega, h1]; exact h2)
          obtain ⟨y, hyy⟩ : ∃ y, out.getD q 0 = y := ⟨_, rfl⟩
          rw [hyy] at hy
          have HYY := Lib.hid hyy
          clear hoc hyy
          by_cases hxy : y < x
          · go_wp2_with fail
            -- <REGION go
            refine wp_region_noPanic ?_
            refine wp_region_held_drew (S := fun w' => w'.cell? ⟨ob, oo + q, none⟩ = some (.int .i64 y) ∧ w'.cell? ⟨lb, lo + k, none⟩ = some (.int .i64 x)) (by kernel_rfl) ?_ (fun hHeld => ?_)
            · (try dsimp only); exact ⟨hy, hx2⟩
            refine wpAnyH_take (i := 0) (oi := ⟨some 12, _, _, _, _, _⟩) (v := ?_) rfl (by kernel_rfl) (by kernel_rfl) (by kernel_rfl) (fun _ _ _ h => h) (Or.inl ⟨by rfl, ?_⟩) (by assumption) ?_
            rotate_left
            · (intro w hSw; (try dsimp only at hSw); go_simp; try with_reducible rfl)
            try simp only [Act.put, List.setIfInBounds_toArray, List.set_cons_zero, List.set_cons_succ]
            refine wpAnyH_take (i := 1) (oi := ⟨some 13, _, _, _, _, _⟩) (v := ?_) rfl (by kernel_rfl) (by kernel_rfl) (by kernel_rfl) (fun _ _ _ h => h) (Or.inl ⟨by rfl, ?_⟩) (by assumption) ?_
            rotate_left
            · (intro w hSw; (try dsimp only at hSw); go_simp; try with_reducible rfl)
            try simp only [Act.put, List.setIfInBounds_toArray, List.set_cons_zero, List.set_cons_succ]
            refine wpAnyH_take (i := 2) (oi := ⟨some 14, _, _, _, _, _⟩) (v := ?_) rfl (by kernel_rfl) (by kernel_rfl) (by kernel_rfl) (fun _ _ _ h => h) (Or.inl ⟨by rfl, ?_⟩) (by assumption) ?_
            rotate_left
            · (intro w hSw; (try dsimp only at hSw); go_simp; try with_reducible rfl)
            try simp only [Act.put, List.setIfInBounds_toArray, List.set_cons_zero, List.set_cons_succ]
            refine wpAnyH_take (i := 3) (oi := ⟨some 15, _, _, _, _, _⟩) (v := .bool true) rfl (by kernel_rfl) (by kernel_rfl) (by kernel_rfl) (fun _ _ _ h => h) (Or.inl ⟨by rfl, ?_⟩) (by assumption) ?_
            · (intro w hSw; (try dsimp only at hSw); first | (go_simp; done) | (go_simp; (try simp only [decide_eq_false_iff_not, decide_eq_true_eq, Value.bool.injEq, Next.value.injEq, Result.ok.injEq, and_true]); omega))
            try simp only [Act.put, List.setIfInBounds_toArray, List.set_cons_zero, List.set_cons_succ]
            refine wpAnyH_take (i := 4) (oi := ⟨some 16, _, _, _, _, _⟩) (v := ?_) rfl (by kernel_rfl) (by kernel_rfl) (by kernel_rfl) (fun _ _ _ h => h) (Or.inl ⟨by rfl, ?_⟩) (by assumption) ?_
            rotate_left
            · (intro w hSw; (try dsimp only at hSw); go_simp; try with_reducible rfl)
            try simp only [Act.put, List.setIfInBounds_toArray, List.set_cons_zero, List.set_cons_succ]
            refine wpAnyH_take (i := 5) (oi := ⟨some 17, _, _, _, _, _⟩) (v := ?_) rfl (by kernel_rfl) (by kernel_rfl) (by kernel_rfl) (fun _ _ _ h => h) (Or.inl ⟨by rfl, ?_⟩) (by assumption) ?_
            rotate_left
            · (intro w hSw; (try dsimp only at hSw); go_simp; try with_reducible rfl)
            try simp only [Act.put, List.setIfInBounds_toArray, List.set_cons_zero, List.set_cons_succ]
            refine wpAnyH_take (i := 6) (oi := ⟨some 18, _, _, _, _, _⟩) (v := ?_) rfl (by kernel_rfl) (by kernel_rfl) (by kernel_rfl) (fun _ _ _ h => h) (Or.inl ⟨by rfl, ?_⟩) (by assumption) ?_
            rotate_left
            · (intro w hSw; (try dsimp only at hSw); go_simp; try with_reducible rfl)
            try simp only [Act.put, List.setIfInBounds_toArray, List.set_cons_zero, List.set_cons_succ]
            refine wpAnyH_take (i := 7) (oi := ⟨some 19, _, _, _, _, _⟩) (v := .pointer (some ⟨ob, oo + q, none⟩)) rfl (by kernel_rfl) (by kernel_rfl) (by kernel_rfl) (fun _ _ _ h => h) (Or.inl ⟨by rfl, ?_⟩) (by assumption) ?_
            · (intro w hSw; (try dsimp only at hSw); exact exec_idx' Try.underlying38 Try.sizeOf3 rfl rfl (by omega) w)
            try simp only [Act.put, List.setIfInBounds_toArray, List.set_cons_zero, List.set_cons_succ]
            refine wpAnyH_take (i := 8) (oi := ⟨some 20, _, _, _, _, _⟩) (v := ?_) rfl (by kernel_rfl) (by kernel_rfl) (by kernel_rfl) (fun _ _ _ h => h) (Or.inl ⟨by rfl, ?_⟩) (by assumption) ?_
            rotate_left
            · (intro w hSw; (try dsimp only at hSw); go_simp; try with_reducible rfl)
            try simp only [Act.put, List.setIfInBounds_toArray, List.set_cons_zero, List.set_cons_succ]
            refine wpAnyH_take (i := 9) (oi := ⟨some 21, _, _, _, _, _⟩) (v := ?_) rfl (by kernel_rfl) (by kernel_rfl) (by kernel_rfl) (fun _ _ _ h => h) (Or.inl ⟨by rfl, ?_⟩) (by assumption) ?_
            rotate_left
            · (intro w hSw; (try dsimp only at hSw); go_simp; try with_reducible rfl)
            try simp only [Act.put, List.setIfInBounds_toArray, List.set_cons_zero, List.set_cons_succ]
            refine wpAnyH_take (i := 10) (oi := ⟨some 22, _, _, _, _, _⟩) (v := ?_) rfl (by kernel_rfl) (by kernel_rfl) (by kernel_rfl) (fun _ _ _ h => h) (Or.inl ⟨by rfl, ?_⟩) (by assumption) ?_
            rotate_left
            · (intro w hSw; (try dsimp only at hSw); go_simp; try with_reducible rfl)
            try simp only [Act.put, List.setIfInBounds_toArray, List.set_cons_zero, List.set_cons_succ]
            refine wpAnyH_take (i := 11) (oi := ⟨some 23, _, _, _, _, _⟩) (v := .pointer (some ⟨lb, lo + k, none⟩)) rfl (by kernel_rfl) (by kernel_rfl) (by kernel_rfl) (fun _ _ _ h => h) (Or.inl ⟨by rfl, ?_⟩) (by assumption) ?_
            · (intro w hSw; (try dsimp only at hSw); exact exec_idx' Try.underlying38 Try.sizeOf3 rfl rfl (by omega) w)
            try simp only [Act.put, List.setIfInBounds_toArray, List.set_cons_zero, List.set_cons_succ]
            refine wpAnyH_take (i := 12) (oi := ⟨some 24, _, _, _, _, _⟩) (v := ?_) rfl (by kernel_rfl) (by kernel_rfl) (by kernel_rfl) (fun _ _ _ h => h) (Or.inl ⟨by rfl, ?_⟩) (by assumption) ?_
            rotate_left
            · (intro w hSw; (try dsimp only at hSw); go_simp; try with_reducible rfl)
            try simp only [Act.put, List.setIfInBounds_toArray, List.set_cons_zero, List.set_cons_succ]
            refine wpAnyH_take (i := 13) (oi := ⟨some 25, _, _, _, _, _⟩) (v := .bool true) rfl (by kernel_rfl) (by kernel_rfl) (by kernel_rfl) (fun _ _ _ h => h) (Or.inl ⟨by rfl, ?_⟩) (by assumption) ?_
            · (intro w hSw; (try dsimp only at hSw); first | (go_simp; done) | (go_simp; (try simp only [decide_eq_false_iff_not, decide_eq_true_eq, Value.bool.injEq, Next.value.injEq, Result.ok.injEq, and_true]); omega))
            try simp only [Act.put, List.setIfInBounds_toArray, List.set_cons_zero, List.set_cons_succ]
            refine wpAnyH_take (i := 14) (oi := ⟨some 26, _, _, _, _, _⟩) (v := ?_) rfl (by kernel_rfl) (by kernel_rfl) (by kernel_rfl) (fun _ _ _ h => h) (Or.inl ⟨by rfl, ?_⟩) (by assumption) ?_
            rotate_left
            · (intro w hSw; (try dsimp only at hSw); go_simp; try with_reducible rfl)
            try simp only [Act.put, List.setIfInBounds_toArray, List.set_cons_zero, List.set_cons_succ]
            refine wpAnyH_done (by kernel_rfl) ?_ _
            refine NoPanic.normal ?_
            go_wp2_with fail
            go_roundw
            case rel => exact ⟨q + 1, by omega, by go_num, HD.out y HYY.out hxy, HQ.out.drew⟩
            case measure => simp [intOf]; omega
            -- REGION>
          ·
            have HOr : wr.ownsRow w.heap.size 3 1 (.slice (some ⟨ob, oo, none⟩) k co) k (out.map (Value.int .i64)) := by obtain ⟨d, hd⟩ := HQ.out; rw [hd]; exact HO.out
            have hBr : Below w.heap.size w wr := HB.out.trans (HQ.out.below _)
            have HBR := Lib.hid hBr
            have hins : insAt out x = q := insAt_eq out x q HA.out (by rw [HOL.out]; exact hq) (.inr (by rw [HYY.out]; exact hxy))
            have hqc : q ≤ k := hq
            obtain ⟨P, hsP, hrP⟩ := slice_head (P := Try.prog) (t := 38) (sz := 1) Try.underlying38 Try.sizeOf3 (Rd.own HOr) (q : Int) q co rfl hqc hco
            obtain ⟨Q, hsQ, hrQ⟩ := slice_tail (P := Try.prog) (t := 38) (sz := 1) Try.underlying38 Try.sizeOf3 (Rd.own HOr) q co hqc hco
            obtain ⟨xs1, hxs1⟩ : ∃ xs1, xs1 = ((out.map (Value.int .i64)).take (q * 1)) := ⟨_, rfl⟩
            obtain ⟨xs2, hxs2⟩ : ∃ xs2, xs2 = (((out.map (Value.int .i64)).drop (q * 1)).take ((k - q) * 1)) := ⟨_, rfl⟩
            rw [← hxs1] at hrP
            rw [← hxs2] at hrQ
            have hm1 : ∀ u ∈ xs1, u ∈ out.map (Value.int .i64) := fun u hu => by rw [hxs1] at hu; exact List.mem_of_mem_take hu
            have hm2 : ∀ u ∈ xs2, u ∈ out.map (Value.int .i64) := fun u hu => by rw [hxs2] at hu; exact List.mem_of_mem_drop (List.mem_of_mem_take hu)
            have hlt9 : lb < wr.heap.size := Nat.lt_of_lt_of_le hlb hBr.size
            have hS0 : SrtS wr wr.heap.size lb (lo + k) x P q xs1 Q (k - q) xs2 wr := ⟨Nat.le_refl _, hx2, hlt9, hrP, hrQ, Below.refl _ _⟩
            have HI := Lib.hid hins; have HX1 := Lib.hid hxs1; have HX2 := Lib.hid hxs2; have HM1 := Lib.hid hm1; have HM2 := Lib.hid hm2; have HS0 := Lib.hid hS0
            clear hins hxs1 hxs2 hm1 hm2 HOr hBr hrP hrQ hS0
            go_wp2_with fail
            -- <REGION stop
            refine wp_region_noPanic ?_
            refine wp_region_held_drew (S := fun w' => w'.cell? ⟨ob, oo + q, none⟩ = some (.int .i64 y) ∧ w'.cell? ⟨lb, lo + k, none⟩ = some (.int .i64 x)) (by kernel_rfl) ?_ (fun hHeld => ?_)
            · (try dsimp only); exact ⟨hy, hx2⟩
            refine wpAnyH_take (i := 0) (oi := ⟨some 12, _, _, _, _, _⟩) (v := ?_) rfl (by kernel_rfl) (by kernel_rfl) (by kernel_rfl) (fun _ _ _ h => h) (Or.inl ⟨by rfl, ?_⟩) (by assumption) ?_
            rotate_left
            · (intro w hSw; (try dsimp only at hSw); go_simp; try with_reducible rfl)
            try simp only [Act.put, List.setIfInBounds_toArray, List.set_cons_zero, List.set_cons_succ]
            refine wpAnyH_take (i := 1) (oi := ⟨some 13, _, _, _, _, _⟩) (v := ?_) rfl (by kernel_rfl) (by kernel_rfl) (by kernel_rfl) (fun _ _ _ h => h) (Or.inl ⟨by rfl, ?_⟩) (by assumption) ?_
            rotate_left
            · (intro w hSw; (try dsimp only at hSw); go_simp; try with_reducible rfl)
            try simp only [Act.put, List.setIfInBounds_toArray, List.set_cons_zero, List.set_cons_succ]
            refine wpAnyH_take (i := 2) (oi := ⟨some 14, _, _, _, _, _⟩) (v := ?_) rfl (by kernel_rfl) (by kernel_rfl) (by kernel_rfl) (fun _ _ _ h => h) (Or.inl ⟨by rfl, ?_⟩) (by assumption) ?_
            rotate_left
            · (intro w hSw; (try dsimp only at hSw); go_simp; try with_reducible rfl)
            try simp only [Act.put, List.setIfInBounds_toArray, List.set_cons_zero, List.set_cons_succ]
            refine wpAnyH_take (i := 3) (oi := ⟨some 15, _, _, _, _, _⟩) (v := .bool true) rfl (by kernel_rfl) (by kernel_rfl) (by kernel_rfl) (fun _ _ _ h => h) (Or.inl ⟨by rfl, ?_⟩) (by assumption) ?_
            · (intro w hSw; (try dsimp only at hSw); first | (go_simp; done) | (go_simp; (try simp only [decide_eq_false_iff_not, decide_eq_true_eq, Value.bool.injEq, Next.value.injEq, Result.ok.injEq, and_true]); omega))
            try simp only [Act.put, List.setIfInBounds_toArray, List.set_cons_zero, List.set_cons_succ]
            refine wpAnyH_take (i := 4) (oi := ⟨some 16, _, _, _, _, _⟩) (v := ?_) rfl (by kernel_rfl) (by kernel_rfl) (by kernel_rfl) (fun _ _ _ h => h) (Or.inl ⟨by rfl, ?_⟩) (by assumption) ?_
            rotate_left
            · (intro w hSw; (try dsimp only at hSw); go_simp; try with_reducible rfl)
            try simp only [Act.put, List.setIfInBounds_toArray, List.set_cons_zero, List.set_cons_succ]
            refine wpAnyH_take (i := 5) (oi := ⟨some 17, _, _, _, _, _⟩) (v := ?_) rfl (by kernel_rfl) (by kernel_rfl) (by kernel_rfl) (fun _ _ _ h => h) (Or.inl ⟨by rfl, ?_⟩) (by assumption) ?_
            rotate_left
            · (intro w hSw; (try dsimp only at hSw); go_simp; try with_reducible rfl)
            try simp only [Act.put, List.setIfInBounds_toArray, List.set_cons_zero, List.set_cons_succ]
            refine wpAnyH_take (i := 6) (oi := ⟨some 18, _, _, _, _, _⟩) (v := ?_) rfl (by kernel_rfl) (by kernel_rfl) (by kernel_rfl) (fun _ _ _ h => h) (Or.inl ⟨by rfl, ?_⟩) (by assumption) ?_
            rotate_left
            · (intro w hSw; (try dsimp only at hSw); go_simp; try with_reducible rfl)
            try simp only [Act.put, List.setIfInBounds_toArray, List.set_cons_zero, List.set_cons_succ]
            refine wpAnyH_take (i := 7) (oi := ⟨some 19, _, _, _, _, _⟩) (v := .pointer (some ⟨ob, oo + q, none⟩)) rfl (by kernel_rfl) (by kernel_rfl) (by kernel_rfl) (fun _ _ _ h => h) (Or.inl ⟨by rfl, ?_⟩) (by assumption) ?_
            · (intro w hSw; (try dsimp only at hSw); exact exec_idx' Try.underlying38 Try.sizeOf3 rfl rfl (by omega) w)
            try simp only [Act.put, List.setIfInBounds_toArray, List.set_cons_zero, List.set_cons_succ]
            refine wpAnyH_take (i := 8) (oi := ⟨some 20, _, _, _, _, _⟩) (v := ?_) rfl (by kernel_rfl) (by kernel_rfl) (by kernel_rfl) (fun _ _ _ h => h) (Or.inl ⟨by rfl, ?_⟩) (by assumption) ?_
            rotate_left
            · (intro w hSw; (try dsimp only at hSw); go_simp; try with_reducible rfl)
            try simp only [Act.put, List.setIfInBounds_toArray, List.set_cons_zero, List.set_cons_succ]
            refine wpAnyH_take (i := 9) (oi := ⟨some 21, _, _, _, _, _⟩) (v := ?_) rfl (by kernel_rfl) (by kernel_rfl) (by kernel_rfl) (fun _ _ _ h => h) (Or.inl ⟨by rfl, ?_⟩) (by assumption) ?_
            rotate_left
            · (intro w hSw; (try dsimp only at hSw); go_simp; try with_reducible rfl)
            try simp only [Act.put, List.setIfInBounds_toArray, List.set_cons_zero, List.set_cons_succ]
            refine wpAnyH_take (i := 10) (oi := ⟨some 22, _, _, _, _, _⟩) (v := ?_) rfl (by kernel_rfl) (by kernel_rfl) (by kernel_rfl) (fun _ _ _ h => h) (Or.inl ⟨by rfl, ?_⟩) (by assumption) ?_
            rotate_left
            · (intro w hSw; (try dsimp only at hSw); go_simp; try with_reducible rfl)
            try simp only [Act.put, List.setIfInBounds_toArray, List.set_cons_zero, List.set_cons_succ]
            refine wpAnyH_take (i := 11) (oi := ⟨some 23, _, _, _, _, _⟩) (v := .pointer (some ⟨lb, lo + k, none⟩)) rfl (by kernel_rfl) (by kernel_rfl) (by kernel_rfl) (fun _ _ _ h => h) (Or.inl ⟨by rfl, ?_⟩) (by assumption) ?_
            · (intro w hSw; (try dsimp only at hSw); exact exec_idx' Try.underlying38 Try.sizeOf3 rfl rfl (by omega) w)
            try simp only [Act.put, List.setIfInBounds_toArray, List.set_cons_zero, List.set_cons_succ]
            refine wpAnyH_take (i := 12) (oi := ⟨some 24, _, _, _, _, _⟩) (v := ?_) rfl (by kernel_rfl) (by kernel_rfl) (by kernel_rfl) (fun _ _ _ h => h) (Or.inl ⟨by rfl, ?_⟩) (by assumption) ?_
            rotate_left
            · (intro w hSw; (try dsimp only at hSw); go_simp; try with_reducible rfl)
            try simp only [Act.put, List.setIfInBounds_toArray, List.set_cons_zero, List.set_cons_succ]
            refine wpAnyH_take (i := 13) (oi := ⟨some 25, _, _, _, _, _⟩) (v := .bool false) rfl (by kernel_rfl) (by kernel_rfl) (by kernel_rfl) (fun _ _ _ h => h) (Or.inl ⟨by rfl, ?_⟩) (by assumption) ?_
            · (intro w hSw; (try dsimp only at hSw); first | (go_simp; done) | (go_simp; (try simp only [decide_eq_false_iff_not, decide_eq_true_eq, Value.bool.injEq, Next.value.injEq, Result.ok.injEq, and_true]); omega))
            try simp only [Act.put, List.setIfInBounds_toArray, List.set_cons_zero, List.set_cons_succ]
            refine wpAnyH_take (i := 14) (oi := ⟨some 26, _, _, _, _, _⟩) (v := ?_) rfl (by kernel_rfl) (by kernel_rfl) (by kernel_rfl) (fun _ _ _ h => h) (Or.inl ⟨by rfl, ?_⟩) (by assumption) ?_
            rotate_left
            · (intro w hSw; (try dsimp only at hSw); go_simp; try with_reducible rfl)
            try simp only [Act.put, List.setIfInBounds_toArray, List.set_cons_zero, List.set_cons_succ]
            refine wpAnyH_done (by kernel_rfl) ?_ _
            refine NoPanic.normal ?_
            go_wp2_with fail
            refine wp_region_noPanic ?_
            refine wp_region_held_drew (S := SrtS wr wr.heap.size lb (lo + k) x P q xs1 Q (k - q) xs2) (by kernel_rfl) ?_ (fun hHeld => ?_)
            · (try dsimp only); first | exact HS0.out.drew.drew | exact hS3 | exact hS2 | exact hS1 | exact SrtS.alloc hHeld _
            refine wpAnyH_take (i := 1) (oi := ⟨some 30, _, _, _, _, _⟩) (v := ?_) rfl (by kernel_rfl) (by kernel_rfl) (by kernel_rfl) (fun _ _ _ h => h) (Or.inl ⟨by rfl, ?_⟩) (by assumption) ?_
            rotate_left
            · (intro w hSw; (try dsimp only at hSw); go_simp; try with_reducible rfl)
            try simp only [Act.put, List.setIfInBounds_toArray, List.set_cons_zero, List.set_cons_succ]
            refine wpAnyH_take (i := 2) (oi := ⟨some 31, _, _, _, _, _⟩) (v := ?_) rfl (by kernel_rfl) (by kernel_rfl) (by kernel_rfl) (fun _ _ _ h => h) (Or.inl ⟨by rfl, ?_⟩) (by assumption) ?_
            rotate_left
            · (intro w hSw; (try dsimp only at hSw); go_simp; try with_reducible rfl)
            try simp only [Act.put, List.setIfInBounds_toArray, List.set_cons_zero, List.set_cons_succ]
            refine wpAnyH_take (i := 3) (oi := ⟨some 32, _, _, _, _, _⟩) (v := ?_) rfl (by kernel_rfl) (by kernel_rfl) (by kernel_rfl) (fun _ _ _ h => h) (Or.inl ⟨by rfl, ?_⟩) (by assumption) ?_
            rotate_left
            · (intro w hSw; (try dsimp only at hSw); go_simp; try with_reducible rfl)
            try simp only [Act.put, List.setIfInBounds_toArray, List.set_cons_zero, List.set_cons_succ]
            refine wpAnyH_take (i := 5) (oi := ⟨some 34, _, _, _, _, _⟩) (v := ?_) rfl (by kernel_rfl) (by kernel_rfl) (by kernel_rfl) (fun _ _ _ h => h) (Or.inl ⟨by rfl, ?_⟩) (by assumption) ?_
            rotate_left
            · (intro w hSw; (try dsimp only at hSw); go_simp; try with_reducible rfl)
            try simp only [Act.put, List.setIfInBounds_toArray, List.set_cons_zero, List.set_cons_succ]
            refine wpAnyH_take (i := 6) (oi := ⟨some 35, _, _, _, _, _⟩) (v := ?_) rfl (by kernel_rfl) (by kernel_rfl) (by kernel_rfl) (fun _ _ _ h => h) (Or.inl ⟨by rfl, ?_⟩) (by assumption) ?_
            rotate_left
            · (intro w hSw; (try dsimp only at hSw); go_simp; try with_reducible rfl)
            try simp only [Act.put, List.setIfInBounds_toArray, List.set_cons_zero, List.set_cons_succ]
            refine wpAnyH_take (i := 7) (oi := ⟨some 36, _, _, _, _, _⟩) (v := .pointer (some ⟨lb, lo + k, none⟩)) rfl (by kernel_rfl) (by kernel_rfl) (by kernel_rfl) (fun _ _ _ h => h) (Or.inl ⟨by rfl, ?_⟩) (by assumption) ?_
            · (intro w hSw; (try dsimp only at hSw); exact exec_idx' Try.underlying38 Try.sizeOf3 rfl rfl (by omega) w)
            try simp only [Act.put, List.setIfInBounds_toArray, List.set_cons_zero, List.set_cons_succ]
            refine wpAnyH_take (i := 8) (oi := ⟨some 37, _, _, _, _, _⟩) (v := .int .i64 x) rfl (by kernel_rfl) (by kernel_rfl) (by kernel_rfl) (fun _ _ _ h => h) (Or.inl ⟨by rfl, ?_⟩) (by assumption) ?_
            · (intro w hSw; (try dsimp only at hSw); have hcx := SrtS.cx hSw; go_simp)
            try simp only [Act.put, List.setIfInBounds_toArray, List.set_cons_zero, List.set_cons_succ]
            refine wpAnyH_take (i := 11) (oi := ⟨some 40, _, _, _, _, _⟩) (v := ?_) rfl (by kernel_rfl) (by kernel_rfl) (by kernel_rfl) (fun _ _ _ h => h) (Or.inl ⟨by rfl, ?_⟩) (by assumption) ?_
            rotate_left
            · (intro w hSw; (try dsimp only at hSw); go_simp; try with_reducible rfl)
            try simp only [Act.put, List.setIfInBounds_toArray, List.set_cons_zero, List.set_cons_succ]
            refine wpAnyH_take (i := 12) (oi := ⟨some 41, _, _, _, _, _⟩) (v := ?_) rfl (by kernel_rfl) (by kernel_rfl) (by kernel_rfl) (fun _ _ _ h => h) (Or.inl ⟨by rfl, ?_⟩) (by assumption) ?_
            rotate_left
            · (intro w hSw; (try dsimp only at hSw); go_simp; try with_reducible rfl)
            try simp only [Act.put, List.setIfInBounds_toArray, List.set_cons_zero, List.set_cons_succ]
            refine wpAnyH_take (i := 13) (oi := ⟨some 42, _, _, _, _, _⟩) (v := ?_) rfl (by kernel_rfl) (by kernel_rfl) (by kernel_rfl) (fun _ _ _ h => h) (Or.inl ⟨by rfl, ?_⟩) (by assumption) ?_
            rotate_left
            · (intro w hSw; (try dsimp only at hSw); go_simp; try with_reducible rfl)
            try simp only [Act.put, List.setIfInBounds_toArray, List.set_cons_zero, List.set_cons_succ]
            refine wpAnyH_ready (rs := [0, 9]) (by kernel_rfl) (by simp) ?_
            refine AllReadyH.cons (o := ⟨some 29, _, _, _, _, _⟩) rfl (fun K hK => ?_) ?_
            · skip
              go_simp
              refine hK.out _ _ ?_ (fun hHeld => ?_)
              · (try dsimp only); first | exact HS0.out.drew.drew | exact hS3 | exact hS2 | exact hS1 | exact SrtS.alloc hHeld _
              clear hK K
              try simp only [Act.put, List.setIfInBounds_toArray, List.set_cons_zero, List.set_cons_succ]
              refine wpAnyH_ready (rs := [4, 9]) (by kernel_rfl) (by simp) ?_
              refine AllReadyH.cons (o := ⟨some 33, _, _, _, _, _⟩) rfl (fun K hK => ?_) ?_
              · skip
                refine step_append_rd _ (by rfl) (.tmp 29) (.tmp 32) _ (by rfl) wr.heap.size 3 i0 _ 1 8 Try.underlying38 HI0.out HZ0.out HZ1.out HZ2.out rfl (by decide) (.slice (some ⟨wr.heap.size, 0, none⟩) 0 0) 0 [] (by rfl) (by exact ((World.ownsRow_made (base := wr.heap.size) wr #[] 0 (by simp) (by simp [maxLen]) (by simp)))) _ P q _ _ (by rfl) (by exact hHeld.r1) (by intro u hu; obtain ⟨_, _, rfl⟩ := List.mem_map.1 (HM1.out u hu); rfl) (by unfold maxLen; omega) (by omega) (by exact hHeld.sz) ?_
                intro v1 w1 hown1 hg1; have hS1 := hHeld.grown hg1 (fun g hg => by cases hg; simp)
                refine hK.out _ _ ?_ (fun hHeld => ?_)
                · (try dsimp only); first | exact HS0.out.drew.drew | exact hS3 | exact hS2 | exact hS1 | exact SrtS.alloc hHeld _
                clear hK K
                try simp only [Act.put, List.setIfInBounds_toArray, List.set_cons_zero, List.set_cons_succ]
                refine wpAnyH_ready (rs := [9]) (by kernel_rfl) (by simp) ?_
                refine AllReadyH.cons (o := ⟨some 38, _, _, _, _, _⟩) rfl (fun K hK => ?_) AllReadyH.nil
                go_simp
                refine hK.out _ _ ?_ (fun hHeld => ?_)
                · (try dsimp only); first | exact HS0.out.drew.drew | exact hS3 | exact hS2 | exact hS1 | exact SrtS.alloc hHeld _
                clear hK K
                try simp only [Act.put, List.setIfInBounds_toArray, List.set_cons_zero, List.set_cons_succ]
                refine wpAnyH_ready (rs := [10]) (by kernel_rfl) (by simp) ?_
                refine AllReadyH.cons (o := ⟨some 39, _, _, _, _, _⟩) rfl (fun K hK => ?_) AllReadyH.nil
                refine step_append_rd _ (by rfl) (.tmp 33) (.tmp 38) _ (by rfl) wr.heap.size 3 i0 _ 1 8 Try.underlying38 HI0.out HZ0.out HZ1.out HZ2.out rfl (by decide) _ _ _ (by rfl) (by exact hown1.alloc _) _ _ 1 _ [.int .i64 x] (by rfl) (by exact (Rd.row (heap_alloc_new _ _) rfl)) (by intro u hu; obtain rfl := List.mem_singleton.1 hu; rfl) (by unfold maxLen; omega) (by omega) (by exact hHeld.sz) ?_
                intro v2 w2 hown2 hg2; have hS2 := hHeld.grown hg2 (fun g hg => (hown1.lt g hg).1)
                refine hK.out _ _ ?_ (fun hHeld => ?_)
                · (try dsimp only); first | exact HS0.out.drew.drew | exact hS3 | exact hS2 | exact hS1 | exact SrtS.alloc hHeld _
                clear hK K
                try simp only [Act.put, List.setIfInBounds_toArray, List.set_cons_zero, List.set_cons_succ]
                refine wpAnyH_ready (rs := [14]) (by kernel_rfl) (by simp) ?_
                refine AllReadyH.cons (o := ⟨some 43, _, _, _, _, _⟩) rfl (fun K hK => ?_) AllReadyH.nil
                refine step_append_rd _ (by rfl) (.tmp 39) (.tmp 42) _ (by rfl) wr.heap.size 3 i0 _ 1 8 Try.underlying38 HI0.out HZ0.out HZ1.out HZ2.out rfl (by decide) _ _ _ (by rfl) (by exact hown2) _ Q (k - q) _ xs2 (by rfl) (by exact hHeld.r2) (by intro u hu; obtain ⟨_, _, rfl⟩ := List.mem_map.1 (HM2.out u hu); rfl) (by unfold maxLen; omega) (by omega) (by exact hHeld.sz) ?_
                intro v3 w3 hown3 hg3; have hS3 := hHeld.grown hg3 (fun g hg => (hown2.lt g hg).1)
                refine hK.out _ _ ?_ (fun hHeld => ?_)
                · (try dsimp only); first | exact HS0.out.drew.drew | exact hS3 | exact hS2 | exact hS1 | exact SrtS.alloc hHeld _
                clear hK K
                try simp only [Act.put, List.setIfInBounds_toArray, List.set_cons_zero, List.set_cons_succ]
                refine wpAnyH_take (i := 15) (oi := ⟨some 3, _, _, _, _, _⟩) (v := ?_) rfl (by kernel_rfl) (by kernel_rfl) (by kernel_rfl) (fun _ _ _ h => h) (Or.inl ⟨by rfl, ?_⟩) (by assumption) ?_
                rotate_left
                · (intro w hSw; (try dsimp only at hSw); go_simp; try with_reducible rfl)
                try simp only [Act.put, List.setIfInBounds_toArray, List.set_cons_zero, List.set_cons_succ]
                refine wpAnyH_done (by kernel_rfl) ?_ _
                refine NoPanic.normal ?_
                have hR := ownsRow_base hown3 (base' := w.heap.size) HBR.out.size
                rw [HX1.out, HX2.out, ins_cells out x q k HOL.out HI.out, ← HN.out, show 0 + q + 1 + (k - q) = k + 1 by omega] at hR
                have hB3 := HBR.out.trans (hS3.bb.mono HBR.out.size)
                have HR := Lib.hid hR; have HB3 := Lib.hid hB3
                clear hR hB3 hown1 hown2 hown3 hg1 hg2 hg3 hS1 hS2 hS3 hHeld
                go_wp2_with fail
                go_roundw
                case rel => exact ⟨k + 1, by omega, by go_num, HR.out, HB3.out⟩
                case measure => simp [intOf]; omega
              refine AllReadyH.cons (o := ⟨some 38, _, _, _, _, _⟩) rfl (fun K hK => ?_) AllReadyH.nil
              go_simp
              refine hK.out _ _ ?_ (fun hHeld => ?_)
              · (try dsimp only); first | exact HS0.out.drew.drew | exact hS3 | exact hS2 | exact hS1 | exact SrtS.alloc hHeld _
              clear hK K
              try simp only [Act.put, List.setIfInBounds_toArray, List.set_cons_zero, List.set_cons_succ]
              refine wpAnyH_ready (rs := [4]) (by kernel_rfl) (by simp) ?_
              refine AllReadyH.cons (o := ⟨some 33, _, _, _, _, _⟩) rfl (fun K hK => ?_) AllReadyH.nil
              refine step_append_rd _ (by rfl) (.tmp 29) (.tmp 32) _ (by rfl) wr.heap.size 3 i0 _ 1 8 Try.underlying38 HI0.out HZ0.out HZ1.out HZ2.out rfl (by decide) (.slice (some ⟨wr.heap.size, 0, none⟩) 0 0) 0 [] (by rfl) (by exact ((World.ownsRow_made (base := wr.heap.size) wr #[] 0 (by simp) (by simp [maxLen]) (by simp)).alloc _)) _ P q _ _ (by rfl) (by exact hHeld.r1) (by intro u hu; obtain ⟨_, _, rfl⟩ := List.mem_map.1 (HM1.out u hu); rfl) (by unfold maxLen; omega) (by omega) (by exact hHeld.sz) ?_
              intro v1 w1 hown1 hg1; have hS1 := hHeld.grown hg1 (fun g hg => by cases hg; simp)
              have hn1 : w1.heap[(wr.heap.size + 1)]? = some (.cells [Value.int .i64 x].toArray 3 (0, 0)) := row_grown hg1 (by have h9 := heap_alloc_new (wr.alloc (.cells #[] 3)) (.cells #[.int .i64 x] 3); simp only [World.size_alloc] at h9; exact h9) (by simp [Value.ownBlock])
              refine hK.out _ _ ?_ (fun hHeld => ?_)
              · (try dsimp only); first | exact HS0.out.drew.drew | exact hS3 | exact hS2 | exact hS1 | exact SrtS.alloc hHeld _
              clear hK K
              try simp only [Act.put, List.setIfInBounds_toArray, List.set_cons_zero, List.set_cons_succ]
              refine wpAnyH_ready (rs := [10]) (by kernel_rfl) (by simp) ?_
              refine AllReadyH.cons (o := ⟨some 39, _, _, _, _, _⟩) rfl (fun K hK => ?_) AllReadyH.nil
              refine step_append_rd _ (by rfl) (.tmp 33) (.tmp 38) _ (by rfl) wr.heap.size 3 i0 _ 1 8 Try.underlying38 HI0.out HZ0.out HZ1.out HZ2.out rfl (by decide) _ _ _ (by rfl) (by exact hown1) _ _ 1 _ [.int .i64 x] (by rfl) (by exact (Rd.row hn1 rfl)) (by intro u hu; obtain rfl := List.mem_singleton.1 hu; rfl) (by unfold maxLen; omega) (by omega) (by exact hHeld.sz) ?_
              intro v2 w2 hown2 hg2; have hS2 := hHeld.grown hg2 (fun g hg => (hown1.lt g hg).1)
              refine hK.out _ _ ?_ (fun hHeld => ?_)
              · (try dsimp only); first | exact HS0.out.drew.drew | exact hS3 | exact hS2 | exact hS1 | exact SrtS.alloc hHeld _
              clear hK K
              try simp only [Act.put, List.setIfInBounds_toArray, List.set_cons_zero, List.set_cons_succ]
              refine wpAnyH_ready (rs := [14]) (by kernel_rfl) (by simp) ?_
              refine AllReadyH.cons (o := ⟨some 43, _, _, _, _, _⟩) rfl (fun K hK => ?_) AllReadyH.nil
              refine step_append_rd _ (by rfl) (.tmp 39) (.tmp 42) _ (by rfl) wr.heap.size 3 i0 _ 1 8 Try.underlying38 HI0.out HZ0.out HZ1.out HZ2.out rfl (by decide) _ _ _ (by rfl) (by exact hown2) _ Q (k - q) _ xs2 (by rfl) (by exact hHeld.r2) (by intro u hu; obtain ⟨_, _, rfl⟩ := List.mem_map.1 (HM2.out u hu); rfl) (by unfold maxLen; omega) (by omega) (by exact hHeld.sz) ?_
              intro v3 w3 hown3 hg3; have hS3 := hHeld.grown hg3 (fun g hg => (hown2.lt g hg).1)
              refine hK.out _ _ ?_ (fun hHeld => ?_)
              · (try dsimp only); first | exact HS0.out.drew.drew | exact hS3 | exact hS2 | exact hS1 | exact SrtS.alloc hHeld _
              clear hK K
              try simp only [Act.put, List.setIfInBounds_toArray, List.set_cons_zero, List.set_cons_succ]
              refine wpAnyH_take (i := 15) (oi := ⟨some 3, _, _, _, _, _⟩) (v := ?_) rfl (by kernel_rfl) (by kernel_rfl) (by kernel_rfl) (fun _ _ _ h => h) (Or.inl ⟨by rfl, ?_⟩) (by assumption) ?_
              rotate_left
              · (intro w hSw; (try dsimp only at hSw); go_simp; try with_reducible rfl)
              try simp only [Act.put, List.setIfInBounds_toArray, List.set_cons_zero, List.set_cons_succ]
              refine wpAnyH_done (by kernel_rfl) ?_ _
              refine NoPanic.normal ?_
              have hR := ownsRow_base hown3 (base' := w.heap.size) HBR.out.size
              rw [HX1.out, HX2.out, ins_cells out x q k HOL.out HI.out, ← HN.out, show 0 + q + 1 + (k - q) = k + 1 by omega] at hR
              have hB3 := HBR.out.trans (hS3.bb.mono HBR.out.size)
              have HR := Lib.hid hR; have HB3 := Lib.hid hB3
              clear hR hB3 hown1 hown2 hown3 hg1 hg2 hg3 hS1 hS2 hS3 hHeld
              go_wp2_with fail
              go_roundw
              case rel => exact ⟨k + 1, by omega, by go_num, HR.out, HB3.out⟩
              case measure => simp [intOf]; omega
            refine AllReadyH.cons (o := ⟨some 38, _, _, _, _, _⟩) rfl (fun K hK => ?_) AllReadyH.nil
            go_simp
            refine hK.out _ _ ?_ (fun hHeld => ?_)
            · (try dsimp only); first | exact HS0.out.drew.drew | exact hS3 | exact hS2 | exact hS1 | exact SrtS.alloc hHeld _
            clear hK K
            try simp only [Act.put, List.setIfInBounds_toArray, List.set_cons_zero, List.set_cons_succ]
            refine wpAnyH_ready (rs := [0]) (by kernel_rfl) (by simp) ?_
            refine AllReadyH.cons (o := ⟨some 29, _, _, _, _, _⟩) rfl (fun K hK => ?_) AllReadyH.nil
            go_simp
            refine hK.out _ _ ?_ (fun hHeld => ?_)
            · (try dsimp only); first | exact HS0.out.drew.drew | exact hS3 | exact hS2 | exact hS1 | exact SrtS.alloc hHeld _
            clear hK K
            try simp only [Act.put, List.setIfInBounds_toArray, List.set_cons_zero, List.set_cons_succ]
            refine wpAnyH_ready (rs := [4]) (by kernel_rfl) (by simp) ?_
            refine AllReadyH.cons (o := ⟨some 33, _, _, _, _, _⟩) rfl (fun K hK => ?_) AllReadyH.nil
            refine step_append_rd _ (by rfl) (.tmp 29) (.tmp 32) _ (by rfl) wr.heap.size 3 i0 _ 1 8 Try.underlying38 HI0.out HZ0.out HZ1.out HZ2.out rfl (by decide) (.slice (some ⟨wr.heap.size + 1, 0, none⟩) 0 0) 0 [] (by rfl) (by exact ((by have h9 := World.ownsRow_made (base := wr.heap.size) (e := 3) (size := 1) (wr.alloc (.cells #[.int .i64 x] 3)) #[] 0 (by simp) (by simp [maxLen]) (by simp); simp only [World.size_alloc] at h9; exact h9))) _ P q _ _ (by rfl) (by exact hHeld.r1) (by intro u hu; obtain ⟨_, _, rfl⟩ := List.mem_map.1 (HM1.out u hu); rfl) (by unfold maxLen; omega) (by omega) (by exact hHeld.sz) ?_
            intro v1 w1 hown1 hg1; have hS1 := hHeld.grown hg1 (fun g hg => by cases hg; simp)
            have hn1 : w1.heap[wr.heap.size]? = some (.cells [Value.int .i64 x].toArray 3 (0, 0)) := row_grown hg1 ((Below.heap_alloc (wr.alloc (.cells #[.int .i64 x] 3)) (.cells #[] 3) wr.heap.size (by simp)).trans (heap_alloc_new wr _)) (by simp [Value.ownBlock])
            refine hK.out _ _ ?_ (fun hHeld => ?_)
            · (try dsimp only); first | exact HS0.out.drew.drew | exact hS3 | exact hS2 | exact hS1 | exact SrtS.alloc hHeld _
            clear hK K
            try simp only [Act.put, List.setIfInBounds_toArray, List.set_cons_zero, List.set_cons_succ]
            refine wpAnyH_ready (rs := [10]) (by kernel_rfl) (by simp) ?_
            refine AllReadyH.cons (o := ⟨some 39, _, _, _, _, _⟩) rfl (fun K hK => ?_) AllReadyH.nil
            refine step_append_rd _ (by rfl) (.tmp 33) (.tmp 38) _ (by rfl) wr.heap.size 3 i0 _ 1 8 Try.underlying38 HI0.out HZ0.out HZ1.out HZ2.out rfl (by decide) _ _ _ (by rfl) (by exact hown1) _ _ 1 _ [.int .i64 x] (by rfl) (by exact (Rd.row hn1 rfl)) (by intro u hu; obtain rfl := List.mem_singleton.1 hu; rfl) (by unfold maxLen; omega) (by omega) (by exact hHeld.sz) ?_
            intro v2 w2 hown2 hg2; have hS2 := hHeld.grown hg2 (fun g hg => (hown1.lt g hg).1)
            refine hK.out _ _ ?_ (fun hHeld => ?_)
            · (try dsimp only); first | exact HS0.out.drew.drew | exact hS3 | exact hS2 | exact hS1 | exact SrtS.alloc hHeld _
            clear hK K
            try simp only [Act.put, List.setIfInBounds_toArray, List.set_cons_zero, List.set_cons_succ]
            refine wpAnyH_ready (rs := [14]) (by kernel_rfl) (by simp) ?_
            refine AllReadyH.cons (o := ⟨some 43, _, _, _, _, _⟩) rfl (fun K hK => ?_) AllReadyH.nil
            refine step_append_rd _ (by rfl) (.tmp 39) (.tmp 42) _ (by rfl) wr.heap.size 3 i0 _ 1 8 Try.underlying38 HI0.out HZ0.out HZ1.out HZ2.out rfl (by decide) _ _ _ (by rfl) (by exact hown2) _ Q (k - q) _ xs2 (by rfl) (by exact hHeld.r2) (by intro u hu; obtain ⟨_, _, rfl⟩ := List.mem_map.1 (HM2.out u hu); rfl) (by unfold maxLen; omega) (by omega) (by exact hHeld.sz) ?_
            intro v3 w3 hown3 hg3; have hS3 := hHeld.grown hg3 (fun g hg => (hown2.lt g hg).1)
            refine hK.out _ _ ?_ (fun hHeld => ?_)
            · (try dsimp only); first | exact HS0.out.drew.drew | exact hS3 | exact hS2 | exact hS1 | exact SrtS.alloc hHeld _
            clear hK K
            try simp only [Act.put, List.setIfInBounds_toArray, List.set_cons_zero, List.set_cons_succ]
            refine wpAnyH_take (i := 15) (oi := ⟨some 3, _, _, _, _, _⟩) (v := ?_) rfl (by kernel_rfl) (by kernel_rfl) (by kernel_rfl) (fun _ _ _ h => h) (Or.inl ⟨by rfl, ?_⟩) (by assumption) ?_
            rotate_left
            · (intro w hSw; (try dsimp only at hSw); go_simp; try with_reducible rfl)
            try simp only [Act.put, List.setIfInBounds_toArray, List.set_cons_zero, List.set_cons_succ]
            refine wpAnyH_done (by kernel_rfl) ?_ _
            refine NoPanic.normal ?_
            have hR := ownsRow_base hown3 (base' := w.heap.size) HBR.out.size
            rw [HX1.out, HX2.out, ins_cells out x q k HOL.out HI.out, ← HN.out, show 0 + q + 1 + (k - q) = k + 1 by omega] at hR
            have hB3 := HBR.out.trans (hS3.bb.mono HBR.out.size)
            have HR := Lib.hid hR; have HB3 := Lib.hid hB3
            clear hR hB3 hown1 hown2 hown3 hg1 hg2 hg3 hS1 hS2 hS3 hHeld
            go_wp2_with fail
            go_roundw
            case rel => exact ⟨k + 1, by omega, by go_num, HR.out, HB3.out⟩
            case measure => simp [intOf]; omega
            -- REGION>
        · have hqk' : q = k := by omega
          have HOr : wr.ownsRow w.heap.size 3 1 (.slice Ao k co) k (out.map (Value.int .i64)) := by obtain ⟨d, hd⟩ := HQ.out; rw [hd]; exact HO.out
          have hBr : Below w.heap.size w wr := HB.out.trans (HQ.out.below _)
          have HBR := Lib.hid hBr
          have hins : insAt out x = q := insAt_eq out x q HA.out (by rw [HOL.out]; exact hq) (.inl (by rw [HOL.out]; exact hqk'))
          have hqc : q ≤ k := hq
          obtain ⟨P, hsP, hrP⟩ := slice_head (P := Try.prog) (t := 38) (sz := 1) Try.underlying38 Try.sizeOf3 (Rd.own HOr) (q : Int) q co rfl hqc hco
          obtain ⟨Q, hsQ, hrQ⟩ := slice_tail (P := Try.prog) (t := 38) (sz := 1) Try.underlying38 Try.sizeOf3 (Rd.own HOr) q co hqc hco
          obtain ⟨xs1, hxs1⟩ : ∃ xs1, xs1 = ((out.map (Value.int .i64)).take (q * 1)) := ⟨_, rfl⟩
          obtain ⟨xs2, hxs2⟩ : ∃ xs2, xs2 = (((out.map (Value.int .i64)).drop (q * 1)).take ((k - q) * 1)) := ⟨_, rfl⟩
          rw [← hxs1] at hrP
          rw [← hxs2] at hrQ
          have hm1 : ∀ u ∈ xs1, u ∈ out.map (Value.int .i64) := fun u hu => by rw [hxs1] at hu; exact List.mem_of_mem_take hu
          have hm2 : ∀ u ∈ xs2, u ∈ out.map (Value.int .i64) := fun u hu => by rw [hxs2] at hu; exact List.mem_of_mem_drop (List.mem_of_mem_take hu)
          have hlt9 : lb < wr.heap.size := Nat.lt_of_lt_of_le hlb hBr.size
          have hS0 : SrtS wr wr.heap.size lb (lo + k) x P q xs1 Q (k - q) xs2 wr := ⟨Nat.le_refl _, hx2, hlt9, hrP, hrQ, Below.refl _ _⟩
          have HI := Lib.hid hins; have HX1 := Lib.hid hxs1; have HX2 := Lib.hid hxs2; have HM1 := Lib.hid hm1; have HM2 := Lib.hid hm2; have HS0 := Lib.hid hS0
          clear hins hxs1 hxs2 hm1 hm2 HOr hBr hrP hrQ hS0
          have hqn : ¬ ((q : Int) < (k : Int)) := by omega
          have HQK := Lib.hid hqk'; clear hqk' hqk
          go_wp2_with fail
          -- <REGION end
          refine wp_region_noPanic ?_
          refine wp_region_held_drew (S := fun _ => True) (by kernel_rfl) ?_ (fun hHeld => ?_)
          · (try dsimp only); try exact True.intro
          refine wpAnyH_take (i := 0) (oi := ⟨some 12, _, _, _, _, _⟩) (v := ?_) rfl (by kernel_rfl) (by kernel_rfl) (by kernel_rfl) (fun _ _ _ h => h) (Or.inl ⟨by rfl, ?_⟩) (by assumption) ?_
          rotate_left
          · (intro w hSw; (try dsimp only at hSw); go_simp; try with_reducible rfl)
          try simp only [Act.put, List.setIfInBounds_toArray, List.set_cons_zero, List.set_cons_succ]
          refine wpAnyH_take (i := 1) (oi := ⟨some 13, _, _, _, _, _⟩) (v := ?_) rfl (by kernel_rfl) (by kernel_rfl) (by kernel_rfl) (fun _ _ _ h => h) (Or.inl ⟨by rfl, ?_⟩) (by assumption) ?_
          rotate_left
          · (intro w hSw; (try dsimp only at hSw); go_simp; try with_reducible rfl)
          try simp only [Act.put, List.setIfInBounds_toArray, List.set_cons_zero, List.set_cons_succ]
          refine wpAnyH_take (i := 2) (oi := ⟨some 14, _, _, _, _, _⟩) (v := ?_) rfl (by kernel_rfl) (by kernel_rfl) (by kernel_rfl) (fun _ _ _ h => h) (Or.inl ⟨by rfl, ?_⟩) (by assumption) ?_
          rotate_left
          · (intro w hSw; (try dsimp only at hSw); go_simp; try with_reducible rfl)
          try simp only [Act.put, List.setIfInBounds_toArray, List.set_cons_zero, List.set_cons_succ]
          refine wpAnyH_take (i := 3) (oi := ⟨some 15, _, _, _, _, _⟩) (v := .bool false) rfl (by kernel_rfl) (by kernel_rfl) (by kernel_rfl) (fun _ _ _ h => h) (Or.inl ⟨by rfl, ?_⟩) (by assumption) ?_
          · (intro w hSw; (try dsimp only at hSw); first | (go_simp; done) | (go_simp; (try simp only [decide_eq_false_iff_not, decide_eq_true_eq, Value.bool.injEq, Next.value.injEq, Result.ok.injEq, and_true]); omega))
          try simp only [Act.put, List.setIfInBounds_toArray, List.set_cons_zero, List.set_cons_succ]
          refine wpAnyH_take (i := 4) (oi := ⟨some 16, _, _, _, _, _⟩) (v := ?_) rfl (by kernel_rfl) (by kernel_rfl) (by kernel_rfl) (fun _ _ _ h => h) (Or.inl ⟨by rfl, ?_⟩) (by assumption) ?_
          rotate_left
          · (intro w hSw; (try dsimp only at hSw); go_simp; try with_reducible rfl)
          try simp only [Act.put, List.setIfInBounds_toArray, List.set_cons_zero, List.set_cons_succ]
          refine wpAnyH_take (i := 5) (oi := ⟨some 17, _, _, _, _, _⟩) (v := undef) rfl (by kernel_rfl) (by kernel_rfl) (by kernel_rfl) (fun _ _ _ h => h) (Or.inr ⟨by rfl, rfl⟩) (by assumption) ?_
          try simp only [Act.put, List.setIfInBounds_toArray, List.set_cons_zero, List.set_cons_succ]
          refine wpAnyH_take (i := 6) (oi := ⟨some 18, _, _, _, _, _⟩) (v := undef) rfl (by kernel_rfl) (by kernel_rfl) (by kernel_rfl) (fun _ _ _ h => h) (Or.inr ⟨by rfl, rfl⟩) (by assumption) ?_
          try simp only [Act.put, List.setIfInBounds_toArray, List.set_cons_zero, List.set_cons_succ]
          refine wpAnyH_take (i := 7) (oi := ⟨some 19, _, _, _, _, _⟩) (v := undef) rfl (by kernel_rfl) (by kernel_rfl) (by kernel_rfl) (fun _ _ _ h => h) (Or.inr ⟨by rfl, rfl⟩) (by assumption) ?_
          try simp only [Act.put, List.setIfInBounds_toArray, List.set_cons_zero, List.set_cons_succ]
          refine wpAnyH_take (i := 8) (oi := ⟨some 20, _, _, _, _, _⟩) (v := undef) rfl (by kernel_rfl) (by kernel_rfl) (by kernel_rfl) (fun _ _ _ h => h) (Or.inr ⟨by rfl, rfl⟩) (by assumption) ?_
          try simp only [Act.put, List.setIfInBounds_toArray, List.set_cons_zero, List.set_cons_succ]
          refine wpAnyH_take (i := 9) (oi := ⟨some 21, _, _, _, _, _⟩) (v := undef) rfl (by kernel_rfl) (by kernel_rfl) (by kernel_rfl) (fun _ _ _ h => h) (Or.inr ⟨by rfl, rfl⟩) (by assumption) ?_
          try simp only [Act.put, List.setIfInBounds_toArray, List.set_cons_zero, List.set_cons_succ]
          refine wpAnyH_take (i := 10) (oi := ⟨some 22, _, _, _, _, _⟩) (v := undef) rfl (by kernel_rfl) (by kernel_rfl) (by kernel_rfl) (fun _ _ _ h => h) (Or.inr ⟨by rfl, rfl⟩) (by assumption) ?_
          try simp only [Act.put, List.setIfInBounds_toArray, List.set_cons_zero, List.set_cons_succ]
          refine wpAnyH_take (i := 11) (oi := ⟨some 23, _, _, _, _, _⟩) (v := undef) rfl (by kernel_rfl) (by kernel_rfl) (by kernel_rfl) (fun _ _ _ h => h) (Or.inr ⟨by rfl, rfl⟩) (by assumption) ?_
          try simp only [Act.put, List.setIfInBounds_toArray, List.set_cons_zero, List.set_cons_succ]
          refine wpAnyH_take (i := 12) (oi := ⟨some 24, _, _, _, _, _⟩) (v := undef) rfl (by kernel_rfl) (by kernel_rfl) (by kernel_rfl) (fun _ _ _ h => h) (Or.inr ⟨by rfl, rfl⟩) (by assumption) ?_
          try simp only [Act.put, List.setIfInBounds_toArray, List.set_cons_zero, List.set_cons_succ]
          refine wpAnyH_take (i := 13) (oi := ⟨some 25, _, _, _, _, _⟩) (v := undef) rfl (by kernel_rfl) (by kernel_rfl) (by kernel_rfl) (fun _ _ _ h => h) (Or.inr ⟨by rfl, rfl⟩) (by assumption) ?_
          try simp only [Act.put, List.setIfInBounds_toArray, List.set_cons_zero, List.set_cons_succ]
          refine wpAnyH_take (i := 14) (oi := ⟨some 26, _, _, _, _, _⟩) (v := ?_) rfl (by kernel_rfl) (by kernel_rfl) (by kernel_rfl) (fun _ _ _ h => h) (Or.inl ⟨by rfl, ?_⟩) (by assumption) ?_
          rotate_left
          · (intro w hSw; (try dsimp only at hSw); go_simp; try with_reducible rfl)
          try simp only [Act.put, List.setIfInBounds_toArray, List.set_cons_zero, List.set_cons_succ]
          refine wpAnyH_done (by kernel_rfl) ?_ _
          refine NoPanic.normal ?_
          go_wp2_with fail
          refine wp_region_noPanic ?_
          refine wp_region_held_drew (S := SrtS wr wr.heap.size lb (lo + k) x P q xs1 Q (k - q) xs2) (by kernel_rfl) ?_ (fun hHeld => ?_)
          · (try dsimp only); first | exact HS0.out.drew.drew | exact hS3 | exact hS2 | exact hS1 | exact SrtS.alloc hHeld _
          refine wpAnyH_take (i := 1) (oi := ⟨some 30, _, _, _, _, _⟩) (v := ?_) rfl (by kernel_rfl) (by kernel_rfl) (by kernel_rfl) (fun _ _ _ h => h) (Or.inl ⟨by rfl, ?_⟩) (by assumption) ?_
          rotate_left
          · (intro w hSw; (try dsimp only at hSw); go_simp; try with_reducible rfl)
          try simp only [Act.put, List.setIfInBounds_toArray, List.set_cons_zero, List.set_cons_succ]
          refine wpAnyH_take (i := 2) (oi := ⟨some 31, _, _, _, _, _⟩) (v := ?_) rfl (by kernel_rfl) (by kernel_rfl) (by kernel_rfl) (fun _ _ _ h => h) (Or.inl ⟨by rfl, ?_⟩) (by assumption) ?_
          rotate_left
          · (intro w hSw; (try dsimp only at hSw); go_simp; try with_reducible rfl)
          try simp only [Act.put, List.setIfInBounds_toArray, List.set_cons_zero, List.set_cons_succ]
          refine wpAnyH_take (i := 3) (oi := ⟨some 32, _, _, _, _, _⟩) (v := ?_) rfl (by kernel_rfl) (by kernel_rfl) (by kernel_rfl) (fun _ _ _ h => h) (Or.inl ⟨by rfl, ?_⟩) (by assumption) ?_
          rotate_left
          · (intro w hSw; (try dsimp only at hSw); go_simp; try with_reducible rfl)
          try simp only [Act.put, List.setIfInBounds_toArray, List.set_cons_zero, List.set_cons_succ]
          refine wpAnyH_take (i := 5) (oi := ⟨some 34, _, _, _, _, _⟩) (v := ?_) rfl (by kernel_rfl) (by kernel_rfl) (by kernel_rfl) (fun _ _ _ h => h) (Or.inl ⟨by rfl, ?_⟩) (by assumption) ?_
          rotate_left
          · (intro w hSw; (try dsimp only at hSw); go_simp; try with_reducible rfl)
          try simp only [Act.put, List.setIfInBounds_toArray, List.set_cons_zero, List.set_cons_succ]
          refine wpAnyH_take (i := 6) (oi := ⟨some 35, _, _, _, _, _⟩) (v := ?_) rfl (by kernel_rfl) (by kernel_rfl) (by kernel_rfl) (fun _ _ _ h => h) (Or.inl ⟨by rfl, ?_⟩) (by assumption) ?_
          rotate_left
          · (intro w hSw; (try dsimp only at hSw); go_simp; try with_reducible rfl)
          try simp only [Act.put, List.setIfInBounds_toArray, List.set_cons_zero, List.set_cons_succ]
          refine wpAnyH_take (i := 7) (oi := ⟨some 36, _, _, _, _, _⟩) (v := .pointer (some ⟨lb, lo + k, none⟩)) rfl (by kernel_rfl) (by kernel_rfl) (by kernel_rfl) (fun _ _ _ h => h) (Or.inl ⟨by rfl, ?_⟩) (by assumption) ?_
          · (intro w hSw; (try dsimp only at hSw); exact exec_idx' Try.underlying38 Try.sizeOf3 rfl rfl (by omega) w)
          try simp only [Act.put, List.setIfInBounds_toArray, List.set_cons_zero, List.set_cons_succ]
          refine wpAnyH_take (i := 8) (oi := ⟨some 37, _, _, _, _, _⟩) (v := .int .i64 x) rfl (by kernel_rfl) (by kernel_rfl) (by kernel_rfl) (fun _ _ _ h => h) (Or.inl ⟨by rfl, ?_⟩) (by assumption) ?_
          · (intro w hSw; (try dsimp only at hSw); have hcx := SrtS.cx hSw; go_simp)
          try simp only [Act.put, List.setIfInBounds_toArray, List.set_cons_zero, List.set_cons_succ]
          refine wpAnyH_take (i := 11) (oi := ⟨some 40, _, _, _, _, _⟩) (v := ?_) rfl (by kernel_rfl) (by kernel_rfl) (by kernel_rfl) (fun _ _ _ h => h) (Or.inl ⟨by rfl, ?_⟩) (by assumption) ?_
          rotate_left
          · (intro w hSw; (try dsimp only at hSw); go_simp; try with_reducible rfl)
          try simp only [Act.put, List.setIfInBounds_toArray, List.set_cons_zero, List.set_cons_succ]
          refine wpAnyH_take (i := 12) (oi := ⟨some 41, _, _, _, _, _⟩) (v := ?_) rfl (by kernel_rfl) (by kernel_rfl) (by kernel_rfl) (fun _ _ _ h => h) (Or.inl ⟨by rfl, ?_⟩) (by assumption) ?_
          rotate_left
          · (intro w hSw; (try dsimp only at hSw); go_simp; try with_reducible rfl)
          try simp only [Act.put, List.setIfInBounds_toArray, List.set_cons_zero, List.set_cons_succ]
          refine wpAnyH_take (i := 13) (oi := ⟨some 42, _, _, _, _, _⟩) (v := ?_) rfl (by kernel_rfl) (by kernel_rfl) (by kernel_rfl) (fun _ _ _ h => h) (Or.inl ⟨by rfl, ?_⟩) (by assumption) ?_
          rotate_left
          · (intro w hSw; (try dsimp only at hSw); go_simp; try with_reducible rfl)
          try simp only [Act.put, List.setIfInBounds_toArray, List.set_cons_zero, List.set_cons_succ]
          refine wpAnyH_ready (rs := [0, 9]) (by kernel_rfl) (by simp) ?_
          refine AllReadyH.cons (o := ⟨some 29, _, _, _, _, _⟩) rfl (fun K hK => ?_) ?_
          · skip
            go_simp
            refine hK.out _ _ ?_ (fun hHeld => ?_)
            · (try dsimp only); first | exact HS0.out.drew.drew | exact hS3 | exact hS2 | exact hS1 | exact SrtS.alloc hHeld _
            clear hK K
            try simp only [Act.put, List.setIfInBounds_toArray, List.set_cons_zero, List.set_cons_succ]
            refine wpAnyH_ready (rs := [4, 9]) (by kernel_rfl) (by simp) ?_
            refine AllReadyH.cons (o := ⟨some 33, _, _, _, _, _⟩) rfl (fun K hK => ?_) ?_
            · skip
              refine step_append_rd _ (by rfl) (.tmp 29) (.tmp 32) _ (by rfl) wr.heap.size 3 i0 _ 1 8 Try.underlying38 HI0.out HZ0.out HZ1.out HZ2.out rfl (by decide) (.slice (some ⟨wr.heap.size, 0, none⟩) 0 0) 0 [] (by rfl) (by exact ((World.ownsRow_made (base := wr.heap.size) wr #[] 0 (by simp) (by simp [maxLen]) (by simp)))) _ P q _ _ (by rfl) (by exact hHeld.r1) (by intro u hu; obtain ⟨_, _, rfl⟩ := List.mem_map.1 (HM1.out u hu); rfl) (by unfold maxLen; omega) (by omega) (by exact hHeld.sz) ?_
              intro v1 w1 hown1 hg1; have hS1 := hHeld.grown hg1 (fun g hg => by cases hg; simp)
              refine hK.out _ _ ?_ (fun hHeld => ?_)
              · (try dsimp only); first | exact HS0.out.drew.drew | exact hS3 | exact hS2 | exact hS1 | exact SrtS.alloc hHeld _
              clear hK K
              try simp only [Act.put, List.setIfInBounds_toArray, List.set_cons_zero, List.set_cons_succ]
              refine wpAnyH_ready (rs := [9]) (by kernel_rfl) (by simp) ?_
              refine AllReadyH.cons (o := ⟨some 38, _, _, _, _, _⟩) rfl (fun K hK => ?_) AllReadyH.nil
              go_simp
              refine hK.out _ _ ?_ (fun hHeld => ?_)
              · (try dsimp only); first | exact HS0.out.drew.drew | exact hS3 | exact hS2 | exact hS1 | exact SrtS.alloc hHeld _
              clear hK K
              try simp only [Act.put, List.setIfInBounds_toArray, List.set_cons_zero, List.set_cons_succ]
              refine wpAnyH_ready (rs := [10]) (by kernel_rfl) (by simp) ?_
              refine AllReadyH.cons (o := ⟨some 39, _, _, _, _, _⟩) rfl (fun K hK => ?_) AllReadyH.nil
              refine step_append_rd _ (by rfl) (.tmp 33) (.tmp 38) _ (by rfl) wr.heap.size 3 i0 _ 1 8 Try.underlying38 HI0.out HZ0.out HZ1.out HZ2.out rfl (by decide) _ _ _ (by rfl) (by exact hown1.alloc _) _ _ 1 _ [.int .i64 x] (by rfl) (by exact (Rd.row (heap_alloc_new _ _) rfl)) (by intro u hu; obtain rfl := List.mem_singleton.1 hu; rfl) (by unfold maxLen; omega) (by omega) (by exact hHeld.sz) ?_
              intro v2 w2 hown2 hg2; have hS2 := hHeld.grown hg2 (fun g hg => (hown1.lt g hg).1)
              refine hK.out _ _ ?_ (fun hHeld => ?_)
              · (try dsimp only); first | exact HS0.out.drew.drew | exact hS3 | exact hS2 | exact hS1 | exact SrtS.alloc hHeld _
              clear hK K
              try simp only [Act.put, List.setIfInBounds_toArray, List.set_cons_zero, List.set_cons_succ]
              refine wpAnyH_ready (rs := [14]) (by kernel_rfl) (by simp) ?_
              refine AllReadyH.cons (o := ⟨some 43, _, _, _, _, _⟩) rfl (fun K hK => ?_) AllReadyH.nil
              refine step_append_rd _ (by rfl) (.tmp 39) (.tmp 42) _ (by rfl) wr.heap.size 3 i0 _ 1 8 Try.underlying38 HI0.out HZ0.out HZ1.out HZ2.out rfl (by decide) _ _ _ (by rfl) (by exact hown2) _ Q (k - q) _ xs2 (by rfl) (by exact hHeld.r2) (by intro u hu; obtain ⟨_, _, rfl⟩ := List.mem_map.1 (HM2.out u hu); rfl) (by unfold maxLen; omega) (by omega) (by exact hHeld.sz) ?_
              intro v3 w3 hown3 hg3; have hS3 := hHeld.grown hg3 (fun g hg => (hown2.lt g hg).1)
              refine hK.out _ _ ?_ (fun hHeld => ?_)
              · (try dsimp only); first | exact HS0.out.drew.drew | exact hS3 | exact hS2 | exact hS1 | exact SrtS.alloc hHeld _
              clear hK K
              try simp only [Act.put, List.setIfInBounds_toArray, List.set_cons_zero, List.set_cons_succ]
              refine wpAnyH_take (i := 15) (oi := ⟨some 3, _, _, _, _, _⟩) (v := ?_) rfl (by kernel_rfl) (by kernel_rfl) (by kernel_rfl) (fun _ _ _ h => h) (Or.inl ⟨by rfl, ?_⟩) (by assumption) ?_
              rotate_left
              · (intro w hSw; (try dsimp only at hSw); go_simp; try with_reducible rfl)
              try simp only [Act.put, List.setIfInBounds_toArray, List.set_cons_zero, List.set_cons_succ]
              refine wpAnyH_done (by kernel_rfl) ?_ _
              refine NoPanic.normal ?_
              have hR := ownsRow_base hown3 (base' := w.heap.size) HBR.out.size
              rw [HX1.out, HX2.out, ins_cells out x q k HOL.out HI.out, ← HN.out, show 0 + q + 1 + (k - q) = k + 1 by omega] at hR
              have hB3 := HBR.out.trans (hS3.bb.mono HBR.out.size)
              have HR := Lib.hid hR; have HB3 := Lib.hid hB3
              clear hR hB3 hown1 hown2 hown3 hg1 hg2 hg3 hS1 hS2 hS3 hHeld
              go_wp2_with fail
              go_roundw
              case rel => exact ⟨k + 1, by omega, by go_num, HR.out, HB3.out⟩
              case measure => simp [intOf]; omega
            refine AllReadyH.cons (o := ⟨some 38, _, _, _, _, _⟩) rfl (fun K hK => ?_) AllReadyH.nil
            go_simp
            refine hK.out _ _ ?_ (fun hHeld => ?_)
            · (try dsimp only); first | exact HS0.out.drew.drew | exact hS3 | exact hS2 | exact hS1 | exact SrtS.alloc hHeld _
            clear hK K
            try simp only [Act.put, List.setIfInBounds_toArray, List.set_cons_zero, List.set_cons_succ]
            refine wpAnyH_ready (rs := [4]) (by kernel_rfl) (by simp) ?_
            refine AllReadyH.cons (o := ⟨some 33, _, _, _, _, _⟩) rfl (fun K hK => ?_) AllReadyH.nil
            refine step_append_rd _ (by rfl) (.tmp 29) (.tmp 32) _ (by rfl) wr.heap.size 3 i0 _ 1 8 Try.underlying38 HI0.out HZ0.out HZ1.out HZ2.out rfl (by decide) (.slice (some ⟨wr.heap.size, 0, none⟩) 0 0) 0 [] (by rfl) (by exact ((World.ownsRow_made (base := wr.heap.size) wr #[] 0 (by simp) (by simp [maxLen]) (by simp)).alloc _)) _ P q _ _ (by rfl) (by exact hHeld.r1) (by intro u hu; obtain ⟨_, _, rfl⟩ := List.mem_map.1 (HM1.out u hu); rfl) (by unfold maxLen; omega) (by omega) (by exact hHeld.sz) ?_
            intro v1 w1 hown1 hg1; have hS1 := hHeld.grown hg1 (fun g hg => by cases hg; simp)
            have hn1 : w1.heap[(wr.heap.size + 1)]? = some (.cells [Value.int .i64 x].toArray 3 (0, 0)) := row_grown hg1 (by have h9 := heap_alloc_new (wr.alloc (.cells #[] 3)) (.cells #[.int .i64 x] 3); simp only [World.size_alloc] at h9; exact h9) (by simp [Value.ownBlock])
            refine hK.out _ _ ?_ (fun hHeld => ?_)
            · (try dsimp only); first | exact HS0.out.drew.drew | exact hS3 | exact hS2 | exact hS1 | exact SrtS.alloc hHeld _
            clear hK K
            try simp only [Act.put, List.setIfInBounds_toArray, List.set_cons_zero, List.set_cons_succ]
            refine wpAnyH_ready (rs := [10]) (by kernel_rfl) (by simp) ?_
            refine AllReadyH.cons (o := ⟨some 39, _, _, _, _, _⟩) rfl (fun K hK => ?_) AllReadyH.nil
            refine step_append_rd _ (by rfl) (.tmp 33) (.tmp 38) _ (by rfl) wr.heap.size 3 i0 _ 1 8 Try.underlying38 HI0.out HZ0.out HZ1.out HZ2.out rfl (by decide) _ _ _ (by rfl) (by exact hown1) _ _ 1 _ [.int .i64 x] (by rfl) (by exact (Rd.row hn1 rfl)) (by intro u hu; obtain rfl := List.mem_singleton.1 hu; rfl) (by unfold maxLen; omega) (by omega) (by exact hHeld.sz) ?_
            intro v2 w2 hown2 hg2; have hS2 := hHeld.grown hg2 (fun g hg => (hown1.lt g hg).1)
            refine hK.out _ _ ?_ (fun hHeld => ?_)
            · (try dsimp only); first | exact HS0.out.drew.drew | exact hS3 | exact hS2 | exact hS1 | exact SrtS.alloc hHeld _
            clear hK K
            try simp only [Act.put, List.setIfInBounds_toArray, List.set_cons_zero, List.set_cons_succ]
            refine wpAnyH_ready (rs := [14]) (by kernel_rfl) (by simp) ?_
            refine AllReadyH.cons (o := ⟨some 43, _, _, _, _, _⟩) rfl (fun K hK => ?_) AllReadyH.nil
            refine step_append_rd _ (by rfl) (.tmp 39) (.tmp 42) _ (by rfl) wr.heap.size 3 i0 _ 1 8 Try.underlying38 HI0.out HZ0.out HZ1.out HZ2.out rfl (by decide) _ _ _ (by rfl) (by exact hown2) _ Q (k - q) _ xs2 (by rfl) (by exact hHeld.r2) (by intro u hu; obtain ⟨_, _, rfl⟩ := List.mem_map.1 (HM2.out u hu); rfl) (by unfold maxLen; omega) (by omega) (by exact hHeld.sz) ?_
            intro v3 w3 hown3 hg3; have hS3 := hHeld.grown hg3 (fun g hg => (hown2.lt g hg).1)
            refine hK.out _ _ ?_ (fun hHeld => ?_)
            · (try dsimp only); first | exact HS0.out.drew.drew | exact hS3 | exact hS2 | exact hS1 | exact SrtS.alloc hHeld _
            clear hK K
            try simp only [Act.put, List.setIfInBounds_toArray, List.set_cons_zero, List.set_cons_succ]
            refine wpAnyH_take (i := 15) (oi := ⟨some 3, _, _, _, _, _⟩) (v := ?_) rfl (by kernel_rfl) (by kernel_rfl) (by kernel_rfl) (fun _ _ _ h => h) (Or.inl ⟨by rfl, ?_⟩) (by assumption) ?_
            rotate_left
            · (intro w hSw; (try dsimp only at hSw); go_simp; try with_reducible rfl)
            try simp only [Act.put, List.setIfInBounds_toArray, List.set_cons_zero, List.set_cons_succ]
            refine wpAnyH_done (by kernel_rfl) ?_ _
            refine NoPanic.normal ?_
            have hR := ownsRow_base hown3 (base' := w.heap.size) HBR.out.size
            rw [HX1.out, HX2.out, ins_cells out x q k HOL.out HI.out, ← HN.out, show 0 + q + 1 + (k - q) = k + 1 by omega] at hR
            have hB3 := HBR.out.trans (hS3.bb.mono HBR.out.size)
            have HR := Lib.hid hR; have HB3 := Lib.hid hB3
            clear hR hB3 hown1 hown2 hown3 hg1 hg2 hg3 hS1 hS2 hS3 hHeld
            go_wp2_with fail
            go_roundw
            case rel => exact ⟨k + 1, by omega, by go_num, HR.out, HB3.out⟩
            case measure => simp [intOf]; omega
          refine AllReadyH.cons (o := ⟨some 38, _, _, _, _, _⟩) rfl (fun K hK => ?_) AllReadyH.nil
          go_simp
          refine hK.out _ _ ?_ (fun hHeld => ?_)
          · (try dsimp only); first | exact HS0.out.drew.drew | exact hS3 | exact hS2 | exact hS1 | exact SrtS.alloc hHeld _
          clear hK K
          try simp only [Act.put, List.setIfInBounds_toArray, List.set_cons_zero, List.set_cons_succ]
          refine wpAnyH_ready (rs := [0]) (by kernel_rfl) (by simp) ?_
          refine AllReadyH.cons (o := ⟨some 29, _, _, _, _, _⟩) rfl (fun K hK => ?_) AllReadyH.nil
          go_simp
          refine hK.out _ _ ?_ (fun hHeld => ?_)
          · (try dsimp only); first | exact HS0.out.drew.drew | exact hS3 | exact hS2 | exact hS1 | exact SrtS.alloc hHeld _
          clear hK K
          try simp only [Act.put, List.setIfInBounds_toArray, List.set_cons_zero, List.set_cons_succ]
          refine wpAnyH_ready (rs := [4]) (by kernel_rfl) (by simp) ?_
          refine AllReadyH.cons (o := ⟨some 33, _, _, _, _, _⟩) rfl (fun K hK => ?_) AllReadyH.nil
          refine step_append_rd _ (by rfl) (.tmp 29) (.tmp 32) _ (by rfl) wr.heap.size 3 i0 _ 1 8 Try.underlying38 HI0.out HZ0.out HZ1.out HZ2.out rfl (by decide) (.slice (some ⟨wr.heap.size + 1, 0, none⟩) 0 0) 0 [] (by rfl) (by exact ((by have h9 := World.ownsRow_made (base := wr.heap.size) (e := 3) (size := 1) (wr.alloc (.cells #[.int .i64 x] 3)) #[] 0 (by simp) (by simp [maxLen]) (by simp); simp only [World.size_alloc] at h9; exact h9))) _ P q _ _ (by rfl) (by exact hHeld.r1) (by intro u hu; obtain ⟨_, _, rfl⟩ := List.mem_map.1 (HM1.out u hu); rfl) (by unfold maxLen; omega) (by omega) (by exact hHeld.sz) ?_
          intro v1 w1 hown1 hg1; have hS1 := hHeld.grown hg1 (fun g hg => by cases hg; simp)
          have hn1 : w1.heap[wr.heap.size]? = some (.cells [Value.int .i64 x].toArray 3 (0, 0)) := row_grown hg1 ((Below.heap_alloc (wr.alloc (.cells #[.int .i64 x] 3)) (.cells #[] 3) wr.heap.size (by simp)).trans (heap_alloc_new wr _)) (by simp [Value.ownBlock])
          refine hK.out _ _ ?_ (fun hHeld => ?_)
          · (try dsimp only); first | exact HS0.out.drew.drew | exact hS3 | exact hS2 | exact hS1 | exact SrtS.alloc hHeld _
          clear hK K
          try simp only [Act.put, List.setIfInBounds_toArray, List.set_cons_zero, List.set_cons_succ]
          refine wpAnyH_ready (rs := [10]) (by kernel_rfl) (by simp) ?_
          refine AllReadyH.cons (o := ⟨some 39, _, _, _, _, _⟩) rfl (fun K hK => ?_) AllReadyH.nil
          refine step_append_rd _ (by rfl) (.tmp 33) (.tmp 38) _ (by rfl) wr.heap.size 3 i0 _ 1 8 Try.underlying38 HI0.out HZ0.out HZ1.out HZ2.out rfl (by decide) _ _ _ (by rfl) (by exact hown1) _ _ 1 _ [.int .i64 x] (by rfl) (by exact (Rd.row hn1 rfl)) (by intro u hu; obtain rfl := List.mem_singleton.1 hu; rfl) (by unfold maxLen; omega) (by omega) (by exact hHeld.sz) ?_
          intro v2 w2 hown2 hg2; have hS2 := hHeld.grown hg2 (fun g hg => (hown1.lt g hg).1)
          refine hK.out _ _ ?_ (fun hHeld => ?_)
          · (try dsimp only); first | exact HS0.out.drew.drew | exact hS3 | exact hS2 | exact hS1 | exact SrtS.alloc hHeld _
          clear hK K
          try simp only [Act.put, List.setIfInBounds_toArray, List.set_cons_zero, List.set_cons_succ]
          refine wpAnyH_ready (rs := [14]) (by kernel_rfl) (by simp) ?_
          refine AllReadyH.cons (o := ⟨some 43, _, _, _, _, _⟩) rfl (fun K hK => ?_) AllReadyH.nil
          refine step_append_rd _ (by rfl) (.tmp 39) (.tmp 42) _ (by rfl) wr.heap.size 3 i0 _ 1 8 Try.underlying38 HI0.out HZ0.out HZ1.out HZ2.out rfl (by decide) _ _ _ (by rfl) (by exact hown2) _ Q (k - q) _ xs2 (by rfl) (by exact hHeld.r2) (by intro u hu; obtain ⟨_, _, rfl⟩ := List.mem_map.1 (HM2.out u hu); rfl) (by unfold maxLen; omega) (by omega) (by exact hHeld.sz) ?_
          intro v3 w3 hown3 hg3; have hS3 := hHeld.grown hg3 (fun g hg => (hown2.lt g hg).1)
          refine hK.out _ _ ?_ (fun hHeld => ?_)
          · (try dsimp only); first | exact HS0.out.drew.drew | exact hS3 | exact hS2 | exact hS1 | exact SrtS.alloc hHeld _
          clear hK K
          try simp only [Act.put, List.setIfInBounds_toArray, List.set_cons_zero, List.set_cons_succ]
          refine wpAnyH_take (i := 15) (oi := ⟨some 3, _, _, _, _, _⟩) (v := ?_) rfl (by kernel_rfl) (by kernel_rfl) (by kernel_rfl) (fun _ _ _ h => h) (Or.inl ⟨by rfl, ?_⟩) (by assumption) ?_
          rotate_left
          · (intro w hSw; (try dsimp only at hSw); go_simp; try with_reducible rfl)
          try simp only [Act.put, List.setIfInBounds_toArray, List.set_cons_zero, List.set_cons_succ]
          refine wpAnyH_done (by kernel_rfl) ?_ _
          refine NoPanic.normal ?_
          have hR := ownsRow_base hown3 (base' := w.heap.size) HBR.out.size
          rw [HX1.out, HX2.out, ins_cells out x q k HOL.out HI.out, ← HN.out, show 0 + q + 1 + (k - q) = k + 1 by omega] at hR
          have hB3 := HBR.out.trans (hS3.bb.mono HBR.out.size)
          have HR := Lib.hid hR; have HB3 := Lib.hid hB3
          clear hR hB3 hown1 hown2 hown3 hg1 hg2 hg3 hS1 hS2 hS3 hHeld
          go_wp2_with fail
          go_roundw
          case rel => exact ⟨k + 1, by omega, by go_num, HR.out, HB3.out⟩
          case measure => simp [intOf]; omega
          -- REGION>
    · obtain rfl : k = n := by omega
      go_wp2
      go_ret
      rw [List.take_of_length_le (by rw [HL.out]; exact Nat.le_refl _)] at hown
      exact RetOwn.of (mk := id) hown hbw
end Go.Proofs.Ytfinjdkcgmepfaa
/- Contracts of the reference's Sample, of size, kind, list and draw. Conditions: as each statement says. -/
namespace Go.Proofs.Ytfinjdkcgmepfaa
open Go.RowKit
set_option linter.unusedVariables false
theorem refSample_any (s n k : Nat) (w : World) (hs : s < two64) (hn : n ≤ 65536) (hk : k ≤ n) :
    Calls Try.prog 44 #[.int .u64 s, .int .i64 n, .int .i64 k] w (RetOwn w 3 1 k ((sampL s n k).map (Value.int .i64)) (fun v => .tuple #[.int .u64 (permS s n), v])) := by
  have HS := Lib.hid hs; clear hs
  go_enter Try.func44, Try.ntmps44
  go_wp2_with fail
  refine (refPerm_any s n _ HS.out hn).mono ?_
  rintro e w1 ⟨A1, c1, rfl, hc1, hown1, hb1⟩
  have hs1 := hb1.size
  obtain ⟨A2, hsl, hr2⟩ := slice_head (P := Try.prog) (t := 38) (sz := 1) Try.underlying38 Try.sizeOf3 (Rd.own hown1) (k : Int) k c1 rfl hk hc1
  have e2 : (((permL s n).map (Value.int .i64)).take (k * 1)) = ((permL s n).take k).map (Value.int .i64) := by rw [Nat.mul_one, List.map_take]
  rw [e2] at hr2
  have R2 := Lib.hid hr2; have B1 := Lib.hid hb1
  clear hown1 hr2 e2 hb1
  go_wp2_with fail
  refine (sorted_any _ _ _ ((permL s n).take k) _ (by omega) R2.out).mono ?_
  rintro e w2 ⟨A3, c3, rfl, hc3, hown3, hb3⟩
  rw [srtL_samp] at hown3
  have H3 := Lib.hid (ownsRow_base hown3 hs1); have B3 := Lib.hid (B1.out.trans (hb3.mono hs1)); clear hown3 hb3
  go_wp2
  go_ret2
  exact ⟨A3, c3, rfl, hc3, H3.out, B3.out⟩
/-- size returns a number of things: one that is not refused is at most 300. -/
def SzIs (n r : Int) : Prop := (r = n ∧ (n < 0 ∨ 65536 < n)) ∨ (0 ≤ r ∧ r ≤ 300)
theorem Perm_bad (b s : Nat) (n : Int) (w : World) (hd : DrawAt w b s) (h : n < 0 ∨ 65536 < n) :
    Calls Try.prog 46 #[.pointer (some ⟨b, 0, none⟩), .int .i64 n] w fun e w' => e = .returned (.tuple #[.slice none 0 0, .int .i64 3]) ∧ w = w' := by
  have HD := Lib.hid hd; have HH := Lib.hid h; clear hd h
  go_enter Try.func46, Try.ntmps46
  go_wp2_with (go_at_call 45; refine (size_out _ _ _ _ HD.out HH.out).mono ?_; rintro e w' ⟨rfl, rfl⟩)
  go_ret2
  exact ⟨rfl, rfl⟩
theorem Sample_bad (b s : Nat) (n k : Int) (w : World) (hd : DrawAt w b s) (h : n < 0 ∨ 65536 < n ∨ (0 ≤ n ∧ n ≤ 65536 ∧ (k < 0 ∨ (0 ≤ k ∧ n < k)))) :
    Calls Try.prog 39 #[.pointer (some ⟨b, 0, none⟩), .int .i64 n, .int .i64 k] w fun e w' => e = .returned (.tuple #[.slice none 0 0, .int .i64 3]) ∧ w = w' := by
  have HD := Lib.hid hd; clear hd
  by_cases hn : n < 0 ∨ 65536 < n
  · have HH := Lib.hid hn; clear h hn
    go_enter Try.func39, Try.ntmps39
    go_wp2_with (go_at_call 45; refine (size_out _ _ _ _ HD.out HH.out).mono ?_; rintro e w' ⟨rfl, rfl⟩)
    go_ret2
    exact ⟨rfl, rfl⟩
  · have h1 : 0 ≤ n := by omega
    have h2 : n ≤ 65536 := by omega
    have h3 : k < 0 ∨ (0 ≤ k ∧ n < k) := by omega
    clear h hn
    rcases h3 with h3 | ⟨h3, h4⟩
    all_goals
      go_enter Try.func39, Try.ntmps39
      go_wp2_with (go_at_call 45; refine (size_in _ _ _ _ HD.out h1 h2).mono ?_; rintro e w' ⟨rfl, rfl⟩)
      go_ret2
      exact ⟨rfl, rfl⟩
end Go.Proofs.Ytfinjdkcgmepfaa
/- The contracts of list and draw: whatever is drawn, they return the state behind it and true. Conditions: as each statement says. -/
namespace Go.Proofs.Ytfinjdkcgmepfaa
open Go.RowKit
set_option linter.unusedVariables false
/-- The call returns a state and true; the draws at block b have this state, all else stays. -/
def DrawPost (b : Nat) (w : World) (e : Ending) (w' : World) : Prop := ∃ s' : Nat, s' < two64 ∧ e = .returned (.tuple #[.int .u64 s', .bool true]) ∧ Upd w.heap.size b s' w w'
theorem refPerm_ex (s n : Nat) (w : World) (hs : s < two64) (hn : n ≤ 65536) :
    Calls Try.prog 54 #[.int .u64 s, .int .i64 n] w fun e w' => ∃ (S : Nat) (L : List Int) (A : Option Addr) (c : Nat), S = permS s n ∧ L = permL s n ∧ e = .returned (.tuple #[.int .u64 S, .slice A n c]) ∧ Rd w' w'.heap.size 1 A n (L.map (Value.int .i64)) ∧ Below w.heap.size w w' :=
  (refPerm_any s n w hs hn).mono fun e w' ⟨A, c, he, _, ho, hb⟩ => ⟨_, _, A, c, rfl, rfl, he, Rd.own ho, hb⟩
theorem refSample_ex (s n k : Nat) (w : World) (hs : s < two64) (hn : n ≤ 65536) (hk : k ≤ n) :
    Calls Try.prog 44 #[.int .u64 s, .int .i64 n, .int .i64 k] w fun e w' => ∃ (S : Nat) (L : List Int) (A : Option Addr) (c : Nat), S = permS s n ∧ L = sampL s n k ∧ e = .returned (.tuple #[.int .u64 S, .slice A k c]) ∧ Rd w' w'.heap.size 1 A k (L.map (Value.int .i64)) ∧ Below w.heap.size w w' :=
  (refSample_any s n k w hs hn hk).mono fun e w' ⟨A, c, he, _, ho, hb⟩ => ⟨_, _, A, c, rfl, rfl, he, Rd.own ho, hb⟩
theorem refNext_ex (s : Nat) (w : World) (hs : s < two64) :
    Calls Try.prog 78 #[.int .u64 s] w fun e w' => ∃ S y : Nat, S = nextS s ∧ y = nextY s ∧ e = .returned (.tuple #[.int .u64 S, .int .u64 y]) ∧ Qw w w' :=
  (refNext_any s w hs).mono fun _ _ ⟨he, hq⟩ => ⟨_, _, rfl, rfl, he, hq⟩
theorem Next_ex2 (b s B : Nat) (w : World) (hd : DrawAt w b s) (hB : b < B) :
    Calls Try.prog 58 #[.pointer (some ⟨b, 0, none⟩)] w fun e w' => ∃ y : Nat, y = nextY s ∧ e = .returned (.int .u64 y) ∧ Upd B b (nextS s) w w' ∧ w'.heap.size = w.heap.size :=
  (Next_upd b s B w hd hB).mono fun e w' ⟨he, h⟩ => ⟨_, rfl, he, h⟩
theorem DrawPost.same {b s : Nat} {w w' : World} (hs : s < two64) (hd : DrawAt w b s) (hb : Below w.heap.size w w') : DrawPost b w (.returned (.tuple #[.int .u64 s, .bool true])) w' :=
  ⟨s, hs, rfl, Upd.below (Upd.start hd) hb⟩

end Go.Proofs.Ytfinjdkcgmepfaa
