/- The contract of fits of the statements about shares. Conditions: as the statement says. -/
import Derived.Test.YthmooplhhkafcaaChosen
import Derived.BigQuiet
namespace Go.Proofs.Ythmooplhhkafcaa
open Go.RowKit
set_option linter.unusedVariables false
/-- A case that is not refused comes back. -/
def FitsP (A : Option Addr) (n c : Nat) (w : World) (e : Ending) (w' : World) : Prop :=
  ∃ (N q c2 : Nat) (A2 : Option Addr) (co : List Nat), 1 ≤ N ∧ N ≤ 16 ∧ q + 1 ≤ N ∧ n * q ≤ c2 ∧ Bytes co ∧ co.length = n * q ∧ e = .returned (.agg #[.slice A n c, .int .i64 N, .int .i64 ((q : Int) + 1), .slice A2 (n * q) c2]) ∧ Rd w' w'.heap.size 1 A2 (n * q) (u8s co) ∧ Below w.heap.size w w'
theorem own_drewN {w : World} {base : Nat} {t : TypeId} {sz n : Nat} {v : Value} {xs : List Value} (h : w.ownsRow base t sz v n xs) (k : Nat) : (w.drewN k).ownsRow base t sz v n xs := h
abbrev caseC (a b c d : Value) : Array Value := #[a, b, c, d]
def FitsR (H n c q k : Nat) (A A' : Option Addr) (m c' N0 : Nat) (NI KI : Int) (w wr : World) : Prop :=
  ∃ (v : Value) (co : List Nat), Bytes co ∧ co.length = k ∧ wr.heap[H]? = some (.cells (caseC (.slice A n c) (.int .i64 NI) (.int .i64 KI) (.slice A' m c')) 51 (0, 0)) ∧
    wr.heap[H + 1]? = some (.cells (caseC (.slice none 0 0) (.int .i64 0) (.int .i64 0) (.slice none 0 0)) 51 (0, 0)) ∧
    wr.heap[H + 2]? = some (.cells (caseC (.slice A n c) (.int .i64 ((N0 : Int) + 1)) (.int .i64 ((q : Int) + 1)) v) 51 (0, 0)) ∧
    wr.ownsRow (H + 3) 5 1 v k (u8s co) ∧ Below w.heap.size w wr
set_option maxRecDepth 100000 in
set_option maxHeartbeats 1000000 in
theorem fits_any (A A' : Option Addr) (n c m c' : Nat) (NI KI : Int) (sec cs : List Nat) (w : World) (hn : n ≤ 60) (hm : m ≤ 9223372036854775807) (hc : Bytes cs) (h' : Rd w w.heap.size 1 A' m (u8s cs)) :
    Calls Try.prog 26 #[.agg #[.slice A n c, .int .i64 NI, .int .i64 KI, .slice A' m c']] w (FitsP A n c w) := by
  have H' := Lib.hid h'; have HC := Lib.hid hc
  clear h' hc
  go_enter Try.func26, Try.ntmps26
  go_wp2_with fail
  refine (kind_m NI 16 _ (by decide) (by decide)).mono ?_
  rintro e w1 ⟨N0, hN0, rfl, rfl⟩
  have j1 : (N0 : Int) + 1 ≤ 16 := by omega
  go_wp2_with fail
  refine (kind_m KI (N0 + 1) _ (by omega) (by omega)).mono ?_
  rintro e w1 ⟨q, hq, rfl, rfl⟩
  have j2 : (q : Int) + 1 ≤ 16 := by omega
  go_wp2_with fail
  obtain ⟨P, hP⟩ : ∃ P, P = n * q := ⟨_, rfl⟩
  have hP9 : P ≤ 60 * 15 := by rw [hP]; exact Nat.mul_le_mul hn (by omega)
  have hPw : wrap64 ((n : Int) * (q : Int)) = (P : Int) := by rw [hP, ← Int.natCast_mul]; unfold wrap64; omega
  have HPE := Lib.hid hP
  clear hP
  go_loopw [6] (fun i wr => ∃ k : Nat, k ≤ P ∧ i = .int .i64 k ∧ FitsR w.heap.size n c q k A A' m c' N0 NI KI w wr) (fun i _ => P - (intOf i).toNat)
  case atStart =>
    refine ⟨0, Nat.zero_le _, rfl, .slice none 0 0, [], Bytes.nil, rfl, ?_, ?_, ?_, World.ownsRow_nil _ _ _ _, (((Below.refl _ _).alloc (Nat.le_refl _) _).alloc (by simp) _).alloc (by simp; omega) _⟩
    · rw [Below.heap_alloc _ _ _ (by simp; omega), Below.heap_alloc _ _ _ (by simp)]; exact heap_alloc_new w _
    · rw [Below.heap_alloc _ _ _ (by simp)]
      have := heap_alloc_new (w.alloc (Obj.cells #[Value.slice A n c, Value.int IntKind.i64 NI, Value.int IntKind.i64 KI, Value.slice A' m c'] 51)) (Obj.cells #[Value.slice none 0 0, Value.int IntKind.i64 0, Value.int IntKind.i64 0, Value.slice none 0 0] 51)
      simpa using this
    · have := heap_alloc_new ((w.alloc (Obj.cells #[Value.slice A n c, Value.int IntKind.i64 NI, Value.int IntKind.i64 KI, Value.slice A' m c'] 51)).alloc (Obj.cells #[Value.slice none 0 0, Value.int IntKind.i64 0, Value.int IntKind.i64 0, Value.slice none 0 0] 51)) (Obj.cells #[Value.slice A n c, Value.int IntKind.i64 ((N0 : Int) + 1), Value.int IntKind.i64 ((q : Int) + 1), Value.slice none 0 0] 51)
      simpa using this
  case round =>
    obtain ⟨wa, rfl⟩ : ∃ wa : World, wa = wr := ⟨_, rfl⟩
    obtain ⟨k, hk, rfl, v, co, hcb, hcl, hx, hz, hy, hown, hbw⟩ := hrel
    have HO := Lib.hid hown; have HCB := Lib.hid hcb; have HCL := Lib.hid hcl; have HX := Lib.hid hx; have HZ := Lib.hid hz; have HY := Lib.hid hy
    obtain ⟨Av, cav, rfl, hcav⟩ := own_form HO.out
    have hsz := hbw.size
    have hs3 : w.heap.size + 2 < wa.heap.size := (Array.getElem?_eq_some_iff.1 hy).1
    have x0 : wa.cell? ⟨w.heap.size, 0, none⟩ = some (.slice A n c) := by rw [cell_of_row _ _ _ _ _ _ HX.out]; rfl
    have x3 : wa.cell? ⟨w.heap.size, 3, none⟩ = some (.slice A' m c') := by rw [cell_of_row _ _ _ _ _ _ HX.out]; rfl
    have y0 : wa.cell? ⟨w.heap.size + 1 + 1, 0, none⟩ = some (.slice A n c) := by rw [cell_of_row _ _ _ _ _ _ HY.out]; rfl
    have y1 : wa.cell? ⟨w.heap.size + 1 + 1, 1, none⟩ = some (.int .i64 ((N0 : Int) + 1)) := by rw [cell_of_row _ _ _ _ _ _ HY.out]; rfl
    have y2 : wa.cell? ⟨w.heap.size + 1 + 1, 2, none⟩ = some (.int .i64 ((q : Int) + 1)) := by rw [cell_of_row _ _ _ _ _ _ HY.out]; rfl
    have y3 : wa.cell? ⟨w.heap.size + 1 + 1, 3, none⟩ = some (.slice Av k cav) := by rw [cell_of_row _ _ _ _ _ _ HY.out]; rfl
    have z0 : wa.cell? ⟨w.heap.size + 1, 0, none⟩ = some (.slice none 0 0) := by rw [cell_of_row _ _ _ _ _ _ HZ.out]; rfl
    have z1 : wa.cell? ⟨w.heap.size + 1, 1, none⟩ = some (.int .i64 0) := by rw [cell_of_row _ _ _ _ _ _ HZ.out]; rfl
    have z2 : wa.cell? ⟨w.heap.size + 1, 2, none⟩ = some (.int .i64 0) := by rw [cell_of_row _ _ _ _ _ _ HZ.out]; rfl
    have z3 : wa.cell? ⟨w.heap.size + 1, 3, none⟩ = some (.slice none 0 0) := by rw [cell_of_row _ _ _ _ _ _ HZ.out]; rfl
    have fz : ∀ o, wa.frozen? ⟨w.heap.size + 1, o, none⟩ = false := fun o => by simp [World.frozen?, HZ.out]
    have fy : ∀ o, wa.frozen? ⟨w.heap.size + 1 + 1, o, none⟩ = false := fun o => by simp [World.frozen?, HY.out]
    have fin : ∀ (nq cv : Nat) (v3 : Value) (w3 : World), cv < 256 → w3.ownsRow (w.heap.size + 3) 5 1 v3 (k + 1) (u8s co ++ [.int .u8 cv]) → Below (w.heap.size + 3) (wa.drewN nq) w3 → FitsR w.heap.size n c q (k + 1) A A' m c' N0 NI KI w (w3.setCell ⟨w.heap.size + 1 + 1, 3, none⟩ v3) := fun nq cv v3 w3 h1 h2 h3 => by
      refine ⟨v3, co ++ [cv], HCB.out.append (Bytes.cons h1 Bytes.nil), by rw [List.length_append, HCL.out]; rfl, ?_, ?_, ?_, ?_, ?_⟩
      · rw [Below.heap_setCell _ _ _ _ (by simp; omega)]; exact (h3.block _ (by omega)).trans HX.out
      · rw [Below.heap_setCell _ _ _ _ (by simp)]; exact (h3.block _ (by omega)).trans HZ.out
      · exact blk_set' ((h3.block _ (by omega)).trans HY.out) v3
      · refine ownsRow_setCell_below ?_ (by show w.heap.size + 1 + 1 < _; omega) _
        have e : u8s (co ++ [cv]) = u8s co ++ [Value.int .u8 cv] := by simp [u8s]
        rw [e]; exact h2
      · exact ((hbw.trans (Qw.below ⟨nq, rfl⟩ _)).trans (h3.mono (by omega))).setCell (by show w.heap.size ≤ w.heap.size + 1 + 1; omega) _
    have FIN := Lib.hid fin
    clear hown hcb hcl hx hz hy fin
    by_cases hlt : k < P
    · have i1 : (k : Int) < (P : Int) := by omega
      have hw8 : IntKind.u8.wrap (k : Int) = ((k % 256 : Nat) : Int) := by rw [IntKind.wrap_u8]; omega
      have hk8 : k % 256 < 256 := Nat.mod_lt _ (by decide)
      generalize k % 256 = k8 at hw8 hk8
      by_cases hm0 : 0 < m
      · have i2 : (0 : Int) < (m : Int) := by omega
        obtain ⟨b', off', rfl, hb', hc'⟩ := H'.out.2 hm0
        have hcl' : cs.length = m := by have := H'.out.1; simpa [u8s] using this
        have hkm : k % m < cs.length := by rw [hcl']; exact Nat.mod_lt _ hm0
        have c0 : wa.cell? ⟨b', off' + k % m, none⟩ = some (.int .u8 (cs[k % m] : Nat)) := (hbw.cell (p := ⟨b', off' + k % m, none⟩) hb').trans (hc' _ _ (by simp [u8s, hkm]))
        have hcb := HC.out cs[k % m] (List.getElem_mem hkm)
        have hmod : ((k : Int).tmod (m : Int)) = ((k % m : Nat) : Int) := (Int.ofNat_tmod k m).symm
        have hlm : (((k % m : Nat) : Int) < (m : Int)) := by have := Nat.mod_lt k hm0; omega
        generalize cs[k % m] = cv at c0 hcb
        clear hc' hcl'
        generalize k % m = km at hmod hlm c0
        go_wp2_with fail
        go_quiet (fail)
        have y3n : ∀ nq, (wa.drewN nq).cell? ⟨w.heap.size + 1 + 1, 3, none⟩ = some (.slice Av k cav) := fun _ => y3
        go_wp2_with (at_builtin; go_loud (refine wpList_push elB_u8 (.tmp 48) (.tmp 50) rfl rfl (w.heap.size + 3) k _ rfl (own_drewN HO.out _) rfl rfl (one_cell1 rfl) (by omega) (by decide) (by simp; omega) ?_; intro v3 w3 hown3 hb3 _; obtain ⟨A3, ca3, rfl, hc3⟩ := own_form hown3; have f3 := (hb3.frozen (p := ⟨w.heap.size + 1 + 1, 3, none⟩) (by show w.heap.size + 1 + 1 < _; omega)).trans (fy 3); have y33 := (hb3.cell (p := ⟨w.heap.size + 1 + 1, 3, none⟩) (by show w.heap.size + 1 + 1 < _; omega)).trans y3))
        go_roundw
        case rel => exact ⟨k + 1, by omega, by go_num, FIN.out nq cv _ w3 hcb hown3 hb3⟩
        case measure => simp [intOf]; omega
      · obtain rfl : m = 0 := by omega
        go_wp2_with (at_builtin; go_loud (refine wpList_push elB_u8 (.tmp 48) (.tmp 50) rfl rfl (w.heap.size + 3) k _ rfl HO.out rfl rfl (one_cell1 rfl) (by omega) (by decide) (by omega) ?_; intro v3 w3 hown3 hb3 _; obtain ⟨A3, ca3, rfl, hc3⟩ := own_form hown3; have f3 := (hb3.frozen (p := ⟨w.heap.size + 1 + 1, 3, none⟩) (by show w.heap.size + 1 + 1 < _; omega)).trans (fy 3); have y33 := (hb3.cell (p := ⟨w.heap.size + 1 + 1, 3, none⟩) (by show w.heap.size + 1 + 1 < _; omega)).trans y3))
        go_roundw
        case rel => exact ⟨k + 1, by omega, by go_num, FIN.out 0 k8 _ w3 hk8 hown3 hb3⟩
        case measure => simp [intOf]; omega
    · have i1 : (P : Int) ≤ (k : Int) := by omega
      obtain rfl : k = P := by omega
      go_wp2_with fail
      have k0 := cell_set z0 (u := .slice A n c)
      have k1 := cell_set (w := wa.setCell ⟨w.heap.size + 1, 0, none⟩ (.slice A n c)) ((World.cell?_setCell_other wa _ _ _ (by simp)).trans z1) (u := .int .i64 ((N0 : Int) + 1))
      have k2 := cell_set (w := (wa.setCell ⟨w.heap.size + 1, 0, none⟩ (.slice A n c)).setCell ⟨w.heap.size + 1, 1, none⟩ (.int .i64 ((N0 : Int) + 1))) ((World.cell?_setCell_other _ _ _ _ (by simp)).trans ((World.cell?_setCell_other wa _ _ _ (by simp)).trans z2)) (u := .int .i64 ((q : Int) + 1))
      have k3 := cell_set (w := ((wa.setCell ⟨w.heap.size + 1, 0, none⟩ (.slice A n c)).setCell ⟨w.heap.size + 1, 1, none⟩ (.int .i64 ((N0 : Int) + 1))).setCell ⟨w.heap.size + 1, 2, none⟩ (.int .i64 ((q : Int) + 1))) ((World.cell?_setCell_other _ _ _ _ (by simp)).trans ((World.cell?_setCell_other _ _ _ _ (by simp)).trans ((World.cell?_setCell_other wa _ _ _ (by simp)).trans z3))) (u := .slice Av k cav)
      refine bodyPost_ret (v := .agg #[.slice A n c, .int .i64 ((N0 : Int) + 1), .int .i64 ((q : Int) + 1), .slice Av k cav]) (by simp [results, Try.results26, go_sem, k0, k1, k2, k3]) rfl ?_
      have hB := (((hbw.setCell (p := ⟨w.heap.size + 1, 0, none⟩) (by simp) (.slice A n c)).setCell (p := ⟨w.heap.size + 1, 1, none⟩) (by simp) (.int .i64 ((N0 : Int) + 1))).setCell (p := ⟨w.heap.size + 1, 2, none⟩) (by simp) (.int .i64 ((q : Int) + 1))).setCell (p := ⟨w.heap.size + 1, 3, none⟩) (by simp) (.slice Av k cav)
      have hO := ownsRow_setCell_below (ownsRow_setCell_below (ownsRow_setCell_below (ownsRow_setCell_below HO.out (a := ⟨w.heap.size + 1, 0, none⟩) (by simp) (.slice A n c)) (a := ⟨w.heap.size + 1, 1, none⟩) (by simp) (.int .i64 ((N0 : Int) + 1))) (a := ⟨w.heap.size + 1, 2, none⟩) (by simp) (.int .i64 ((q : Int) + 1))) (a := ⟨w.heap.size + 1, 3, none⟩) (by simp) (.slice Av k cav)
      obtain rfl := HPE.out
      exact ⟨N0 + 1, q, cav, Av, co, by omega, by omega, by omega, hcav, HCB.out, HCL.out, rfl, Rd.own hO, hB⟩
end Go.Proofs.Ythmooplhhkafcaa
