/- The contract of the program's search. Conditions: as each statement says. -/
import Derived.Test.YtfinjdkcgmepfaaCode6
import Derived.ChangeKeysEq
namespace Go.Proofs.Ytfinjdkcgmepfaa
open Go.RowKit
set_option linter.unusedVariables false
theorem synCol_twice {C : Nat} {t : List Bool} {l : List Int} (ht : t.length = C) (hl : ∀ x ∈ l, 0 ≤ x ∧ x < C) : synCol (synCol t l) l = t := by
  apply List.ext_getElem (by rw [synCol_len, synCol_len])
  intro j h1 h2
  have e1 := synCol_get l (synCol t l) (by rw [synCol_len, ht]) hl j
  have e2 := synCol_get l t ht hl j
  rw [e2, getD_at _ _ h1, getD_at _ _ h2] at e1
  rw [e1]
  cases t[j] <;> cases (l.count (j : Int) % 2 == 1) <;> rfl
abbrev bpt (H : Nat) : Value := .pointer (some ⟨H, 0, none⟩)
abbrev findV (W Hc K F T : Nat) : Value := .func (.func 32) #[] #[bpt W, bpt Hc, bpt K, bpt F, bpt T]
/-- What lies in memory while it is looked. -/
structure FnI (w : World) (W Hc K F T L Bc B0 N C D s : Nat) (ac : Option Addr) (kc : Nat) (cols : List (List Int)) (t : List Bool) (at' : List Int) (va : Value) : Prop where
  chk : ChkAt w W t
  tl : t.length = C
  cd : CodeAt w Hc N C D s
  ck : w.cell? ⟨K, 0, none⟩ = some (.slice ac N kc)
  fn : w.cell? ⟨F, 0, none⟩ = some (findV W Hc K F T)
  tk : w.heap[T]? = some (.cells #[va] 38 (0, 0))
  own : w.ownsRow B0 3 1 va at'.length (at'.map (Value.int .i64))
  ll : LL w L Bc ac N cols
  lt : W < B0 ∧ Hc < B0 ∧ K < B0 ∧ F < B0 ∧ T < B0 ∧ Bc ≤ W ∧ Bc ≤ T ∧ Bc ≤ B0 ∧ B0 ≤ w.heap.size
  ne : W ≠ Hc ∧ W ≠ K ∧ W ≠ F ∧ W ≠ T ∧ T ≠ Hc ∧ T ≠ K ∧ T ≠ F
/-- Old memory stays, but for two blocks. -/
structure Ke (B0 W T : Nat) (w w' : World) : Prop where
  os : w'.os = w.os
  tape : w'.tape = w.tape
  output : w'.output = w.output
  size : w.heap.size ≤ w'.heap.size
  block : ∀ k, k < B0 → k ≠ W → k ≠ T → w'.heap[k]? = w.heap[k]?
theorem Ke.refl (B0 W T : Nat) (w : World) : Ke B0 W T w w := ⟨rfl, rfl, rfl, Nat.le_refl _, fun _ _ _ _ => rfl⟩
theorem Ke.trans {B0 W T : Nat} {a b c : World} (h : Ke B0 W T a b) (k : Ke B0 W T b c) : Ke B0 W T a c :=
  ⟨k.os.trans h.os, k.tape.trans h.tape, k.output.trans h.output, Nat.le_trans h.size k.size, fun j h1 h2 h3 => (k.block j h1 h2 h3).trans (h.block j h1 h2 h3)⟩
theorem chk_agg {w : World} {H : Nat} {t : List Bool} (h : ChkAt w H t) : ∃ a b c d : Nat, w.cell? ⟨H, 0, none⟩ = some (.int .u64 (a : Nat)) ∧ w.cell? ⟨H, 1, none⟩ = some (.int .u64 (b : Nat)) ∧ w.cell? ⟨H, 2, none⟩ = some (.int .u64 (c : Nat)) ∧ w.cell? ⟨H, 3, none⟩ = some (.int .u64 (d : Nat)) ∧ (noneB t = decide (a = 0 ∧ b = 0 ∧ c = 0 ∧ d = 0)) := by
  obtain ⟨h0, ws, hw, hb⟩ := h
  have hl := hw.len
  match ws, hl with
  | [a, b, c, d], _ =>
    have q0 := hw.cell (j := 0) (by omega); have q1 := hw.cell (j := 1) (by omega); have q2 := hw.cell (j := 2) (by omega); have q3 := hw.cell (j := 3) (by omega)
    refine ⟨a, b, c, d, q0, q1, q2, q3, ?_⟩
    rw [Bool.eq_iff_iff, noneB_iff, decide_eq_true_eq]
    constructor
    · intro g
      have hz : ∀ k, k < 4 → ([a, b, c, d] : List Nat).getD k 0 = 0 := by
        intro k hk
        apply Nat.eq_of_testBit_eq
        intro i
        rw [Nat.zero_testBit]
        by_cases hi : i < 64
        · have h1 := hb (k * 64 + i) (by omega)
          unfold bitC at h1
          rw [show (k * 64 + i) / 64 = k by omega, show (k * 64 + i) % 64 = i by omega] at h1
          rw [h1]
          by_cases hj : k * 64 + i < t.length
          · exact g _ hj
          · rw [List.getD_eq_getElem?_getD, List.getElem?_eq_none (by omega)]; rfl
        · exact Nat.testBit_lt_two_pow (Nat.lt_of_lt_of_le (hw.lt k) (Nat.le_trans (show two64 ≤ 2 ^ 64 by decide) (Nat.pow_le_pow_right (by decide) (by omega))))
      exact ⟨hz 0 (by omega), hz 1 (by omega), hz 2 (by omega), hz 3 (by omega)⟩
    · rintro ⟨rfl, rfl, rfl, rfl⟩ j hj
      rw [← hb j (by omega)]
      unfold bitC
      have : ∀ k, ([0, 0, 0, 0] : List Nat).getD k 0 = 0 := by
        intro k
        rw [List.getD_eq_getElem?_getD]
        match k with
        | 0 => rfl
        | 1 => rfl
        | 2 => rfl
        | 3 => rfl
        | k + 4 => rw [List.getElem?_eq_none (by simp)]; rfl
      rw [this]; simp
theorem info_u64c : (Try.prog.info? 22).map (fun i => (i.zero, i.size, i.bytes)) = some (some (.int .u64 0), 1, 8) := by kernel_rfl
theorem chk_part (xs : Array Value) (w : World) (j : Nat) (v : Value) (h : xs[j]? = some v) : (part 22 xs (j * 1)).run Try.prog w = .ok v w := by
  simp [part, isAgg, run_underlying Try.underlying22, h]
theorem chk_item (w : World) (d a : Nat) : (Op.equalIn (d + 1) 22 (.int .u64 (a : Nat)) (.int .u64 0)).run Try.prog w = .ok (decide (a = 0)) w := by
  rw [run_equalIn_int w d 22 .u64 .u64 _ _ Try.underlying22]
  congr 1
  rw [Bool.eq_iff_iff]; simp
theorem chk_eq (a b c d : Nat) (w : World) : (Op.equalIn 10000 62 (.agg #[.int .u64 (a : Nat), .int .u64 (b : Nat), .int .u64 (c : Nat), .int .u64 (d : Nat)]) (.agg #[.int .u64 0, .int .u64 0, .int .u64 0, .int .u64 0])).run Try.prog w = .ok (decide (a = 0 ∧ b = 0 ∧ c = 0 ∧ d = 0)) w := by
  obtain ⟨i, hi, _, _, _⟩ := info_parts info_u64c
  have hc : Try.prog.cellsOf 22 = 1 := by kernel_rfl
  show (Op.equalIn (9998 + 1 + 1) _ _ _).run Try.prog w = _
  rw [run_equalIn_array w (9998 + 1) _ _ Try.underlying62 hi, hc]
  have hr : List.range 4 = [0, 1, 2, 3] := by decide
  rw [hr]
  have p0 : ∀ (v0 v1 v2 v3 : Value) (w : World), (part 22 #[v0, v1, v2, v3] 0).run Try.prog w = .ok v0 w := fun v0 v1 v2 v3 w => chk_part #[v0, v1, v2, v3] w 0 v0 rfl
  have p1 : ∀ (v0 v1 v2 v3 : Value) (w : World), (part 22 #[v0, v1, v2, v3] 1).run Try.prog w = .ok v1 w := fun v0 v1 v2 v3 w => chk_part #[v0, v1, v2, v3] w 1 v1 rfl
  have p2 : ∀ (v0 v1 v2 v3 : Value) (w : World), (part 22 #[v0, v1, v2, v3] 2).run Try.prog w = .ok v2 w := fun v0 v1 v2 v3 w => chk_part #[v0, v1, v2, v3] w 2 v2 rfl
  have p3 : ∀ (v0 v1 v2 v3 : Value) (w : World), (part 22 #[v0, v1, v2, v3] 3).run Try.prog w = .ok v3 w := fun v0 v1 v2 v3 w => chk_part #[v0, v1, v2, v3] w 3 v3 rfl
  simp only [Op.eqItems, Sem.run_bind, p0, Result.andThen_ok, chk_item]
  have z0 : ∀ w, (Op.equalIn 9999 22 (.int .u64 0) (.int .u64 0)).run Try.prog w = .ok true w := fun w => by
    have := chk_item w 9998 0
    simpa using this
  have z1 : ∀ (w : World) (a : Nat), (Op.equalIn 9999 22 (.int .u64 (a : Nat)) (.int .u64 0)).run Try.prog w = .ok (decide (a = 0)) w := fun w a => chk_item w 9998 a
  by_cases h0 : a = 0 <;> by_cases h1 : b = 0 <;> by_cases h2 : c = 0 <;> by_cases h3 : d = 0 <;> simp [h0, h1, h2, h3, p1, p2, p3, z0, z1]
/-- What the search returns. -/
def FindP (V : Option (List Nat)) (W Hc K F T L Bc B0 N C D s : Nat) (ac : Option Addr) (kc : Nat) (cols : List (List Int)) (t : List Bool) (at' : List Int) (va : Value) (w : World) (e : Ending) (w' : World) : Prop :=
  ((∃ l va' t', V = some l ∧ e = .returned (.bool true) ∧ FnI w' W Hc K F T L Bc B0 N C D s ac kc cols t' (at' ++ l.reverse.map fun i : Nat => (i : Int)) va') ∨ (V = none ∧ e = .returned (.bool false) ∧ FnI w' W Hc K F T L Bc B0 N C D s ac kc cols t at' va)) ∧ Ke B0 W T w w'
theorem FnI.tog {w w1 : World} {W Hc K F T L Bc B0 N C D s : Nat} {ac : Option Addr} {kc : Nat} {cols : List (List Int)} {t t' : List Bool} {at' : List Int} {va : Value} (h : FnI w W Hc K F T L Bc B0 N C D s ac kc cols t at' va)
    (hg : w.grownBy w1 (some W)) (hc : ChkAt w1 W t') (ht : t'.length = C) : FnI w1 W Hc K F T L Bc B0 N C D s ac kc cols t' at' va ∧ Ke B0 W T w w1 := by
  obtain ⟨l1, l2, l3, l4, l5, l6, l7, l8, l9⟩ := h.lt
  obtain ⟨n1, n2, n3, n4, n5, n6, n7⟩ := h.ne
  have hb : ∀ k, k < w.heap.size → k ≠ W → w1.heap[k]? = w.heap[k]? := fun k h1 h2 => hg.block k h1 (fun e => h2 (by injection e))
  refine ⟨⟨hc, ht, ⟨(hb Hc (by omega) (fun e => n1 e.symm)).trans h.cd.blk⟩, (cell_heap (hb K (by omega) (fun e => n2 e.symm)) 0).trans h.ck, (cell_heap (hb F (by omega) (fun e => n3 e.symm)) 0).trans h.fn, (hb T (by omega) (fun e => n4 e.symm)).trans h.tk, ?_, ?_, ⟨l1, l2, l3, l4, l5, l6, l7, l8, Nat.le_trans l9 hg.size⟩, h.ne⟩, ⟨hg.os, hg.tape, hg.output, hg.size, fun k h1 h2 _ => hb k (by omega) h2⟩⟩
  · refine ownsRow_grown h.own hg (fun k hk e => ?_)
    injection e with e
    have := (h.own.lt k hk).1
    omega
  · exact h.ll.keep fun b o _ h2 => cell_heap (hb b (by omega) (by omega)) o
theorem FnI.push {w w1 : World} {W Hc K F T L Bc B0 N C D s n : Nat} {ac : Option Addr} {kc : Nat} {cols : List (List Int)} {t : List Bool} {at' : List Int} {va v' : Value} {x : Int} (h : FnI w W Hc K F T L Bc B0 N C D s ac kc cols t at' va)
    (hn : n = at'.length + 1) (hown : w1.ownsRow B0 3 1 v' n (at'.map (Value.int .i64) ++ [.int .i64 x])) (hb : Below B0 w w1) (hg : w.grownBy w1 va.ownBlock) :
    FnI (w1.setCell ⟨T, 0, none⟩ v') W Hc K F T L Bc B0 N C D s ac kc cols t (at' ++ [x]) v' ∧ Ke B0 W T w (w1.setCell ⟨T, 0, none⟩ v') := by
  obtain ⟨l1, l2, l3, l4, l5, l6, l7, l8, l9⟩ := h.lt
  obtain ⟨n1, n2, n3, n4, n5, n6, n7⟩ := h.ne
  have hk : ∀ k, k < B0 → k ≠ T → (w1.setCell ⟨T, 0, none⟩ v').heap[k]? = w.heap[k]? := fun k h1 h2 => (Below.heap_setCell _ _ _ _ (by simpa using h2)).trans (hb.block k h1)
  refine ⟨⟨h.chk.keep (hk W l1 n4), h.tl, ⟨(hk Hc l2 (fun e => n5 e.symm)).trans h.cd.blk⟩, (cell_heap (hk K l3 (fun e => n6 e.symm)) 0).trans h.ck, (cell_heap (hk F l4 (fun e => n7 e.symm)) 0).trans h.fn, ?_, ?_, h.ll.keep fun b o _ h2 => cell_heap (hk b (by omega) (by omega)) o, ⟨l1, l2, l3, l4, l5, l6, l7, l8, by rw [size_setCell]; exact Nat.le_trans l9 hb.size⟩, h.ne⟩, ⟨hb.os, hb.tape, hb.output, by rw [size_setCell]; exact hb.size, fun k h1 _ h3 => hk k h1 h3⟩⟩
  · have := blk_setR (o := 0) ((hb.block T l5).trans h.tk) v'
    rw [this]; rfl
  · refine ownsRow_setCell_other ?_ ?_ _
    · rw [List.length_append, List.map_append]; subst hn; exact hown
    · intro e
      have := (hown.lt T e).1
      omega
set_option maxRecDepth 100000 in
set_option maxHeartbeats 4000000 in
theorem find_zero (W Hc K F T L Bc B0 N C D s : Nat) (ac : Option Addr) (kc : Nat) (cols : List (List Int)) (lo : Nat) (t : List Bool) (at' : List Int) (va : Value) (w : World) (h : FnI w W Hc K F T L Bc B0 N C D s ac kc cols t at' va) :
    Calls Try.prog 32 #[.int .i64 lo, .int .i64 (0 : Nat), bpt W, bpt Hc, bpt K, bpt F, bpt T] w (FindP (pikL cols 0 t lo) W Hc K F T L Bc B0 N C D s ac kc cols t at' va w) := by
  obtain ⟨a, b, c, d, q0, q1, q2, q3, hn⟩ := chk_agg h.chk
  have HN := Lib.hid hn; have HI := Lib.hid h
  have hq := chk_eq a b c d
  obtain ⟨v, hv⟩ : ∃ v, v = decide (a = 0 ∧ b = 0 ∧ c = 0 ∧ d = 0) := ⟨_, rfl⟩
  rw [← hv] at hq HN
  clear hn h hv
  go_enter Try.func32, Try.ntmps32
  go_wp2_with fail
  go_ret
  cases v with
  | true => exact ⟨.inl ⟨[], va, t, by rw [pikL, if_pos HN.out], rfl, by simpa using HI.out⟩, Ke.refl _ _ _ _⟩
  | false => exact ⟨.inr ⟨by rw [pikL, if_neg (by rw [HN.out]; decide)], rfl, HI.out⟩, Ke.refl _ _ _ _⟩
set_option maxRecDepth 100000 in
set_option maxHeartbeats 8000000 in
theorem find_succ (W Hc K F T L Bc B0 N C D s z : Nat) (ac : Option Addr) (kc : Nat) (cols : List (List Int)) (hN : N ≤ 512) (hz : z ≤ 3) (hcols : ∀ l ∈ cols, l.length ≤ 256 ∧ ∀ x ∈ l, 0 ≤ x ∧ x < C)
    (IH : ∀ (lo : Nat) (li zi : Int) (t : List Bool) (at' : List Int) (va : Value) (w : World), li = lo → zi = z → lo ≤ N → at'.length + z ≤ 8 → FnI w W Hc K F T L Bc B0 N C D s ac kc cols t at' va →
      Calls Try.prog 32 #[.int .i64 li, .int .i64 zi, bpt W, bpt Hc, bpt K, bpt F, bpt T] w (FindP (pikL cols z t lo) W Hc K F T L Bc B0 N C D s ac kc cols t at' va w))
    (lo : Nat) (li zi : Int) (t : List Bool) (at' : List Int) (va : Value) (w : World) (hli : li = lo) (hzi : zi = (z + 1 : Nat)) (hlo : lo ≤ N) (hat : at'.length + (z + 1) ≤ 8) (h : FnI w W Hc K F T L Bc B0 N C D s ac kc cols t at' va) :
    Calls Try.prog 32 #[.int .i64 li, .int .i64 zi, bpt W, bpt Hc, bpt K, bpt F, bpt T] w (FindP (pikL cols (z + 1) t lo) W Hc K F T L Bc B0 N C D s ac kc cols t at' va w) := by
  have HI := Lib.hid h; have HIH := Lib.hid IH; have HC := Lib.hid hcols
  have hl0 : 0 ≤ li := by omega
  have hl5 : li ≤ 512 := by omega
  have hz1 : 1 ≤ zi := by omega
  have hz4 : zi ≤ 4 := by omega
  have hzz : (zi == 0) = false := by simpa using (by omega : ¬ zi = 0)
  have HLI := Lib.hid hli; have HZI := Lib.hid hzi
  have HCL : Hid (cols.length = N) := Lib.hid h.ll.len
  clear h IH hcols hli hzi
  go_enter Try.func32, Try.ntmps32
  go_wp2_with fail
  go_loopw [10] (fun i wr => ∃ (k : Nat) (ki : Int), k ≤ N ∧ i = .int .i64 ki ∧ ki = k ∧ pikF cols z t k = pikL cols (z + 1) t lo ∧ FnI wr W Hc K F T L Bc B0 N C D s ac kc cols t at' va ∧ Ke B0 W T w wr) (fun i _ => N - (intOf i).toNat)
  case atStart => exact ⟨lo, li, hlo, rfl, HLI.out, rfl, HI.out, Ke.refl _ _ _ _⟩
  case round =>
    obtain ⟨k, ki, hk, rfl, hki, hpv, hI, hke⟩ := hrel
    obtain ⟨wa, rfl⟩ : ∃ z : World, z = wr := ⟨_, rfl⟩
    have HI1 := Lib.hid hI; have HKE := Lib.hid hke; have HPV := Lib.hid hpv; have HKI := Lib.hid hki
    have c0 := hI.cd.c0; have k0 := hI.ck; have f0 := hI.fn
    clear hI hke hpv HI
    by_cases hlt : k < N
    · have hkn : ki < (N : Int) := by omega
      have hk0 : 0 ≤ ki := by omega
      have hkt : ki.toNat = k := by omega
      have hkc : k < cols.length := by rw [HCL.out]; exact hlt
      obtain ⟨b1, o1, Ai, ci, rfl, ⟨_, hb1⟩, hcell, hle, hrd, _⟩ := HI1.out.ll.row k hkc
      have hrow := HC.out _ (List.getElem_mem hkc)
      have hps := pikF_step (z := z) (t := t) hkc
      have e0 : cols.getD k [] = cols[k] := by simp [List.getD_eq_getElem?_getD, hkc]
      rw [e0] at hps
      obtain ⟨l, hl⟩ : ∃ l, l = cols[k] := ⟨_, rfl⟩
      rw [← hl] at hcell hle hrd hrow hps
      have HRD := Lib.hid hrd; have HRW := Lib.hid hrow; have HPS := Lib.hid hps
      have HLT := Lib.hid HI1.out.lt
      have hne : 0 < l.length → ∀ p, Ai = some p → p.block ≠ W := fun h0 p hp => by
        obtain ⟨b', o', e', hb', _⟩ := HRD.out.2 h0
        rw [hp] at e'
        injection e' with e'
        subst e'
        have := HLT.out.2.2.2.2.2.1
        simp only; omega
      have HNE := Lib.hid hne
      have hl256 := HRW.out.1
      have HLK := Lib.hid hl
      clear hl hrd hrow hps hne hb1 e0 hki
      go_wp2_with fail
      refine (toggle_any W Bc l.length ci Ai t l _ (by omega) HI1.out.chk (by rw [HI1.out.tl]; exact HRW.out.2) HRD.out HNE.out).mono ?_
      rintro e w1 ⟨rfl, hc1, hg1⟩
      obtain ⟨hI2, hk2⟩ := HI1.out.tog hg1 hc1 (by rw [synCol_len, HI1.out.tl])
      have HI2 := Lib.hid hI2; have HK2 := Lib.hid hk2; have HC1 := Lib.hid hc1
      have f1 := hI2.fn
      clear hc1 hg1 hI2 hk2 c0 k0 f0 hcell
      go_wp2_with fail
      refine (HIH.out (k + 1) _ _ (synCol t l) at' va _ (by have := HKI.out; omega) (by have := HZI.out; omega) (by omega) (by omega) HI2.out).mono ?_
      rintro e w2 ⟨⟨l', va2, t2, hV, rfl, hI3⟩ | ⟨hV, rfl, hI3⟩, hk3⟩
      · have HE : Hid (pikL cols (z + 1) t lo = some (k :: l')) := Lib.hid (by rw [← HPV.out, HPS.out, hV])
        have HI3 := Lib.hid hI3; have HK3 := Lib.hid hk3
        have HLL : Hid ((at' ++ l'.reverse.map fun i : Nat => (i : Int)).length ≤ 1000) := Lib.hid (by
          have h1 := (pikL_sound hV).1
          rw [List.length_append, List.length_map, List.length_reverse]; omega)
        have h1000 := HLL.out
        have t0 : w2.cell? ⟨T, 0, none⟩ = some va2 := by rw [cell_of_row _ _ _ _ _ _ hI3.tk]; rfl
        obtain ⟨Av, cv, rfl, hcv⟩ := own_form hI3.own
        have hB0 := hI3.lt.2.2.2.2.2.2.2.2
        obtain ⟨aa, haa⟩ : ∃ aa, aa = at' ++ l'.reverse.map fun i : Nat => (i : Int) := ⟨_, rfl⟩
        rw [← haa] at HI3 h1000 t0 hcv
        have HAA := Lib.hid haa
        clear hV hI3 hk3 f1 haa
        go_wp2_with (at_builtin; refine wpList_pushL elB_i5 (.tmp 34) (.tmp 36) rfl rfl B0 aa.length _ rfl HI3.out.own rfl rfl (one_cell1 rfl) (by omega) (by decide) hB0 ?_; intro v8 w8 hown8 hb8 hg8 hL8; obtain ⟨A8, d8, rfl, hd8⟩ := own_form hown8; have f8 : w8.frozen? ⟨T, 0, none⟩ = false := frozen_of_row _ _ _ _ _ ((hb8.block T HI3.out.lt.2.2.2.2.1).trans HI3.out.tk); have c8 := (cell_of_row _ _ _ _ _ _ ((hb8.block T HI3.out.lt.2.2.2.2.1).trans HI3.out.tk) : w8.cell? ⟨T, 0, none⟩ = _); have HP8 := Lib.hid (HI3.out.push (x := ki) rfl hown8 hb8 hg8); clear hown8 hb8 hg8 hL8)
        go_ret
        have hp := HP8.out
        have ea : aa ++ [ki] = at' ++ (k :: l').reverse.map fun i : Nat => (i : Int) := by
          rw [HAA.out, List.reverse_cons, List.map_append, List.append_assoc]
          congr 2
          simp [HKI.out]
        rw [ea] at hp
        exact ⟨.inl ⟨k :: l', _, _, HE.out, rfl, hp.1⟩, HKE.out.trans (HK2.out.trans (HK3.out.trans hp.2))⟩
      · have HPV2 : Hid (pikF cols z t (k + 1) = pikL cols (z + 1) t lo) := Lib.hid (by rw [← HPV.out, HPS.out, hV])
        have HI3 := Lib.hid hI3; have HK3 := Lib.hid hk3
        have k0 := hI3.ck
        obtain ⟨b1', o1', Ai2, ci2, hA2, ⟨_, hb1⟩, hcell, hle, hrd, _⟩ := HI3.out.ll.row k hkc
        rw [← HLK.out] at hcell hle hrd
        injection hA2 with hA2
        injection hA2 with e1 e2 _
        subst e1; subst e2
        have HRD2 := Lib.hid hrd
        have hne : 0 < l.length → ∀ p, Ai2 = some p → p.block ≠ W := fun h0 p hp => by
          obtain ⟨b', o', e', hb', _⟩ := HRD2.out.2 h0
          rw [hp] at e'
          injection e' with e'
          subst e'
          have := HLT.out.2.2.2.2.2.1
          simp only; omega
        have HNE2 := Lib.hid hne
        clear hV hI3 hk3 f1 hrd hne hb1
        go_wp2_with fail
        refine (toggle_any W Bc l.length ci2 Ai2 (synCol t l) l _ (by omega) HI3.out.chk (by rw [HI3.out.tl]; exact HRW.out.2) HRD2.out HNE2.out).mono ?_
        rintro e w3 ⟨rfl, hc1, hg1⟩
        rw [synCol_twice HI1.out.tl HRW.out.2] at hc1
        obtain ⟨hI4, hk4⟩ := HI3.out.tog hg1 hc1 HI1.out.tl
        have HI4 := Lib.hid hI4; have HK4 := Lib.hid hk4
        clear hc1 hg1 hI4 hk4 k0 hcell
        go_wp2_with fail
        go_roundw
        case rel => exact ⟨k + 1, ki + 1, hlt, rfl, by have := HKI.out; omega, HPV2.out, HI4.out, HKE.out.trans (HK2.out.trans (HK3.out.trans HK4.out))⟩
        case measure => simp [intOf]; omega
    · have hkn : ¬ ki < (N : Int) := by omega
      have HE : Hid (pikL cols (z + 1) t lo = none) := Lib.hid (by rw [← HPV.out, pikF_end (by rw [HCL.out]; omega)])
      clear hki
      go_wp2_with fail
      go_ret
      exact ⟨.inr ⟨HE.out, rfl, HI1.out⟩, HKE.out⟩
end Go.Proofs.Ytfinjdkcgmepfaa
