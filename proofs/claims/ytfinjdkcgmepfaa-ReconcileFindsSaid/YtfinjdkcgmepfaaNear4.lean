/- The contract of the document's pick. Conditions: as each statement says. -/
import Derived.Test.YtfinjdkcgmepfaaNear3
import Derived.Test.YtfinjdkcgmepfaaLawC
import Derived.Test.YtfinjdkcgmepfaaCode6
namespace Go.Proofs.Ytfinjdkcgmepfaa
open Go.RowKit
set_option linter.unusedVariables false
def indB (C : Nat) (l : List Int) : List Bool := (List.range C).map fun j : Nat => decide ((j : Int) ∈ l)
theorem indB_len (C : Nat) (l : List Int) : (indB C l).length = C := by simp [indB]
theorem indB_get {C j : Nat} (l : List Int) (h : j < C) : (indB C l).getD j false = decide ((j : Int) ∈ l) := by simp [indB, List.getD_eq_getElem?_getD, h]
theorem xor_syn {C : Nat} {t : List Bool} {l : List Int} (ht : t.length = C) (hl : ∀ x ∈ l, 0 ≤ x ∧ x < C) (hn : l.Nodup) : xorB t (indB C l) C = synCol t l := by
  apply List.ext_getElem (by rw [xorB_len, synCol_len, ht])
  intro j h1 h2
  have hj : j < C := by rw [xorB_len] at h1; exact h1
  have e1 := synCol_get l t ht hl j
  have e2 := xorB_get (a := t) (b := indB C l) hj
  rw [getD_at _ _ h2] at e1
  rw [getD_at _ _ h1] at e2
  rw [e1, e2, indB_get _ hj, hn.count]
  by_cases h : (j : Int) ∈ l
  · simp [h]
  · simp [h]
/-- A list of lists of m bits, to be read. -/
structure LB (w : World) (B : Nat) (A : Option Addr) (n m : Nat) (rows : List (List Bool)) : Prop where
  len : rows.length = n
  row : ∀ i (h : i < rows.length), ∃ b off Ai ci, A = some ⟨b, off, none⟩ ∧ b < B ∧ w.cell? ⟨b, off + i, none⟩ = some (.slice Ai m ci) ∧ m ≤ ci ∧ Rd w B 1 Ai m ((rows[i]).map Value.bool)
theorem LB.below {w w' : World} {B n m : Nat} {A : Option Addr} {rows : List (List Bool)} (h : LB w B A n m rows) (hb : Below B w w') : LB w' B A n m rows :=
  ⟨h.len, fun i hi => by
    obtain ⟨b, off, Ai, ci, hA, hB, hc, hl, hr⟩ := h.row i hi
    exact ⟨b, off, Ai, ci, hA, hB, (hb.cell (p := ⟨b, _, none⟩) hB).trans hc, hl, hr.below hb⟩⟩
theorem LB.mono {w : World} {B B' n m : Nat} {A : Option Addr} {rows : List (List Bool)} (h : LB w B A n m rows) (hB : B ≤ B') : LB w B' A n m rows :=
  ⟨h.len, fun i hi => by
    obtain ⟨b, off, Ai, ci, hA, hb, hc, hl, hr⟩ := h.row i hi
    exact ⟨b, off, Ai, ci, hA, Nat.lt_of_lt_of_le hb hB, hc, hl, hr.mono hB⟩⟩
theorem LB.past {w w' : World} {n m : Nat} {A : Option Addr} {rows : List (List Bool)} (h : LB w w.heap.size A n m rows) (hb : Below w.heap.size w w') : LB w' w'.heap.size A n m rows := (h.below hb).mono hb.size
/-- What pick returns. -/
def PickP (V : Option (List Nat)) (w : World) (e : Ending) (w' : World) : Prop :=
  ((∃ l A n c, V = some l ∧ n = l.length ∧ e = .returned (.tuple #[.slice A n c, .bool true]) ∧ n ≤ c ∧ Rd w' w'.heap.size 1 A n ((l.map fun i : Nat => (i : Int)).map (Value.int .i64))) ∨ (V = none ∧ e = .returned (.tuple #[.slice none 0 0, .bool false]))) ∧ Below w.heap.size w w'
set_option maxHeartbeats 2000000 in
theorem pick_zero (A A' : Option Addr) (N ca C cb lo : Nat) (cols : List (List Int)) (t : List Bool) (w : World) (hC : C ≤ 256) (h' : Rd w w.heap.size 1 A' C (t.map Value.bool)) :
    Calls Try.prog 35 #[.slice A N ca, .slice A' C cb, .int .i64 lo, .int .i64 0] w (PickP (pikL cols 0 t lo) w) := by
  have htl : t.length = C := by have := h'.1; simpa using this
  have H' := Lib.hid h'; have HTL := Lib.hid htl
  clear h' htl
  go_enter Try.func35, Try.ntmps35
  go_wp2_with fail
  go_loopw [10] (fun i wr => ∃ k : Nat, k ≤ C ∧ i = .int .i64 k ∧ (∀ j, j < k → t.getD j false = false) ∧ Below w.heap.size w wr) (fun i _ => C - (intOf i).toNat)
  case atStart => exact ⟨0, Nat.zero_le _, rfl, fun j hj => absurd hj (by omega), Below.refl _ _⟩
  case round =>
    obtain ⟨k, hk, rfl, hno, hbw⟩ := hrel
    obtain ⟨wa, rfl⟩ : ∃ z : World, z = wr := ⟨_, rfl⟩
    have HNO := Lib.hid hno; have HBW := Lib.hid hbw
    by_cases hlt : k < C
    · have hki : (k : Int) < (C : Int) := by omega
      obtain ⟨b1, o1, rfl, hb1, r1⟩ := bool_cell (H'.out.below hbw) hlt
      clear hno hbw hb1
      by_cases hb : t.getD k false = true
      · rw [hb] at r1
        have HE : Hid (pikL cols 0 t lo = none) := Lib.hid (by
          rw [pikL, if_neg]
          intro h
          rw [noneB_iff] at h
          rw [h k (by rw [HTL.out]; exact hlt)] at hb; cases hb)
        clear hb
        go_wp2_with fail
        go_ret2
        exact ⟨.inr ⟨HE.out, rfl⟩, HBW.out⟩
      · have hb' : t.getD k false = false := by simpa using hb
        have HB' := Lib.hid hb'
        rw [hb'] at r1
        clear hb hb'
        go_wp2_with fail
        go_roundw
        case rel => exact ⟨k + 1, hlt, by go_num, fun j hj => by
          by_cases e : j = k
          · rw [e]; exact HB'.out
          · exact HNO.out j (by omega), HBW.out⟩
        case measure => simp [intOf]; omega
    · have hki : ¬ (k : Int) < (C : Int) := by omega
      have HE : Hid (pikL cols 0 t lo = some []) := Lib.hid (by
        rw [pikL, if_pos]
        rw [noneB_iff]
        exact fun j hj => HNO.out j (by rw [HTL.out] at hj; omega))
      clear hno hbw
      go_wp2_with fail
      go_ret2
      exact ⟨.inl ⟨[], none, 0, 0, HE.out, rfl, rfl, Nat.le_refl _, Rd.nil _ _ _ _⟩, HBW.out⟩
theorem wpList_fullB {P : Program} {t e : TypeId} {size bytes : Nat} {ops : Array Oper} {rest : List Oper} {o : Oper} {a : Act} {Q : Exit → Act → World → Prop} {w : World} (T : ElemB P t e size bytes) (s x : Operand) (hgd : o.guard = none)
    (ho : o.op = .call { callee := .builtin .append, args := #[s, x], argTypes := #[t, t] }) {g n : Nat} {olds : List Value} (hs : a.eval s = .slice (some ⟨g, 0, none⟩) n n) (hod : Rd w w.heap.size size (some ⟨g, 0, none⟩) n olds) (hn0 : 0 < n)
    {B2 : Nat} {A : Option Addr} {m c : Nat} {news : List Value} (hx : a.eval x = .slice A m c) (hr : Rd w B2 size A m news) (hm : n + m ≤ 1099511627776) (hb : bytes ≤ 64)
    (h : ∀ A' c' w', n + m ≤ c' → Rd w' w'.heap.size size A' (n + m) (olds ++ news) → Below w.heap.size w w' → wpList P ops Q rest (a.put o.dst (.slice A' (n + m) c')) w') : wpList P ops Q (o :: rest) a w :=
  wpList_plain hgd fun K hK => by
    obtain ⟨A', c', w', hrun, h2, h3, h4⟩ := run_fullB (P := P) T o.type w g n olds hod hn0 B2 A m c news hr hm hb
    unfold Oper.wp execOp
    simp only [ho, resolve, invoke, builtin, Sem.run_bind, Sem.run_pure, Result.andThen_ok, List.map_toArray, List.map_cons, List.map_nil, hs, hx, hrun]
    exact hK _ _ (h A' c' w' h2 h3 h4)
set_option maxRecDepth 100000 in
set_option maxHeartbeats 8000000 in
theorem pick_succ (A : Option Addr) (N ca C z : Nat) (cols : List (List Int)) (hN : N ≤ 512) (hC : C ≤ 256) (hz : z ≤ 3) (hcols : ∀ l ∈ cols, l.Nodup ∧ ∀ x ∈ l, 0 ≤ x ∧ x < C)
    (IH : ∀ (A' : Option Addr) (cb lo : Nat) (li zi : Int) (t : List Bool) (w : World), li = lo → zi = z → lo ≤ N → LB w w.heap.size A N C (cols.map (indB C)) → Rd w w.heap.size 1 A' C (t.map Value.bool) →
      Calls Try.prog 35 #[.slice A N ca, .slice A' C cb, .int .i64 li, .int .i64 zi] w (PickP (pikL cols z t lo) w))
    (A' : Option Addr) (cb lo : Nat) (li zi : Int) (t : List Bool) (w : World) (hli : li = lo) (hzi : zi = (z + 1 : Nat)) (hlo : lo ≤ N) (h : LB w w.heap.size A N C (cols.map (indB C))) (h' : Rd w w.heap.size 1 A' C (t.map Value.bool)) :
    Calls Try.prog 35 #[.slice A N ca, .slice A' C cb, .int .i64 li, .int .i64 zi] w (PickP (pikL cols (z + 1) t lo) w) := by
  have htl : t.length = C := by have := h'.1; simpa using this
  have hmk := fun w => make_bool w C (by omega)
  have H := Lib.hid h; have H' := Lib.hid h'; have HIH := Lib.hid IH; have HC := Lib.hid hcols; have HTL := Lib.hid htl; have HMK := Lib.hid hmk
  have hl0 : 0 ≤ li := by omega
  have hl5 : li ≤ 512 := by omega
  have hz1 : 1 ≤ zi := by omega
  have hz4 : zi ≤ 4 := by omega
  have hzz : (zi == 0) = false := by simpa using (by omega : ¬ zi = 0)
  have HLI := Lib.hid hli; have HZI := Lib.hid hzi
  have HCL : Hid (cols.length = N) := Lib.hid (by have := h.len; simpa using this)
  clear h h' IH hcols hli hzi hmk htl
  go_enter Try.func35, Try.ntmps35
  go_wp2_with fail
  go_loopw [11] (fun i wr => ∃ (k : Nat) (ki : Int), k ≤ N ∧ i = .int .i64 ki ∧ ki = k ∧ pikF cols z t k = pikL cols (z + 1) t lo ∧ Below w.heap.size w wr) (fun i _ => N - (intOf i).toNat)
  case atStart => exact ⟨lo, li, hlo, rfl, HLI.out, rfl, Below.refl _ _⟩
  case round =>
    obtain ⟨k, ki, hk, rfl, hki, hpv, hbw⟩ := hrel
    obtain ⟨wa, rfl⟩ : ∃ z : World, z = wr := ⟨_, rfl⟩
    have HBW := Lib.hid hbw; have HPV := Lib.hid hpv; have HKI := Lib.hid hki
    clear hbw hpv
    by_cases hlt : k < N
    · have hkn : ki < (N : Int) := by omega
      have hk0 : 0 ≤ ki := by omega
      have hkt : ki.toNat = k := by omega
      have hkc : k < cols.length := by rw [HCL.out]; exact hlt
      have hrow := HC.out _ (List.getElem_mem hkc)
      have hps := pikF_step (z := z) (t := t) hkc
      have e0 : cols.getD k [] = cols[k] := by simp [List.getD_eq_getElem?_getD, hkc]
      rw [e0] at hps
      have hLB := H.out.past HBW.out
      obtain ⟨b1, o1, Ai, ci, hA1, hb1, hcell, hle, hrd⟩ := hLB.row k (by rw [List.length_map]; exact hkc)
      rw [List.getElem_map] at hrd
      have HXS : Hid (xorB t (indB C cols[k]) C = synCol t cols[k]) := Lib.hid (xor_syn HTL.out hrow.2 hrow.1)
      generalize synCol t cols[k] = t2 at hps HXS
      generalize indB C cols[k] = v2 at hrd HXS
      have HRD := Lib.hid hrd; have HPS := Lib.hid hps; have HLB := Lib.hid hLB; have HA1 := Lib.hid hA1; have HB1 := Lib.hid hb1; have HCE := Lib.hid hcell
      have hmk := HMK.out
      clear hrow hps hkc e0 hki hLB hrd hA1 hb1 hcell
      go_wp2_with fail
      clear hmk
      have hown := own_new wa (Array.replicate C (.bool false)) 4 C (by simp) (by omega)
      have HAL : Hid (Below wa.heap.size wa (wa.alloc (.cells (Array.replicate C (.bool false)) 4))) := Lib.hid ((Below.refl _ _).alloc (Nat.le_refl _) _)
      have HO0 : Hid ((wa.alloc (.cells (Array.replicate C (.bool false)) 4)).ownsRow wa.heap.size 4 1 (.slice (some ⟨wa.heap.size, 0, none⟩) C C) C ((padB (xorB t v2 0) C).map Value.bool)) := Lib.hid (by simpa [padB, xorB] using hown)
      clear hown
      generalize wa.alloc (.cells (Array.replicate C (.bool false)) 4) = w4 at HAL HO0 ⊢
      go_loopw [13] (fun i wr => ∃ q : Nat, q ≤ C ∧ i = .int .i64 q ∧ wr.ownsRow wa.heap.size 4 1 (.slice (some ⟨wa.heap.size, 0, none⟩) C C) C ((padB (xorB t v2 q) C).map Value.bool) ∧ Below wa.heap.size wa wr) (fun i _ => C - (intOf i).toNat)
      case atStart => exact ⟨0, Nat.zero_le _, rfl, HO0.out, HAL.out⟩
      case round =>
        obtain ⟨q, hq, rfl, hown, hbw⟩ := hrel
        obtain ⟨wb, rfl⟩ : ∃ z : World, z = wr := ⟨_, rfl⟩
        have HO := Lib.hid hown; have HBQ := Lib.hid hbw
        clear hown hbw HO0 HAL
        by_cases hlq : q < C
        · have hqi : (q : Int) < (C : Int) := by omega
          obtain ⟨b2, o2, hA2, hb2, hx⟩ := bool_cell ((H'.out.past HBW.out).below HBQ.out) hlq
          obtain ⟨b3, o3, hA3, hb3, hy⟩ := bool_cell (HRD.out.below HBQ.out) hlq
          have hcell2 := (HBQ.out.cell (p := ⟨b1, o1 + k, none⟩) HB1.out).trans HCE.out
          have hA1 := HA1.out
          subst hA1; subst hA2; subst hA3
          have e0 : wb.cell? ⟨wa.heap.size, q, none⟩ = some (.bool false) := by
            rw [HO.out.cellAt q (by omega), List.getElem?_map, padB, List.getElem?_append_right (by rw [xorB_len]; exact Nat.le_refl _), xorB_len, Nat.sub_self, List.getElem?_replicate, if_pos (by omega)]; rfl
          have f0 := HO.out.frozenAt q
          have hst := (HO.out.drew.stored q (.bool (t.getD q false != v2.getD q false))).1
          have e1 := padB_set (xorB t v2 q) C (t.getD q false != v2.getD q false) (by rw [xorB_len]; exact hlq)
          rw [xorB_len, ← xorB_snoc] at e1
          rw [← List.map_set, e1] at hst
          have HST := Lib.hid hst
          clear hst e1
          generalize t.getD q false = xa at hx HST
          generalize v2.getD q false = ya at hy HST
          clear hb2 hb3
          go_wp2_with fail
          go_region
          go_wp2_with fail
          go_roundw
          case rel => exact ⟨q + 1, hlq, by go_num, HST.out, (HBQ.out.drew.setCell (p := ⟨wa.heap.size, q, none⟩) (Nat.le_refl _) _)⟩
          case measure => simp [intOf]; omega
        · have hqi : ¬ (q : Int) < (C : Int) := by omega
          obtain rfl : q = C := by omega
          have HRT : Hid (Rd wb wb.heap.size 1 (some ⟨wa.heap.size, 0, none⟩) q (t2.map Value.bool)) := Lib.hid (by
            have := Rd.own HO.out
            rwa [padB_full _ _ (by rw [xorB_len]; exact Nat.le_refl _), HXS.out] at this)
          have HLB2 := Lib.hid (HLB.out.past HBQ.out)
          have HBB := Lib.hid (bnext HBW.out HBQ.out)
          go_wp2_with fail
          refine (HIH.out (some ⟨wa.heap.size, 0, none⟩) q (k + 1) _ _ t2 _ (by have := HKI.out; omega) (by have := HZI.out; omega) (by omega) HLB2.out HRT.out).mono ?_
          rintro e w5 ⟨⟨l, A5, n5, c5, hV, hn5, rfl, hc5, hr5⟩ | ⟨hV, rfl⟩, hb5⟩
          · have HE : Hid (pikL cols (z + 1) t lo = some (k :: l)) := Lib.hid (by rw [← HPV.out, HPS.out, hV])
            have hn3 : n5 ≤ 3 := by rw [hn5, (pikL_sound hV).1]; exact hz
            have HB5 := Lib.hid (bnext HBB.out hb5); have HR5 := Lib.hid hr5; have HN5 := Lib.hid hn5
            have HOL : Hid (Rd (w5.alloc (.cells #[.int .i64 ki] 3)) (w5.alloc (.cells #[.int .i64 ki] 3)).heap.size 1 (some ⟨w5.heap.size, 0, none⟩) 1 [.int .i64 ki]) := Lib.hid (by simpa using Rd.new w5 #[.int .i64 ki] 3 1 1 rfl)
            have HAL : Hid (Below w5.heap.size w5 (w5.alloc (.cells #[.int .i64 ki] 3))) := Lib.hid ((Below.refl _ _).alloc (Nat.le_refl _) _)
            clear hV hb5 hr5 hn5
            dsimp only
            go_wp2_with (at_builtin; refine wpList_fullB elB_i5 (.tmp 71) (.tmp 72) rfl rfl rfl HOL.out (by omega) rfl (HR5.out.past HAL.out) (by omega) (by decide) ?_; intro A8 c8 w8 hc8 hr8 hb8; have HR8 := Lib.hid hr8; have HB8 := Lib.hid (bnext (bnext HB5.out HAL.out) hb8); clear hr8 hb8)
            go_ret2
            refine ⟨.inl ⟨k :: l, A8, 1 + n5, c8, HE.out, by rw [HN5.out, List.length_cons, Nat.add_comm], rfl, hc8, ?_⟩, HB8.out⟩
            have hr := HR8.out
            rw [HKI.out] at hr
            exact hr
          · have HPV2 : Hid (pikF cols z t (k + 1) = pikL cols (z + 1) t lo) := Lib.hid (by rw [← HPV.out, HPS.out, hV])
            have HB5 := Lib.hid (bnext HBB.out hb5)
            clear hV hb5
            dsimp only
            go_wp2_with fail
            go_roundw
            case rel => exact ⟨k + 1, ki + 1, hlt, rfl, by have := HKI.out; omega, HPV2.out, HB5.out⟩
            case measure => simp [intOf]; omega
    · have hkn : ¬ ki < (N : Int) := by omega
      have HE : Hid (pikL cols (z + 1) t lo = none) := Lib.hid (by rw [← HPV.out, pikF_end (by rw [HCL.out]; omega)])
      clear hki
      go_wp2_with fail
      go_ret2
      exact ⟨.inr ⟨HE.out, rfl⟩, HBW.out⟩
theorem pick_any (A : Option Addr) (N ca C : Nat) (cols : List (List Int)) (hN : N ≤ 512) (hC : C ≤ 256) (hcols : ∀ l ∈ cols, l.Nodup ∧ ∀ x ∈ l, 0 ≤ x ∧ x < C) :
    ∀ (z : Nat) (A' : Option Addr) (cb lo : Nat) (li zi : Int) (t : List Bool) (w : World), z ≤ 3 → li = lo → zi = z → lo ≤ N → LB w w.heap.size A N C (cols.map (indB C)) → Rd w w.heap.size 1 A' C (t.map Value.bool) →
      Calls Try.prog 35 #[.slice A N ca, .slice A' C cb, .int .i64 li, .int .i64 zi] w (PickP (pikL cols z t lo) w)
  | 0, A', cb, lo, li, zi, t, w, _, hl, hz, _, _, h' => by subst hl; subst hz; exact pick_zero A A' N ca C cb lo cols t w hC (h'.mono (Nat.le_refl _))
  | z + 1, A', cb, lo, li, zi, t, w, hz3, hl, hz, hlo, h, h' =>
    pick_succ A N ca C z cols hN hC (by omega) hcols (fun A' cb lo li zi t w a b c d e => pick_any A N ca C cols hN hC hcols z A' cb lo li zi t w (by omega) a b c d e) A' cb lo li zi t w hl hz hlo h h'
#print axioms pick_any
end Go.Proofs.Ytfinjdkcgmepfaa
/- The columns as lists of bits. Conditions: as each statement says. -/
namespace Go.Proofs.Ytfinjdkcgmepfaa
open Go.RowKit
set_option linter.unusedVariables false
theorem info_boolsC : (Try.prog.info? 23).map (fun i => (i.zero, i.size, i.bytes)) = some (some (.slice none 0 0), 1, 24) := by kernel_rfl
theorem make_lb (w : World) (c : Nat) (hc : c ≤ 1000000) : (Instr.makeSlice 66 (.int .i64 c) (.int .i64 c)).run Try.prog w = .ok (.slice (some ⟨w.heap.size, 0, none⟩) c c) (w.alloc (.cells (Array.replicate c (.slice none 0 0)) 23)) := by
  obtain ⟨i, hi, hz, hs, hb⟩ := info_parts info_boolsC
  have h := run_make (P := Try.prog) w _ _ i _ Try.underlying66 hi hz .i64 .i64 c c (by omega) (by omega) (by rw [hb]; omega) (by omega)
  rw [hs] at h
  simpa [madeCells_one, Value.cells] using h
/-- What is compared up to a place. -/
def mixT (now s : List Bool) (k : Nat) : List Bool := (tgtB now s).take k ++ now.drop k
theorem mixT_zero (now s : List Bool) : mixT now s 0 = now := by simp [mixT]
theorem mixT_all (now s : List Bool) : mixT now s now.length = tgtB now s := by
  unfold mixT
  rw [List.drop_of_length_le (Nat.le_refl _), List.append_nil, List.take_of_length_le (by rw [tgtB_len]; exact Nat.le_refl _)]
theorem mixT_len (now s : List Bool) (k : Nat) : (mixT now s k).length = now.length := by
  unfold mixT
  rw [List.length_append, List.length_take, List.length_drop, tgtB_len]; omega
theorem mixT_get (now s : List Bool) {k : Nat} (hk : k < now.length) : (mixT now s k).getD k false = now.getD k false := by
  unfold mixT
  have hl : ((tgtB now s).take k).length = k := by rw [List.length_take, tgtB_len]; omega
  rw [List.getD_eq_getElem?_getD, List.getElem?_append_right (by omega), hl, Nat.sub_self, List.getElem?_drop, Nat.add_zero, ← List.getD_eq_getElem?_getD]
theorem mixT_set (now s : List Bool) {k : Nat} (hk : k < now.length) : (mixT now s k).set k (now.getD k false != s.getD k false) = mixT now s (k + 1) := by
  have hl : ((tgtB now s).take k).length = k := by rw [List.length_take, tgtB_len]; omega
  have htl : k < (tgtB now s).length := by rw [tgtB_len]; exact hk
  unfold mixT
  rw [List.set_append_right _ _ (by omega), hl, Nat.sub_self, List.drop_eq_getElem_cons hk, List.set_cons_zero, List.take_succ_eq_append_getElem htl, List.append_assoc, ← tgtB_get now s hk, getD_at _ _ htl]
  rfl
/-- The columns, as far as the matrix was read. -/
def bmE (mat : List (List Int)) (k j v i : Nat) : Bool := (decide (i < k) && decide ((v : Int) ∈ mat.getD i [])) || (decide (i = k) && decide ((v : Int) ∈ (mat.getD k []).take j))
def bmL (N C : Nat) (mat : List (List Int)) (k j : Nat) : List (List Bool) := (List.range N).map fun v => (List.range C).map fun i => bmE mat k j v i
theorem bmL_len (N C : Nat) (mat : List (List Int)) (k j : Nat) : (bmL N C mat k j).length = N := by simp [bmL]
theorem bmL_at {N C : Nat} {mat : List (List Int)} {k j v : Nat} (h : v < (bmL N C mat k j).length) : (bmL N C mat k j)[v] = (List.range C).map fun i => bmE mat k j v i := by simp [bmL]
theorem bmL_zero (N C : Nat) (mat : List (List Int)) : bmL N C mat 0 0 = List.replicate N (List.replicate C false) := by
  apply List.ext_getElem (by simp [bmL])
  intro v h1 h2
  rw [bmL_at h1]
  apply List.ext_getElem (by simp)
  intro i h3 h4
  simp [bmE]
theorem bmL_next (N C : Nat) (mat : List (List Int)) (k : Nat) : bmL N C mat k (mat.getD k []).length = bmL N C mat (k + 1) 0 := by
  unfold bmL
  congr 1; funext v
  congr 1; funext i
  unfold bmE
  rw [List.take_of_length_le (Nat.le_refl _)]
  by_cases h : i = k
  · subst h; simp
  · by_cases h2 : i < k
    · simp [h, h2, (by omega : i < k + 1)]
    · have h3 : ¬ i < k + 1 := by omega
      rw [decide_eq_false h2, decide_eq_false h, decide_eq_false h3]; simp
theorem bmL_step {N C : Nat} {mat : List (List Int)} {k j v : Nat} (hk : k < C) (hv : v < N) (hj : j < (mat.getD k []).length) (he : (mat.getD k [])[j] = (v : Int)) : (bmL N C mat k j).set v (((bmL N C mat k j).getD v []).set k true) = bmL N C mat k (j + 1) := by
  have hvl : v < (bmL N C mat k j).length := by rw [bmL_len]; exact hv
  apply List.ext_getElem (by rw [List.length_set, bmL_len, bmL_len])
  intro u h1 h2
  rw [List.getElem_set]
  have hb : ∀ i, bmE mat k (j + 1) u i = (bmE mat k j u i || (decide (i = k) && decide (u = v))) := by
    intro i
    unfold bmE
    rw [take_snoc _ _ hj, he]
    have e : decide ((u : Int) ∈ List.take j (mat.getD k []) ++ [(v : Int)]) = (decide ((u : Int) ∈ List.take j (mat.getD k [])) || decide (u = v)) := by
      rw [Bool.eq_iff_iff]; simp [Int.natCast_inj]
    rw [e]
    cases decide (i < k) <;> cases decide (i = k) <;> cases decide ((u : Int) ∈ List.take j (mat.getD k [])) <;> cases decide (u = v) <;> cases decide ((u : Int) ∈ mat.getD i []) <;> rfl
  rw [bmL_at h2]
  by_cases e : v = u
  · subst e
    rw [if_pos rfl, List.getD_eq_getElem?_getD, List.getElem?_eq_getElem hvl, Option.getD_some, bmL_at hvl]
    apply List.ext_getElem (by simp)
    intro i h3 h4
    rw [List.getElem_set]
    simp only [List.getElem_map, List.getElem_range]
    rw [hb]
    by_cases e2 : k = i
    · subst e2; simp
    · rw [if_neg e2]; simp [show ¬ i = k from fun h => e2 h.symm]
  · rw [if_neg e, bmL_at (by rw [bmL_len] at h2 ⊢; exact h2)]
    apply List.map_congr_left
    intro i _
    rw [hb]
    simp [show ¬ u = v from fun h => e h.symm]
theorem bmL_full {C : Nat} (cols : List (List Int)) (h : ∀ l ∈ cols, ∀ x ∈ l, 0 ≤ x ∧ x < C) : bmL cols.length C (matL C cols) C 0 = cols.map (indB C) := by
  apply List.ext_getElem (by rw [bmL_len, List.length_map])
  intro v h1 h2
  have hv : v < cols.length := by rw [bmL_len] at h1; exact h1
  rw [bmL_at h1, List.getElem_map]
  unfold indB
  apply List.map_congr_left
  intro i hi
  have hi : i < C := by simpa using hi
  have hc := mat_count cols h i v hi
  have e : cols.getD v [] = cols[v] := by simp [List.getD_eq_getElem?_getD, hv]
  rw [e] at hc
  unfold bmE
  have : decide ((v : Int) ∈ (matL C cols).getD i []) = decide ((i : Int) ∈ cols[v]) := by
    rw [Bool.eq_iff_iff, decide_eq_true_eq, decide_eq_true_eq, ← List.count_pos_iff, ← List.count_pos_iff, hc]
  rw [this]
  simp [hi, show ¬ i = C by omega]
/-- The columns in memory: a block each. -/
structure BM (w : World) (B g n C : Nat) (hs : List Nat) (rows : List (List Bool)) (more : Nat) : Prop where
  blk : w.heap[g]? = some (.cells (hs.map (fun h : Nat => Value.slice (some ⟨h, 0, none⟩) C C) ++ List.replicate more (Value.slice none 0 0)).toArray 23 (0, 0))
  len : hs.length = n ∧ rows.length = n
  row : ∀ (i h : Nat) (r : List Bool), hs[i]? = some h → rows[i]? = some r → w.heap[h]? = some (.cells (r.map Value.bool).toArray 4 (0, 0)) ∧ r.length = C ∧ B ≤ h
  nd : hs.Nodup
  gB : g < B
theorem BM.LB {w : World} {B g n C : Nat} {hs : List Nat} {rows : List (List Bool)} (h : BM w B g n C hs rows 0) (hC : C ≤ 1000) : LB w w.heap.size (some ⟨g, 0, none⟩) n C rows :=
  ⟨h.len.2, fun i hi => by
    have hv : i < hs.length := by rw [h.len.1, ← h.len.2]; exact hi
    obtain ⟨h1, h2, h3⟩ := h.row i _ _ (List.getElem?_eq_getElem hv) (List.getElem?_eq_getElem hi)
    refine ⟨g, 0, some ⟨hs[i], 0, none⟩, C, rfl, (Array.getElem?_eq_some_iff.1 h.blk).1, ?_, Nat.le_refl _, ?_⟩
    · rw [cell_of_row _ _ _ _ _ _ h.blk, Nat.zero_add]
      simp [List.getElem?_append_left, hv]
    · refine ⟨by rw [List.length_map, h2, Nat.mul_one], fun _ => ⟨hs[i], 0, rfl, (Array.getElem?_eq_some_iff.1 h1).1, fun j u hu => ?_⟩⟩
      rw [Nat.zero_add, cell_of_row _ _ _ _ _ _ h1]; simpa using hu⟩
theorem BM.cell {w : World} {B g n C m : Nat} {hs : List Nat} {rows : List (List Bool)} (h : BM w B g n C hs rows m) {v i : Nat} (hv : v < n) (hi : i < C) : ∃ H, hs[v]? = some H ∧ w.cell? ⟨g, v, none⟩ = some (.slice (some ⟨H, 0, none⟩) C C) ∧ w.cell? ⟨H, i, none⟩ = some (.bool ((rows.getD v []).getD i false)) ∧ w.frozen? ⟨H, i, none⟩ = false ∧ B ≤ H := by
  have h1 : v < hs.length := by rw [h.len.1]; exact hv
  have h2 : v < rows.length := by rw [h.len.2]; exact hv
  obtain ⟨a, b, c⟩ := h.row v _ _ (List.getElem?_eq_getElem h1) (List.getElem?_eq_getElem h2)
  have e : rows.getD v [] = rows[v] := by simp [List.getD_eq_getElem?_getD, h2]
  refine ⟨hs[v], List.getElem?_eq_getElem h1, ?_, ?_, frozen_of_row _ _ _ _ _ a, c⟩
  · rw [cell_of_row _ _ _ _ _ _ h.blk]; simp [List.getElem?_append_left, h1]
  · rw [cell_of_row _ _ _ _ _ _ a, e]
    have : i < (rows[v]).length := by rw [b]; exact hi
    simp [List.getD_eq_getElem?_getD, this]
theorem BM.set {w : World} {B g n C m v i H : Nat} {hs : List Nat} {rows : List (List Bool)} (h : BM w B g n C hs rows m) (hH : hs[v]? = some H) (u : Bool) : BM (w.setCell ⟨H, i, none⟩ (.bool u)) B g n C hs (rows.set v ((rows.getD v []).set i u)) m where
  blk := by
    have hv : v < rows.length := by rw [h.len.2, ← h.len.1]; exact (List.getElem?_eq_some_iff.1 hH).1
    have := (h.row v H _ hH (List.getElem?_eq_getElem hv)).2.2
    have hg := h.gB
    exact (Below.heap_setCell _ _ _ _ (by simp only; omega)).trans h.blk
  len := ⟨h.len.1, by rw [List.length_set]; exact h.len.2⟩
  row := fun j h' r hj hr => by
    rw [List.getElem?_set] at hr
    by_cases e : v = j
    · subst e
      rw [hH] at hj; injection hj with hj; subst hj
      rw [if_pos rfl] at hr
      split at hr
      · rename_i hv
        injection hr with hr
        subst hr
        obtain ⟨a, b, c⟩ := h.row v H _ hH (List.getElem?_eq_getElem hv)
        have e : rows.getD v [] = rows[v] := by simp [List.getD_eq_getElem?_getD, hv]
        rw [e]
        refine ⟨?_, by rw [List.length_set]; exact b, c⟩
        have := blk_setR (o := i) a (.bool u)
        rw [this]; simp [List.map_set]
      · cases hr
    · rw [if_neg e] at hr
      obtain ⟨a, b, c⟩ := h.row j h' r hj hr
      refine ⟨(Below.heap_setCell _ _ _ _ ?_).trans a, b, c⟩
      intro e2
      simp only at e2
      subst e2
      have h1 := (List.getElem?_eq_some_iff.1 hj)
      have h2 := (List.getElem?_eq_some_iff.1 hH)
      obtain ⟨p1, q1⟩ := h1
      obtain ⟨p2, q2⟩ := h2
      exact e ((List.getElem_inj h.nd).1 (q2.trans q1.symm))
  nd := h.nd
  gB := h.gB
theorem BM.add {w w1 : World} {B g n C m H : Nat} {hs : List Nat} {rows : List (List Bool)} (h : BM w B g n C hs rows (m + 1)) (hB : B ≤ w.heap.size) (hH : H = w.heap.size) (h1 : w1 = w.alloc (.cells (Array.replicate C (.bool false)) 4)) :
    BM (w1.setCell ⟨g, n, none⟩ (.slice (some ⟨H, 0, none⟩) C C)) B g (n + 1) C (hs ++ [H]) (rows ++ [List.replicate C false]) m := by
  subst hH; subst h1
  have hal := (Below.refl w.heap.size w).alloc (Nat.le_refl _) (.cells (Array.replicate C (.bool false)) 4)
  have hg := (Array.getElem?_eq_some_iff.1 h.blk).1
  have hlt : ∀ (i h' : Nat), hs[i]? = some h' → h' < w.heap.size := fun i h' hi => by
    have hv : i < rows.length := by rw [h.len.2, ← h.len.1]; exact (List.getElem?_eq_some_iff.1 hi).1
    exact (Array.getElem?_eq_some_iff.1 (h.row i h' _ hi (List.getElem?_eq_getElem hv)).1).1
  have hgB := h.gB
  refine ⟨?_, ⟨by simp [h.len.1], by simp [h.len.2]⟩, ?_, ?_, h.gB⟩
  · have := row_fill (h := g) (j := n) (u := .slice (some ⟨w.heap.size, 0, none⟩) C C) ((hal.block g hg).trans h.blk) (by rw [List.length_map]; exact h.len.1)
    rw [this]; simp
  · intro j h' r hj hr
    by_cases hjn : j < n
    · rw [List.getElem?_append_left (by rw [h.len.1]; exact hjn)] at hj
      rw [List.getElem?_append_left (by rw [h.len.2]; exact hjn)] at hr
      obtain ⟨a, b, c⟩ := h.row j h' r hj hr
      exact ⟨(Below.heap_setCell _ _ _ _ (by simp only; omega)).trans ((hal.block h' (hlt j h' hj)).trans a), b, c⟩
    · have hj2 := (List.getElem?_eq_some_iff.1 hr).1
      have hje : j = n := by simp [h.len.2] at hj2; omega
      subst hje
      rw [List.getElem?_append_right (by rw [h.len.1]; exact Nat.le_refl _), h.len.1, Nat.sub_self] at hj
      rw [List.getElem?_append_right (by rw [h.len.2]; exact Nat.le_refl _), h.len.2, Nat.sub_self] at hr
      simp only [List.getElem?_cons_zero, Option.some.injEq] at hj hr
      subst hj; subst hr
      refine ⟨(Below.heap_setCell _ _ _ _ (by simp only; omega)).trans ?_, by simp, hB⟩
      rw [heap_alloc_new]; simp
  · rw [List.nodup_append]
    refine ⟨h.nd, by simp, fun a ha b hb e => ?_⟩
    simp only [List.mem_singleton] at hb
    subst hb; subst e
    obtain ⟨i, hi⟩ := List.mem_iff_getElem?.1 ha
    have := hlt i _ hi
    omega
end Go.Proofs.Ytfinjdkcgmepfaa
/- The contract of the document's Nearest, for what is valid. Conditions: as each statement says. -/
namespace Go.Proofs.Ytfinjdkcgmepfaa
open Go.RowKit
set_option linter.unusedVariables false
theorem refSyndrome_ok (N C D s : Nat) (A : Option Addr) (c : Nat) (bs : List Bool) (w : World) (h0 : codeE N C D = 0) (hs : s < two64) (h : Rd w w.heap.size 1 A N (bs.map Value.bool)) :
    Calls Try.prog 17 #[codV N C D s, .slice A N c] w fun e w' => ∃ A2 c2 xs, e = .returned (.tuple #[.slice A2 C c2, .int .i64 0]) ∧ xs = synL C bs (colsL C D s N) ∧ w'.ownsRow w.heap.size 4 1 (.slice A2 C c2) C (xs.map Value.bool) ∧ Below w.heap.size w w' := by
  have hN := (codeE_ok.1 h0).2.1
  refine (refSyndrome_any N C D s A N c bs w hs (by omega) h).mono fun e w' ⟨A2, c2, xs, n, E, he, hE, hc, hx, hn, ho, hb⟩ => ?_
  have hl : bs.length = N := by have := h.1; simpa using this
  have hsy : synE N C D bs.length = 0 := by unfold synE; rw [if_neg (by simpa using h0), if_neg (by rw [hl]; simp)]
  have hx2 : xs = synL C bs (colsL C D s N) := by rw [hx]; unfold SynX; rw [if_pos hsy]; rfl
  have hnC : n = C := by have := ho.1; rw [hx2, List.length_map, synL_len] at this; omega
  subst hnC
  rw [hE, hsy] at he
  exact ⟨A2, c2, xs, he, hx2, ho, hb⟩
theorem Ke.set {B0 W T : Nat} {w w' : World} (h : Ke B0 W T w w') {b : Nat} (hb : b = W ∨ B0 ≤ b) (j : Nat) (u : Value) : Ke B0 W T w (w'.setCell ⟨b, j, none⟩ u) :=
  ⟨h.os, h.tape, h.output, by rw [size_setCell]; exact h.size, fun k h1 h2 h3 => (Below.heap_setCell _ _ _ _ (by simp only; omega)).trans (h.block k h1 h2 h3)⟩
theorem Ke.q {B0 W T : Nat} {w w' w2 : World} (h : Ke B0 W T w w') (hq : Qw w' w2) : Ke B0 W T w w2 := by
  obtain ⟨d, rfl⟩ := hq
  exact ⟨h.os, h.tape, h.output, h.size, h.block⟩
set_option maxRecDepth 100000 in
set_option maxHeartbeats 16000000 in
theorem refNearest_ok (N C D s : Nat) (A A' : Option Addr) (ca cb M : Nat) (bs ss : List Bool) (V : Option (Nat × List Nat)) (w : World) (h0 : codeE N C D = 0) (hs : s < two64) (hM : M ≤ 3) (hM2 : N ≤ 64 ∨ M ≤ 2) (hV : nearF (colsL C D s N) (tgtB (synL C bs (colsL C D s N)) ss) M 0 = V)
    (h : Rd w w.heap.size 1 A N (bs.map Value.bool)) (h' : Rd w w.heap.size 1 A' C (ss.map Value.bool)) :
    Calls Try.prog 20 #[codV N C D s, .slice A N ca, .slice A' C cb, .int .i64 M] w (NearP N bs V w) := by
  obtain ⟨h1, h2, h3, h4, h5, h6, h7⟩ := codeE_ok.1 h0
  have hm := colsL_mem (C := C) (D := D) (s := s) (n := N) (by omega)
  have hnd : ∀ l ∈ colsL C D s N, l.Nodup := fun l hl => by
    simp only [colsL, List.mem_map] at hl
    obtain ⟨i, _, rfl⟩ := hl
    exact sampL_nodup _ _ _
  have hcl := colsL_len C D s N
  obtain ⟨cols, hcols⟩ : ∃ cols, cols = colsL C D s N := ⟨_, rfl⟩
  rw [← hcols] at hm hnd hcl hV
  have HCE := Lib.hid hcols
  have HC : Hid (∀ l ∈ cols, l.Nodup ∧ ∀ x ∈ l, 0 ≤ x ∧ x < C) := Lib.hid (fun l hl => ⟨hnd l hl, (hm l hl).2⟩)
  have HCM : Hid (∀ l ∈ cols, ∀ x ∈ l, 0 ≤ x ∧ x < C) := Lib.hid (fun l hl => (hm l hl).2)
  have HLD : Hid (∀ l ∈ cols, l.length ≤ 4) := Lib.hid (fun l hl => by have := (hm l hl).1; omega)
  have HCL := Lib.hid hcl
  have H0 := Lib.hid h0; have HS := Lib.hid hs; have HV := Lib.hid hV; have H := Lib.hid h; have H' := Lib.hid h'
  have hmk1 := fun w => make_lb w N (by omega)
  have hmk2 := fun w => make_bool w C (by omega)
  have HMK2 := Lib.hid hmk2
  have j1 : ¬ ((M : Int) < 0) := by omega
  have j2 : ¬ ((3 : Int) < (M : Int)) := by omega
  have j3 : ¬ ((64 : Int) < (N : Int)) ∨ ((64 : Int) < (N : Int) ∧ ¬ (2 : Int) < (M : Int)) := by omega
  have HBL : Hid (bs.length = N) := Lib.hid (by have := h.1; simpa using this)
  have HSL : Hid (ss.length = C) := Lib.hid (by have := h'.1; simpa using this)
  clear h0 hs hV h h' hM2 hm hnd hcl hcols hmk2
  rcases j3 with j3 | ⟨j3, j4⟩
  all_goals
    go_enter Try.func20, Try.ntmps20
    go_wp2_with fail
    refine (refsizes_ok N C D s A A' ca cb _ H0.out).mono ?_
    rintro e w1 ⟨rfl, hb⟩
    have hcc := (CodeAt.new w N C D s).below hb (Nat.le_refl _)
    have HB : Hid (Below w.heap.size w w1) := Lib.hid (((Below.refl _ _).alloc (Nat.le_refl _) _).trans (hb.mono (by simp)))
    have c0 := hcc.c0; have c1 := hcc.c1; have c2 := hcc.c2; have c3 := hcc.c3
    have HCC := Lib.hid hcc
    clear hb hcc
    go_wp2_with fail
    refine (refSyndrome_ok N C D s A ca bs _ H0.out HS.out (H.out.past HB.out)).mono ?_
    rintro e w2 ⟨As, cs, now, rfl, hnow, hos, hb2⟩
    rw [← HCE.out] at hnow
    have HNW := Lib.hid hnow
    have HNL : Hid (now.length = C) := Lib.hid (by rw [hnow, synL_len])
    have HV2 : Hid (nearF cols (tgtB now ss) M 0 = V) := Lib.hid (by rw [hnow]; exact HV.out)
    obtain ⟨gs, ps, hvs⟩ := own_head hos (by omega)
    injection hvs with hAs _ hps
    subst hAs; subst hps
    have HOS : Hid (w2.ownsRow w1.heap.size 4 1 (.slice (some ⟨gs, 0, none⟩) C cs) C ((mixT now ss 0).map Value.bool)) := Lib.hid (by rw [mixT_zero]; exact hos)
    have HB2 := Lib.hid hb2
    clear hnow hos hb2 c0 c1 c2 c3 HV
    dsimp only
    go_wp2_with fail
    go_loopw [14] (fun i wr => ∃ k : Nat, k ≤ C ∧ i = .int .i64 k ∧ wr.ownsRow w1.heap.size 4 1 (.slice (some ⟨gs, 0, none⟩) C cs) C ((mixT now ss k).map Value.bool) ∧ Below w1.heap.size w1 wr) (fun i _ => C - (intOf i).toNat)
    case atStart => exact ⟨0, Nat.zero_le _, rfl, HOS.out, HB2.out⟩
    case round =>
      obtain ⟨k, hk, rfl, hown, hbw⟩ := hrel
      obtain ⟨wa, rfl⟩ : ∃ z : World, z = wr := ⟨_, rfl⟩
      have HO := Lib.hid hown; have HBW := Lib.hid hbw
      clear hown hbw HOS HB2
      by_cases hlt : k < C
      · have hki : (k : Int) < (C : Int) := by omega
        obtain ⟨b2, o2, hA2, hb2, hy⟩ := bool_cell ((H'.out.past HB.out).below HBW.out) hlt
        subst hA2
        have hkm : k < (mixT now ss k).length := by rw [mixT_len, HNL.out]; exact hlt
        have hkn : k < now.length := by rw [HNL.out]; exact hlt
        have e0 : wa.cell? ⟨gs, k, none⟩ = some (.bool (now.getD k false)) := by
          rw [HO.out.cellAt k (by omega), List.getElem?_map, List.getElem?_eq_getElem hkm, ← mixT_get now ss hkn, getD_at _ _ hkm]; rfl
        have f0 := HO.out.frozenAt k
        have hst := (HO.out.drew.stored k (.bool (now.getD k false != ss.getD k false))).1
        rw [← List.map_set, mixT_set now ss hkn] at hst
        have hgl := (HO.out.lt gs rfl).1
        have HST := Lib.hid hst; have HBS := Lib.hid (HBW.out.drew.setCell (p := ⟨gs, k, none⟩) hgl (.bool (now.getD k false != ss.getD k false)))
        generalize now.getD k false = xa at e0 HST HBS
        generalize ss.getD k false = ya at hy HST HBS
        clear hst hgl hkm hkn hb2
        go_wp2_with fail
        go_region
        go_wp2_with fail
        go_roundw
        case rel => exact ⟨k + 1, hlt, by go_num, HST.out, HBS.out⟩
        case measure => simp [intOf]; omega
      · have hki : ¬ (k : Int) < (C : Int) := by omega
        obtain rfl : k = C := by omega
        have HT : Hid (wa.ownsRow w1.heap.size 4 1 (.slice (some ⟨gs, 0, none⟩) k cs) k ((tgtB now ss).map Value.bool)) := Lib.hid (by
          have := HO.out
          have e := mixT_all now ss
          rw [HNL.out] at e
          rwa [e] at this)
        have hcd := HCC.out.past HBW.out HCC.out.lt
        have c0 := hcd.c0
        have HCDa := Lib.hid hcd
        have hal : Below wa.heap.size wa (wa.alloc (.cells (Array.replicate N (.slice none 0 0)) 23)) := (Below.refl _ _).alloc (Nat.le_refl _) _
        have hcd2 := hcd.past hal hcd.lt
        have d0 := hcd2.c0; have d1 := hcd2.c1; have d2 := hcd2.c2; have d3 := hcd2.c3
        have HCD2 := Lib.hid hcd2; have HALL := Lib.hid hal
        have HG4 : Hid ((wa.alloc (.cells (Array.replicate N (.slice none 0 0)) 23)).heap[wa.heap.size]? = some (.cells (List.replicate N (Value.slice none 0 0)).toArray 23 (0, 0))) := Lib.hid (by rw [heap_alloc_new]; simp)
        have hsz4 : (wa.alloc (.cells (Array.replicate N (.slice none 0 0)) 23)).heap.size = wa.heap.size + 1 := by simp
        have HS4 := Lib.hid hsz4
        clear hcd hcd2 hal HO HCC hsz4
        go_wp2_with fail
        clear hmk1 c0
        generalize wa.alloc (.cells (Array.replicate N (.slice none 0 0)) 23) = w4 at *
        refine (refMatrix_ok N k D s _ H0.out HS.out).mono ?_
        rintro e w5 ⟨Am, cm, mat, rfl, hcm, hmat, hll, hb5⟩
        rw [← HCE.out] at hmat
        have HMT := Lib.hid hmat; have HLM := Lib.hid hll; have HB5 := Lib.hid hb5
        have HCD5 := Lib.hid (HCD2.out.past hb5 HCD2.out.lt)
        have hBM : BM w5 w5.heap.size wa.heap.size 0 k [] [] N := by
          have := HS4.out
          have := hb5.size
          refine ⟨by rw [hb5.block _ (by omega), HG4.out]; simp, ⟨rfl, rfl⟩, fun i h r hi => by simp at hi, List.nodup_nil, by omega⟩
        have HBM := Lib.hid hBM
        clear hmat hll hb5 hBM d0 d1 d2 d3
        dsimp only
        go_wp2_with fail
        go_loopw [18] (fun i wr => ∃ (v : Nat) (hs : List Nat), v ≤ N ∧ i = .int .i64 v ∧ BM wr w5.heap.size wa.heap.size v k hs (List.replicate v (List.replicate k false)) (N - v) ∧ Ke w5.heap.size wa.heap.size wa.heap.size w5 wr) (fun i _ => N - (intOf i).toNat)
        case atStart => exact ⟨0, [], Nat.zero_le _, rfl, by simpa using HBM.out, Ke.refl _ _ _ _⟩
        case round =>
          obtain ⟨v, hs, hv, rfl, hbm, hke⟩ := hrel
          obtain ⟨wb, rfl⟩ : ∃ z : World, z = wr := ⟨_, rfl⟩
          have HBM2 := Lib.hid hbm; have HKE := Lib.hid hke
          have hs4 := HS4.out
          have h45 := HB5.out.size
          have hcl5 := HCD5.out.lt
          have hHc := HCDa.out.lt
          have HCD6 : Hid (CodeAt wb w.heap.size N k D s) := Lib.hid ⟨(hke.block _ (by omega) (by omega) (by omega)).trans HCD5.out.blk⟩
          have c0 := HCD6.out.c0; have c1 := HCD6.out.c1
          clear hbm hke HBM
          by_cases hlv : v < N
          · have hvi : (v : Int) < (N : Int) := by omega
            have hmk2 := HMK2.out
            have e0 : (wb.alloc (.cells (Array.replicate k (.bool false)) 4)).cell? ⟨wa.heap.size, v, none⟩ = some (.slice none 0 0) := by
              have hg := (Array.getElem?_eq_some_iff.1 HBM2.out.blk).1
              rw [World.cell?_alloc_lt _ _ _ (by simpa using hg), cell_of_row _ _ _ _ _ _ HBM2.out.blk]
              have hl := HBM2.out.len.1
              rw [List.getElem?_toArray, List.getElem?_append_right (by rw [List.length_map, hl]; exact Nat.le_refl _), List.length_map, hl, Nat.sub_self, List.getElem?_replicate, if_pos (by omega)]
            have f0 : (wb.alloc (.cells (Array.replicate k (.bool false)) 4)).frozen? ⟨wa.heap.size, v, none⟩ = false := by
              have hg := (Array.getElem?_eq_some_iff.1 HBM2.out.blk).1
              exact frozen_of_row _ _ _ _ _ ((((Below.refl wb.heap.size wb).alloc (Nat.le_refl _) _).block _ hg).trans HBM2.out.blk)
            have hkz := HKE.out.size
            have hba := BM.add (m := N - (v + 1)) (by rw [show N - (v + 1) + 1 = N - v by omega]; exact HBM2.out) hkz rfl rfl
            have HBA : Hid (BM ((wb.alloc (.cells (Array.replicate k (.bool false)) 4)).setCell ⟨wa.heap.size, v, none⟩ (.slice (some ⟨wb.heap.size, 0, none⟩) k k)) w5.heap.size wa.heap.size (v + 1) k (hs ++ [wb.heap.size]) (List.replicate (v + 1) (List.replicate k false)) (N - (v + 1))) := Lib.hid (by
              rw [List.replicate_succ']; exact hba)
            have HKA := Lib.hid ((HKE.out.alloc hkz (.cells (Array.replicate k (.bool false)) 4)).set (Or.inl rfl : wa.heap.size = wa.heap.size ∨ _) v (.slice (some ⟨wb.heap.size, 0, none⟩) k k))
            clear hba
            go_wp2_with fail
            clear hmk2
            go_roundw
            case rel => exact ⟨v + 1, _, hlv, by go_num, HBA.out, HKA.out⟩
            case measure => simp [intOf]; omega
          · have hvi : ¬ (v : Int) < (N : Int) := by omega
            obtain rfl : v = N := by omega
            have HB0 : Hid (BM wb w5.heap.size wa.heap.size v k hs (bmL v k mat 0 0) 0) := Lib.hid (by
              have := HBM2.out
              rwa [Nat.sub_self, ← bmL_zero v k mat] at this)
            have HLN : Hid (mat.length = k) := Lib.hid HLM.out.len
            have HMS : Hid (∀ r ∈ mat, r.length ≤ 2048 ∧ ∀ x ∈ r, 0 ≤ x ∧ x < v) := Lib.hid (fun r hr => by
              rw [HMT.out] at hr
              have h1 := matL_mem _ _ r hr
              have h2 := matL_short k 4 cols HLD.out r hr
              rw [HCL.out] at h1 h2
              exact ⟨by omega, h1⟩)
            clear HBM2 HCD6
            go_wp2_with fail
            clear c0 c1
            go_loopw [19] (fun i wr => ∃ p : Nat, p ≤ k ∧ i = .int .i64 p ∧ BM wr w5.heap.size wa.heap.size v k hs (bmL v k mat p 0) 0 ∧ Ke w5.heap.size wa.heap.size wa.heap.size w5 wr) (fun i _ => k - (intOf i).toNat)
            case atStart => exact ⟨0, Nat.zero_le _, rfl, HB0.out, HKE.out⟩
            case round =>
              obtain ⟨p, hp, rfl, hbm, hke⟩ := hrel
              obtain ⟨wc, rfl⟩ : ∃ z : World, z = wr := ⟨_, rfl⟩
              have HBM3 := Lib.hid hbm; have HKE3 := Lib.hid hke
              clear hbm hke HB0 HKE
              by_cases hlp : p < k
              · have hpi : (p : Int) < (k : Int) := by omega
                have hpm : p < mat.length := by rw [HLN.out]; exact hlp
                have hms := HMS.out _ (List.getElem_mem hpm)
                have eg : mat.getD p [] = mat[p] := by simp [List.getD_eq_getElem?_getD, hpm]
                obtain ⟨l, hl⟩ : ∃ l, l = mat[p] := ⟨_, rfl⟩
                have HEG : Hid (mat.getD p [] = l) := Lib.hid (by rw [eg, hl])
                obtain ⟨b1, o1, Ai, ci, hA1, ⟨hb0, hb1⟩, hcell, hle, hrd, hlo⟩ := HLM.out.row p hpm
                rw [← hl] at hcell hle hrd hms
                have hb0' : wa.heap.size < b1 := by omega
                have HRD := Lib.hid hrd; have HMS2 := Lib.hid hms; have HLO := Lib.hid hlo; have HCE1 := Lib.hid hcell
                have hA1' := hA1
                subst hA1'
                have hl2 := HMS2.out.1
                clear eg hl hcell hrd hms hlo hpm hA1
                go_wp2_with fail
                go_loopw [20] (fun i wr => ∃ q : Nat, q ≤ l.length ∧ i = .int .i64 q ∧ BM wr w5.heap.size wa.heap.size v k hs (bmL v k mat p q) 0 ∧ Ke w5.heap.size wa.heap.size wa.heap.size w5 wr) (fun i _ => l.length - (intOf i).toNat)
                case atStart => exact ⟨0, Nat.zero_le _, rfl, HBM3.out, HKE3.out⟩
                case round =>
                  obtain ⟨q, hq, rfl, hbm, hke⟩ := hrel
                  obtain ⟨wd, rfl⟩ : ∃ z : World, z = wr := ⟨_, rfl⟩
                  have HBM4 := Lib.hid hbm; have HKE4 := Lib.hid hke
                  have hcell4 := (cell_heap (hke.block b1 hb1 (by omega) (by omega)) (o1 + p)).trans HCE1.out
                  clear hbm hke
                  by_cases hlq : q < l.length
                  · have hqi : (q : Int) < (l.length : Int) := by omega
                    obtain ⟨b3, o3, hA3, hb3, hx⟩ := int_cell HRD.out hlq
                    have hlo := HLO.out _ hA3
                    have hx4 := (cell_heap (HKE4.out.block b3 hb3 (by simp only at hlo; omega) (by simp only at hlo; omega)) (o3 + q)).trans hx
                    subst hA3
                    have hxr := HMS2.out.2 _ (List.getElem_mem hlq)
                    obtain ⟨xx, hxx⟩ : ∃ xx, xx = l[q] := ⟨_, rfl⟩
                    rw [← hxx] at hx4 hxr
                    obtain ⟨u, rfl⟩ := Int.eq_ofNat_of_zero_le hxr.1
                    have hu : u < v := by omega
                    have hui : (u : Int) < (v : Int) := hxr.2
                    have HST : Hid ((bmL v k mat p q).set u (((bmL v k mat p q).getD u []).set p true) = bmL v k mat p (q + 1)) := Lib.hid (bmL_step hlp hu (by rw [HEG.out]; exact hlq) (by simp only [HEG.out]; exact hxx.symm))
                    obtain ⟨H9, hH9, g1, g2, g3, g4⟩ := HBM4.out.cell hu hlp
                    have hbs := HBM4.out.set (i := p) hH9 true
                    rw [HST.out] at hbs
                    have HBS := Lib.hid hbs; have HKS := Lib.hid (HKE4.out.set (Or.inr g4 : H9 = wa.heap.size ∨ _) p (.bool true))
                    clear hbs hxr hxx hx hb3 hlo hH9
                    generalize ((bmL v k mat p q).getD u []).getD p false = y at g2
                    go_wp2_with fail
                    go_roundw
                    case rel => exact ⟨q + 1, hlq, by go_num, HBS.out, HKS.out⟩
                    case measure => simp [intOf]; omega
                  · have hqi : ¬ (q : Int) < (l.length : Int) := by omega
                    obtain rfl : q = l.length := by omega
                    have HN : Hid (BM wd w5.heap.size wa.heap.size v k hs (bmL v k mat (p + 1) 0) 0) := Lib.hid (by
                      have h1 := HBM4.out
                      have e := bmL_next v k mat p
                      rw [HEG.out] at e
                      rwa [e] at h1)
                    go_wp2_with fail
                    go_roundw
                    case rel => exact ⟨p + 1, hlp, by go_num, HN.out, HKE4.out⟩
                    case measure => simp [intOf]; omega
              · have hpi : ¬ (p : Int) < (k : Int) := by omega
                obtain rfl : p = k := by omega
                have HLB : Hid (LB wc wc.heap.size (some ⟨wa.heap.size, 0, none⟩) v p (cols.map (indB p))) := Lib.hid (by
                  have h1 := HBM3.out
                  have e := bmL_full cols HCM.out
                  rw [HCL.out, ← HMT.out] at e
                  rw [e] at h1
                  exact h1.LB (by omega))
                have hB1c : Below wa.heap.size wa wc := HALL.out.trans ((HB5.out.mono (by omega)).trans (HKE3.out.below (by omega) (Nat.le_refl _) (Nat.le_refl _)))
                have HTG := Lib.hid ((Rd.own HT.out).past hB1c)
                have HBC := Lib.hid (bnext (bnext HB.out HBW.out) hB1c)
                have HAc : Hid (Rd wc wc.heap.size 1 A v (bs.map Value.bool)) := Lib.hid ((((H.out.past HB.out).past HBW.out)).past hB1c)
                clear hB1c HBM3 HKE3
                have hp256 : p ≤ 256 := by omega
                go_wp2_with fail
                go_loopw [21] (fun i wr => ∃ z : Nat, z ≤ M + 1 ∧ i = .int .i64 z ∧ nearF cols (tgtB now ss) M z = V ∧ Below wc.heap.size wc wr) (fun i _ => M + 1 - (intOf i).toNat)
                case atStart => exact ⟨0, Nat.zero_le _, rfl, HV2.out, Below.refl _ _⟩
                case round =>
                  obtain ⟨z, hz, rfl, hnf, hbw⟩ := hrel
                  obtain ⟨we, rfl⟩ : ∃ z : World, z = wr := ⟨_, rfl⟩
                  have HNF := Lib.hid hnf; have HBE := Lib.hid hbw
                  clear hnf hbw
                  by_cases hlz : z < M + 1
                  · have hzi : (z : Int) ≤ (M : Int) := by omega
                    have HNS := Lib.hid (nearF_step (cols := cols) (t := tgtB now ss) (show z ≤ M by omega))
                    go_wp2_with fail
                    refine (pick_any (some ⟨wa.heap.size, 0, none⟩) v v p cols (by omega) hp256 HC.out z _ _ 0 _ _ (tgtB now ss) _ (by omega) rfl rfl (by omega) (HLB.out.past HBE.out) (HTG.out.past HBE.out)).mono ?_
                    rintro e w7 ⟨⟨l, A7, n7, c7, hV, hn7, rfl, hc7, hr7⟩ | ⟨hV, rfl⟩, hb7⟩
                    · have HE : Hid (V = some (z, l)) := Lib.hid (by rw [← HNF.out, HNS.out, hV])
                      have HL : Hid (∀ i ∈ l, i < v) := Lib.hid (fun i hi => by have := (IncF.mem (pikL_sound hV).2.1 i hi).2; rw [HCL.out] at this; exact this)
                      have hn3 : n7 ≤ 3 := by rw [hn7, (pikL_sound hV).1]; omega
                      have HN7 := Lib.hid hn7; have HR7 := Lib.hid hr7
                      have HB7 := Lib.hid (HBE.out.trans (hb7.mono HBE.out.size))
                      have HA7 := Lib.hid (HAc.out.past HB7.out)
                      have HBL2 := HBL.out
                      clear hV hn7 hr7 hb7 HNF HNS
                      dsimp only
                      go_wp2_with (at_builtin; refine wpList_copyB elB_b5 (.tmp 132) (.tmp 133) rfl rfl rfl rfl (HA7.out.alloc (Nat.le_refl _) _) (by omega) (by decide) ?_; intro Ax cx w8 hcx hrx hox hb8; have HOX := Lib.hid (ownsRow_base (hox (by omega)) (show w7.heap.size ≤ _ by simp)); have HB8 := Lib.hid ((((Below.refl w7.heap.size w7).alloc (Nat.le_refl _) _)).trans (hb8.mono (by simp))); have HCX := Lib.hid hcx; clear hrx hox hb8 hcx)
                      obtain ⟨gx, cpx, hvx⟩ := own_head HOX.out (by omega)
                      injection hvx with hAx _ hcx2
                      subst hAx; subst hcx2
                      have HO8 : Hid (w8.ownsRow w7.heap.size 4 1 (.slice (some ⟨gx, 0, none⟩) v cx) v ((flpB bs (l.take 0)).map Value.bool)) := HOX
                      go_loopw [25] (fun i wr => ∃ q : Nat, q ≤ n7 ∧ i = .int .i64 q ∧ wr.ownsRow w7.heap.size 4 1 (.slice (some ⟨gx, 0, none⟩) v cx) v ((flpB bs (l.take q)).map Value.bool) ∧ Below w7.heap.size w7 wr) (fun i _ => n7 - (intOf i).toNat)
                      case atStart => exact ⟨0, Nat.zero_le _, rfl, HO8.out, HB8.out⟩
                      case round =>
                        obtain ⟨q, hq, rfl, hox, hbw⟩ := hrel
                        obtain ⟨wd, rfl⟩ : ∃ z : World, z = wr := ⟨_, rfl⟩
                        have HO9 := Lib.hid hox; have HB9 := Lib.hid hbw
                        clear hox hbw HOX HO8 HB8
                        by_cases hlq : q < n7
                        · have hqi : (q : Int) < (n7 : Int) := by omega
                          have hql : q < l.length := by rw [← HN7.out]; exact hlq
                          obtain ⟨b9, o9, hA9, hb9, hx⟩ := int_cell (HR7.out.below HB9.out) (k := q) (by rw [List.length_map]; exact hql)
                          subst hA9
                          rw [List.getElem_map] at hx
                          have hrn := HL.out _ (List.getElem_mem hql)
                          have HFS : Hid (flpB bs (l.take (q + 1)) = (flpB bs (l.take q)).set l[q] (!((flpB bs (l.take q)).getD l[q] false))) := Lib.hid (by rw [take_snoc _ _ hql, flpB_snoc])
                          generalize l[q] = u at hx hrn HFS
                          obtain ⟨cur, hcur⟩ : ∃ cur, cur = flpB bs (l.take q) := ⟨_, rfl⟩
                          have hcl : cur.length = v := by rw [hcur, flpB_len, HBL.out]
                          rw [← hcur] at HO9 HFS
                          have hpc : u < cur.length := by omega
                          have hpi : (u : Int) < (v : Int) := by omega
                          have e0 : wd.cell? ⟨gx, u, none⟩ = some (.bool (cur.getD u false)) := by
                            rw [HO9.out.cellAt u (by omega), List.getElem?_map, List.getElem?_eq_getElem hpc, getD_at _ _ hpc]; rfl
                          have f0 := HO9.out.frozenAt u
                          have hst := (HO9.out.drew.stored u (.bool (!cur.getD u false))).1
                          rw [← List.map_set, ← HFS.out] at hst
                          have hgl := (HO9.out.lt gx rfl).1
                          have HST := Lib.hid hst; have HBS := Lib.hid (HB9.out.drew.setCell (p := ⟨gx, u, none⟩) hgl (.bool (!cur.getD u false)))
                          generalize cur.getD u false = y at e0 HST HBS
                          clear hst hgl hpc hcl hcur hrn hb9 HFS hql
                          go_wp2_with fail
                          go_region
                          go_wp2_with fail
                          go_roundw
                          case rel => exact ⟨q + 1, hlq, by go_num, HST.out, HBS.out⟩
                          case measure => simp [intOf]; omega
                        · have hqi : ¬ (q : Int) < (n7 : Int) := by omega
                          have HO10 : Hid (Rd wd wd.heap.size 1 (some ⟨gx, 0, none⟩) v ((flpB bs l).map Value.bool)) := Lib.hid (by
                            have := Rd.own HO9.out
                            rwa [List.take_of_length_le (by have := HN7.out; omega)] at this)
                          go_wp2_with fail
                          go_ret3
                          exact ⟨.inl ⟨z, l, _, _, HE.out, rfl, HCX.out, HO10.out⟩, bnext HBC.out (HB7.out.trans (HB9.out.mono HB7.out.size))⟩
                    · have HN2 : Hid (nearF cols (tgtB now ss) M (z + 1) = V) := Lib.hid (by rw [← HNF.out, HNS.out, hV])
                      have HB7 := Lib.hid (HBE.out.trans (hb7.mono HBE.out.size))
                      clear hV hb7
                      dsimp only
                      go_wp2_with fail
                      go_roundw
                      case rel => exact ⟨z + 1, hlz, by go_num, HN2.out, HB7.out⟩
                      case measure => simp [intOf]; omega
                  · have hzi : ¬ (z : Int) ≤ (M : Int) := by omega
                    have HE : Hid (V = none) := Lib.hid (by rw [← HNF.out, nearF_end (by omega)])
                    go_wp2_with fail
                    go_ret3
                    exact ⟨.inr ⟨HE.out, rfl⟩, bnext HBC.out HBE.out⟩
#print axioms refNearest_ok
end Go.Proofs.Ytfinjdkcgmepfaa
/- The walk of ReconcileNearests: it returns true for any input. Conditions: none beyond the arguments' types. -/
namespace Go.Proofs.Ytfinjdkcgmepfaa
open Go.RowKit
set_option linter.unusedVariables false
/-- The error of Nearest. -/
def nearE (N C D : Int) (n m : Nat) (R : Int) : Int := if fitE N C D n m ≠ 0 then fitE N C D n m else if R < 0 ∨ 3 < R ∨ (64 < N ∧ 2 < R) then 3 else 0
set_option maxRecDepth 100000 in
set_option maxHeartbeats 2000000 in
theorem Nearest_bad (N C D : Int) (s : Nat) (A A' : Option Addr) (n ca m cb : Nat) (R : Int) (w : World) (h : nearE N C D n m R ≠ 0) :
    Calls Try.prog 19 #[codV N C D s, .slice A n ca, .slice A' m cb, .int .i64 R] w (DecB (nearE N C D n m R) w) := by
  by_cases h0 : fitE N C D n m = 0
  · have h2 : R < 0 ∨ (0 ≤ R ∧ 3 < R) ∨ (0 ≤ R ∧ R ≤ 3 ∧ 64 < N ∧ 2 < R) := by unfold nearE at h; rw [if_neg (by simpa using h0)] at h; split at h <;> omega
    have HE : Hid (nearE N C D n m R = 3) := Lib.hid (by unfold nearE; rw [if_neg (by simpa using h0), if_pos (by omega)])
    have H0 := Lib.hid h0
    clear h h0
    rcases h2 with h2 | ⟨h2, h3⟩ | ⟨h2, h3, h4, h5⟩
    all_goals
      go_enter Try.func19, Try.ntmps19
      go_wp2_with fail
      refine (fits5_any N C D s A A' n ca m cb _).mono ?_
      rintro e w1 ⟨⟨E, hE, rfl⟩, hb⟩
      obtain rfl : E = 0 := by rw [hE, H0.out]
      have HB : Hid (Below w.heap.size w w1) := Lib.hid (((Below.refl _ _).alloc (Nat.le_refl _) _).trans (hb.mono (by simp)))
      have c0 := ((CodeAt.new w N C D s).below hb (Nat.le_refl _)).c0
      clear hb hE
      go_wp2_with fail
      go_ret3
      exact ⟨by rw [HE.out]; rfl, HB.out⟩
  · have hv : fitE N C D n m = 2 ∨ fitE N C D n m = 22 := by unfold fitE at *; split at h0 <;> split <;> simp_all
    have HE : Hid (nearE N C D n m R = fitE N C D n m) := Lib.hid (by unfold nearE; rw [if_pos h0])
    clear h
    obtain ⟨F, hF⟩ : ∃ F, F = fitE N C D n m := ⟨_, rfl⟩
    rw [← hF] at hv HE
    have hF0 : (F != 0) = true := by rcases hv with h | h <;> rw [h] <;> rfl
    have HF := Lib.hid hF
    clear hv h0 hF
    go_enter Try.func19, Try.ntmps19
    go_wp2_with fail
    refine (fits5_any N C D s A A' n ca m cb _).mono ?_
    rintro e w1 ⟨⟨E, hE, rfl⟩, hb⟩
    obtain rfl : E = F := by rw [hE, HF.out]
    have HB : Hid (Below w.heap.size w w1) := Lib.hid (((Below.refl _ _).alloc (Nat.le_refl _) _).trans (hb.mono (by simp)))
    clear hb hE
    go_wp2_with fail
    go_ret3
    exact ⟨by rw [HE.out]; rfl, HB.out⟩
set_option maxRecDepth 100000 in
set_option maxHeartbeats 2000000 in
theorem refNearest_bad (N C D : Int) (s : Nat) (A A' : Option Addr) (n ca m cb : Nat) (R : Int) (w : World) (h : nearE N C D n m R ≠ 0) :
    Calls Try.prog 20 #[codV N C D s, .slice A n ca, .slice A' m cb, .int .i64 R] w (DecB (nearE N C D n m R) w) := by
  by_cases h0 : fitE N C D n m = 0
  · have h2 : R < 0 ∨ (0 ≤ R ∧ 3 < R) ∨ (0 ≤ R ∧ R ≤ 3 ∧ 64 < N ∧ 2 < R) := by unfold nearE at h; rw [if_neg (by simpa using h0)] at h; split at h <;> omega
    have HE : Hid (nearE N C D n m R = 3) := Lib.hid (by unfold nearE; rw [if_neg (by simpa using h0), if_pos (by omega)])
    have H0 := Lib.hid h0
    clear h h0
    rcases h2 with h2 | ⟨h2, h3⟩ | ⟨h2, h3, h4, h5⟩
    all_goals
      go_enter Try.func20, Try.ntmps20
      go_wp2_with fail
      refine (refsizes_any N C D s A A' n ca m cb _).mono ?_
      rintro e w1 ⟨⟨E, hE, rfl⟩, hb⟩
      obtain rfl : E = 0 := by rw [hE, H0.out]
      have HB : Hid (Below w.heap.size w w1) := Lib.hid (((Below.refl _ _).alloc (Nat.le_refl _) _).trans (hb.mono (by simp)))
      have c0 := ((CodeAt.new w N C D s).below hb (Nat.le_refl _)).c0
      clear hb hE
      go_wp2_with fail
      go_ret3
      exact ⟨by rw [HE.out]; rfl, HB.out⟩
  · have hv : fitE N C D n m = 2 ∨ fitE N C D n m = 22 := by unfold fitE at *; split at h0 <;> split <;> simp_all
    have HE : Hid (nearE N C D n m R = fitE N C D n m) := Lib.hid (by unfold nearE; rw [if_pos h0])
    clear h
    obtain ⟨F, hF⟩ : ∃ F, F = fitE N C D n m := ⟨_, rfl⟩
    rw [← hF] at hv HE
    have hF0 : (F != 0) = true := by rcases hv with h | h <;> rw [h] <;> rfl
    have HF := Lib.hid hF
    clear hv h0 hF
    go_enter Try.func20, Try.ntmps20
    go_wp2_with fail
    refine (refsizes_any N C D s A A' n ca m cb _).mono ?_
    rintro e w1 ⟨⟨E, hE, rfl⟩, hb⟩
    obtain rfl : E = F := by rw [hE, HF.out]
    have HB : Hid (Below w.heap.size w w1) := Lib.hid (((Below.refl _ _).alloc (Nat.le_refl _) _).trans (hb.mono (by simp)))
    clear hb hE
    go_wp2_with fail
    go_ret3
    exact ⟨by rw [HE.out]; rfl, HB.out⟩
/-- What both sides say, in one form. -/
def NearX (N C D : Int) (n m : Nat) (R : Int) (s : Nat) (bs ss : List Bool) (w : World) (e : Ending) (w' : World) : Prop :=
  ∃ A k c z q E, e = .returned (.tuple #[.slice A k c, .int .i64 (q : Int), .int .i64 E]) ∧
    (z, q, E) = (if nearE N C D n m R ≠ 0 then (([], 0, nearE N C D n m R) : List Bool × Int × Int) else match nearF (colsL C.toNat D.toNat s N.toNat) (tgtB (synL C.toNat bs (colsL C.toNat D.toNat s N.toNat)) ss) R.toNat 0 with | some (q, l) => (flpB bs l, (q : Int), 0) | none => ([], 0, 9)) ∧ Rd w' w'.heap.size 1 A k (z.map Value.bool) ∧ k ≤ 512 ∧ Below w.heap.size w w'
theorem NearX.bad {N C D : Int} {n m : Nat} {R : Int} {s : Nat} {bs ss : List Bool} {w w' : World} {e : Ending} (h : nearE N C D n m R ≠ 0) (hb : DecB (nearE N C D n m R) w e w') : NearX N C D n m R s bs ss w e w' :=
  ⟨none, 0, 0, [], 0, _, hb.1, by rw [if_pos h], Rd.nil _ _ _ _, by omega, hb.2⟩
theorem NearX.good {N C D : Nat} {R : Nat} {s : Nat} {bs ss : List Bool} {w w' : World} {e : Ending} (hN : N ≤ 512) (h : nearE N C D N C R = 0) (hb : NearP N bs (nearF (colsL C D s N) (tgtB (synL C bs (colsL C D s N)) ss) R 0) w e w') : NearX N C D N C R s bs ss w e w' := by
  obtain ⟨⟨q, l, A, c, hV, he, hc, hr⟩ | ⟨hV, he⟩, hb⟩ := hb
  · exact ⟨A, N, c, flpB bs l, q, 0, he, by rw [if_neg (by simpa using h)]; simp only [Int.toNat_natCast]; rw [hV], hr, hN, hb⟩
  · exact ⟨none, 0, 0, [], 0, 9, he, by rw [if_neg (by simpa using h)]; simp only [Int.toNat_natCast]; rw [hV], Rd.nil _ _ _ _, by omega, hb⟩
theorem nearE_ok {N C D : Int} {n m : Nat} {R : Int} (h : nearE N C D n m R = 0) : ∃ c d r : Nat, codeE N C D = 0 ∧ N = n ∧ C = m ∧ D = d ∧ R = r ∧ r ≤ 3 ∧ (n ≤ 64 ∨ r ≤ 2) := by
  unfold nearE at h
  split at h
  · rename_i h2; exact absurd h h2
  · rename_i h2
    split at h
    · cases h
    · obtain ⟨a, b, c⟩ := fitE_ok.1 (show fitE N C D n m = 0 by simpa using h2)
      obtain ⟨n', c', d', e1, e2, e3⟩ := code_nat a
      exact ⟨c', d', R.toNat, a, b.symm, c.symm, e3, by omega, by omega, by omega⟩
theorem Nearest_any (N C D : Int) (s : Nat) (A A' : Option Addr) (n ca m cb : Nat) (R : Int) (bs ss : List Bool) (w : World) (hs : s < two64) (h : Rd w w.heap.size 1 A n (bs.map Value.bool)) (h' : Rd w w.heap.size 1 A' m (ss.map Value.bool)) :
    Calls Try.prog 19 #[codV N C D s, .slice A n ca, .slice A' m cb, .int .i64 R] w (NearX N C D n m R s bs ss w) := by
  by_cases h0 : nearE N C D n m R = 0
  · obtain ⟨c, d, r, hc, rfl, rfl, rfl, rfl, hr, hr2⟩ := nearE_ok h0
    exact (Nearest_ok n m d s A A' ca cb r bs ss _ w hc hs hr hr2 rfl h h').mono fun e w' hp => NearX.good (by have := codeE_ok.1 hc; omega) h0 hp
  · exact (Nearest_bad N C D s A A' n ca m cb R w h0).mono fun e w' hp => NearX.bad h0 hp
theorem refNearest_any (N C D : Int) (s : Nat) (A A' : Option Addr) (n ca m cb : Nat) (R : Int) (bs ss : List Bool) (w : World) (hs : s < two64) (h : Rd w w.heap.size 1 A n (bs.map Value.bool)) (h' : Rd w w.heap.size 1 A' m (ss.map Value.bool)) :
    Calls Try.prog 20 #[codV N C D s, .slice A n ca, .slice A' m cb, .int .i64 R] w (NearX N C D n m R s bs ss w) := by
  by_cases h0 : nearE N C D n m R = 0
  · obtain ⟨c, d, r, hc, rfl, rfl, rfl, rfl, hr, hr2⟩ := nearE_ok h0
    exact (refNearest_ok n m d s A A' ca cb r bs ss _ w hc hs hr hr2 rfl h h').mono fun e w' hp => NearX.good (by have := codeE_ok.1 hc; omega) h0 hp
  · exact (refNearest_bad N C D s A A' n ca m cb R w h0).mono fun e w' hp => NearX.bad h0 hp
set_option maxRecDepth 100000 in
set_option maxHeartbeats 4000000 in
theorem ReconcileNearests_walk (v0 : Value) (i0 : CodeArg) (v1 : Value) (i1 : BitsArg) (v2 : Value) (i2 : BitsArg) (R : Int) (w : World) (hx0 : IsCode w v0 i0) (hx1 : IsBits w v1 i1) (hx2 : IsBits w v2 i2) (hR : -9223372036854775808 ≤ R ∧ R ≤ 9223372036854775807) :
    Calls Try.prog 5 #[v0, v1, v2, .int .i64 R] w fun e w' => e = .returned (.bool true) ∧ Below w.heap.size w w' := by
  obtain ⟨N, C, D, s⟩ := i0
  obtain ⟨A, n, c, bs⟩ := i1
  obtain ⟨A', m, c', ss⟩ := i2
  obtain ⟨rfl, _, _, _, hs⟩ := hx0
  obtain ⟨rfl, hc, hm, hl, h⟩ := hx1
  obtain ⟨rfl, hc', hm', hl', h'⟩ := hx2
  simp only at hs hc hl h hm hc' hl' h' hm'
  have hs2 : s < two64 := hs
  have H := Lib.hid h; have H' := Lib.hid h'
  clear h h'
  have HB0 : Hid (Below w.heap.size w (w.alloc (.cells (codC N C D s) 25))) := Lib.hid ((Below.refl _ _).alloc (Nat.le_refl _) _)
  by_cases hn : 600 < n ∨ 600 < m ∨ (40 < N ∧ N ≤ 512 ∧ 1 < R)
  · have g1 : (600 : Int) < (n : Int) ∨ (¬ (600 : Int) < (n : Int) ∧ (600 : Int) < (m : Int)) ∨ (¬ (600 : Int) < (n : Int) ∧ ¬ (600 : Int) < (m : Int) ∧ 40 < N ∧ N ≤ 512 ∧ 1 < R) := by omega
    have c0 := (CodeAt.new w N C D s).c0
    clear hn
    rcases g1 with g1 | ⟨g1, g2⟩ | ⟨g1, g2, g3, g4, g5⟩
    all_goals
      go_enter Try.func5, Try.ntmps5
      go_wp2_with fail
      refine (works_any _).mono ?_
      rintro e w9 ⟨rfl, hb9⟩
      go_wp2_with fail
      go_ret
      exact ⟨rfl, bnext HB0.out hb9⟩
  · have g1 : ¬ (600 : Int) < (n : Int) := by omega
    have g2 : ¬ (600 : Int) < (m : Int) := by omega
    have HCD := Lib.hid (CodeAt.new w N C D s)
    have HR := Lib.hid (H.out.past HB0.out); have HR' := Lib.hid (H'.out.past HB0.out)
    have g3 : ¬ (40 < N) ∨ (40 < N ∧ ¬ (N ≤ 512)) ∨ (40 < N ∧ N ≤ 512 ∧ ¬ (1 < R)) := by omega
    have c0 := HCD.out.c0
    clear H H' hn
    rcases g3 with g3 | ⟨g3, g4⟩ | ⟨g3, g4, g5⟩
    all_goals
      go_enter Try.func5, Try.ntmps5
      go_wp2_with fail
      refine (Nearest_any N C D s A A' n c m c' R bs ss _ hs2 HR.out HR'.out).mono ?_
      rintro e w1 ⟨A1, k1, c1, z, q, E, rfl, hz, hr1, hk1, hb1⟩
      have HCD1 := Lib.hid (HCD.out.past hb1 HCD.out.lt)
      have HB1 := Lib.hid (bnext HB0.out hb1); have HRa := Lib.hid (HR.out.past hb1); have HRa' := Lib.hid (HR'.out.past hb1); have HZ := Lib.hid hr1; have HZE := Lib.hid hz
      have d0 := HCD1.out.c0; have d1 := HCD1.out.c1; have d2 := HCD1.out.c2; have d3 := HCD1.out.c3
      clear hb1 hr1 hz HB0 HR HR' HCD
      dsimp only
      go_wp2_with fail
      refine (refNearest_any N C D s A A' n c m c' R bs ss _ hs2 HRa.out HRa'.out).mono ?_
      rintro e w2 ⟨A2, k2, c2, z', q', E', rfl, hz', hr2, hk2, hb2⟩
      rw [← HZE.out] at hz'
      simp only [Prod.mk.injEq] at hz'
      obtain ⟨rfl, rfl, rfl⟩ := hz'
      have HB2 := Lib.hid (bnext HB1.out hb2); have HZ1 := Lib.hid (HZ.out.past hb2); have HZ2 := Lib.hid hr2
      obtain rfl : k2 = k1 := by have h1 := HZ1.out.1; have h2 := hr2.1; simp at h1 h2; omega
      clear hb2 hr2 d0 d1 d2 d3
      dsimp only
      go_wp2_with fail
      refine (Bools_eq A1 A2 k2 c1 c2 z' _ (by omega) HZ1.out HZ2.out).mono ?_
      rintro e w10 ⟨rfl, hq7⟩
      have HQ7 := Lib.hid hq7
      clear hq7
      go_wp2_with fail
      refine (works_any _).mono ?_
      rintro e w9 ⟨rfl, hb9⟩
      have HB9 := Lib.hid (bnext (bnext HB2.out (HQ7.out.below _)) hb9)
      clear hb9
      go_wp2_with fail
      go_ret
      exact ⟨rfl, HB9.out⟩
#print axioms ReconcileNearests_walk
end Go.Proofs.Ytfinjdkcgmepfaa
/- The walk of ReconcileFinds: it returns true for any input. Conditions: none beyond the arguments' types. -/
namespace Go.Proofs.Ytfinjdkcgmepfaa
open Go.RowKit
set_option linter.unusedVariables false
theorem distL_dst : ∀ (a b : List Bool), a.length = b.length → distL a b = dstB a b
  | [], [], _ => rfl
  | [], _ :: _, h => by simp at h
  | _ :: _, [], h => by simp at h
  | a :: l, b :: m, h => by
    have ih := distL_dst l m (by simpa using h)
    rw [distL, ih]
    unfold dstB
    rw [List.length_cons, List.range_succ_eq_map, List.countP_cons, List.countP_map]
    have e : List.countP ((fun i => (a :: l).getD i false != (b :: m).getD i false) ∘ Nat.succ) (List.range l.length) = List.countP (fun i => l.getD i false != m.getD i false) (List.range l.length) := by
      apply List.countP_congr
      intro i _
      simp
    rw [e, Nat.add_comm]
    congr 1
theorem dst_flip {x y : List Bool} {i : Nat} (h : x.length = y.length) (hi : i < y.length) : dstB x (y.set i (!(y.getD i false))) ≤ dstB x y + 1 := by
  unfold dstB
  have : ∀ n, List.countP (fun j => x.getD j false != (y.set i (!(y.getD i false))).getD j false) (List.range n) ≤ List.countP (fun j => x.getD j false != y.getD j false) (List.range n) + if i < n then 1 else 0 := by
    intro n
    induction n with
    | zero => simp
    | succ n ih =>
      rw [List.range_succ, List.countP_append, List.countP_append, List.countP_cons, List.countP_cons, List.countP_nil, flip1_get _ _ _ hi]
      by_cases e : i = n
      · subst e
        rw [if_neg (Nat.lt_irrefl i)] at ih
        rw [if_pos (Nat.lt_succ_self i)]
        split <;> split <;> omega
      · have h2 : (if i < n + 1 then 1 else 0) = (if i < n then 1 else 0) := by
          by_cases h3 : i < n
          · rw [if_pos h3, if_pos (by omega)]
          · rw [if_neg h3, if_neg (by omega)]
        rw [h2, decide_eq_false e, Bool.bne_false]
        omega
  have := this x.length
  split at this <;> omega
theorem dst_zero {x y : List Bool} (h : x.length = y.length) (h0 : dstB x y = 0) : x = y := by
  unfold dstB at h0
  rw [List.countP_eq_zero] at h0
  apply List.ext_getElem h
  intro i h1 h2
  have := h0 i (by simpa using h1)
  rw [getD_at _ _ h1, getD_at _ _ h2] at this
  simpa using this
theorem dst_self (x : List Bool) : dstB x x = 0 := by
  unfold dstB
  rw [List.countP_eq_zero]
  intro i _; simp
/-- What lies in memory. -/
structure FiI (w0 w : World) (H N C D s : Nat) (A1 A2 : Option Addr) (x y : List Bool) : Prop where
  bl : Below w0.heap.size w0 w
  cd : CodeAt w H N C D s
  x : Rd w w.heap.size 1 A1 N (x.map Value.bool)
  y : Rd w w.heap.size 1 A2 N (y.map Value.bool)
theorem FiI.past {w0 w w' : World} {H N C D s : Nat} {A1 A2 : Option Addr} {x y : List Bool} (h : FiI w0 w H N C D s A1 A2 x y) (hb : Below w.heap.size w w') : FiI w0 w' H N C D s A1 A2 x y :=
  ⟨bnext h.bl hb, h.cd.past hb h.cd.lt, h.x.past hb, h.y.past hb⟩
set_option maxRecDepth 100000 in
set_option maxHeartbeats 8000000 in
theorem ReconcileFinds_walk (b c d s : Nat) (v4 : Value) (i4 : BitsArg) (v5 : Value) (i5 : U16Arg) (r : Nat) (w : World) (hb : b < 256) (hc : c < 256) (hd : d < 256) (hs : s < 18446744073709551616) (hx4 : IsBits w v4 i4) (hx5 : IsU16s w v5 i5) (hr : r < 256) :
    Calls Try.prog 7 #[.int .u8 b, .int .u8 c, .int .u8 d, .int .u64 s, v4, v5, .int .u8 r] w fun e w' => e = .returned (.bool true) ∧ Below w.heap.size w w' := by
  obtain ⟨A4, n4, c4, a0⟩ := i4
  obtain ⟨A5, n5, c5, es⟩ := i5
  obtain ⟨rfl, hc4, hm4, hl4, h4⟩ := hx4
  obtain ⟨rfl, hc5, hm5, hl5, he5, h5⟩ := hx5
  simp only at hl4 hl5 hc4 hc5 h4 h5 hm5 he5
  have H4 := Lib.hid h4; have H5 := Lib.hid h5; have HE5 := Lib.hid he5; have HL5 := Lib.hid hl5
  clear h4 h5 hm4 he5 hl5
  have hs2 : s < two64 := hs
  obtain ⟨M, hM⟩ : ∃ M, M = min n5 2 := ⟨_, rfl⟩
  have hmin : min (n5 : Int) 2 = (M : Int) := by omega
  have hM2 : M ≤ 2 := by omega
  have hMn : M ≤ n5 := by omega
  obtain ⟨R, hR⟩ : ∃ R, R = r % 65 := ⟨_, rfl⟩
  have hrr : (r : Int) % 65 = (R : Int) := by omega
  have hR64 : R ≤ 64 := by omega
  clear hM hR
  go_enter Try.func7, Try.ntmps7
  go_wp2_with fail
  refine (code_any b c d s _ hb hc hd).mono ?_
  rintro e w1 ⟨N, C, D, hE, hN, hC, rfl, hb1⟩
  have HB1 : Hid (Below w.heap.size w (w1.alloc (.cells (codC N C D s) 25))) := Lib.hid (hb1.alloc hb1.size _)
  have HCD := Lib.hid (CodeAt.new w1 N C D s)
  obtain ⟨h1, h2, h3, h4, h5, h6, h7⟩ := codeE_ok.1 hE
  have HE := Lib.hid hE
  have c0 := HCD.out.c0
  clear hb1 hE
  go_wp2_with fail
  refine (fill_any A4 n4 c4 N a0 _ (by omega) (H4.out.past HB1.out)).mono ?_
  rintro e w2 ⟨A1, k1, rfl, hk1, hown1, hb2⟩
  obtain ⟨x, hx⟩ : ∃ x, x = fillL a0 N := ⟨_, rfl⟩
  rw [← hx] at hown1
  have HXL : Hid (x.length = N) := Lib.hid (by rw [hx, fillL_len])
  have HX := Lib.hid (Rd.own hown1)
  have HCD2 := Lib.hid (HCD.out.past hb2 HCD.out.lt)
  have HB2 := Lib.hid (bnext HB1.out hb2)
  clear hx hown1 hb2 c0 HCD
  dsimp only [id]
  go_wp2_with (at_builtin; refine wpList_copyB elB_b5 (.tmp 36) (.tmp 37) rfl rfl rfl rfl (HX.out.alloc (Nat.le_refl _) _) (by omega) (by decide) ?_; intro Ay cy w3 hcy hry hoy hb3; have HOY := Lib.hid (ownsRow_base (hoy (by omega)) (show w2.heap.size ≤ _ by simp)); have HB3 := Lib.hid ((((Below.refl w2.heap.size w2).alloc (Nat.le_refl _) _)).trans (hb3.mono (by simp))); have HCY := Lib.hid hcy; clear hry hoy hb3 hcy)
  obtain ⟨gy, cpy, hvy⟩ := own_head HOY.out (by omega)
  injection hvy with hAy _ hcy2
  subst hAy; subst hcy2
  have HH5 := Lib.hid ((H5.out.past HB2.out))
  go_loopw [19] (fun i wr => ∃ (k : Nat) (y : List Bool), k ≤ M ∧ i = .int .i64 k ∧ y.length = N ∧ dstB x y ≤ k ∧ wr.ownsRow w2.heap.size 4 1 (.slice (some ⟨gy, 0, none⟩) N cy) N (y.map Value.bool) ∧ Below w2.heap.size w2 wr) (fun i _ => M - (intOf i).toNat)
  case atStart => exact ⟨0, x, Nat.zero_le _, rfl, HXL.out, by rw [dst_self]; exact Nat.le_refl _, HOY.out, HB3.out⟩
  case round =>
    obtain ⟨k, y, hk, rfl, hyl, hdy, hown, hbw⟩ := hrel
    obtain ⟨wa, rfl⟩ : ∃ z : World, z = wr := ⟨_, rfl⟩
    have HYL := Lib.hid hyl; have HDY := Lib.hid hdy; have HO := Lib.hid hown; have HBW := Lib.hid hbw
    have c0 := (HCD2.out.past hbw HCD2.out.lt).c0
    clear hyl hdy hown hbw HOY HB3
    by_cases hlt : k < M
    · have hki : (k : Int) < (M : Int) := by omega
      have hk5 : (k : Int) < (n5 : Int) := by omega
      have hkl : k < es.length := by rw [HL5.out]; omega
      obtain ⟨b5, o5, hA5, hb5, hc5⟩ := (HH5.out.below HBW.out).2 (by omega)
      have hx5 : wa.cell? ⟨b5, o5 + k, none⟩ = some (.int .u16 (es[k] : Nat)) := hc5 k _ (by unfold u16s; rw [List.getElem?_map, List.getElem?_eq_getElem hkl]; rfl)
      subst hA5
      have hel := HE5.out _ (List.getElem_mem hkl)
      generalize es[k] = e5 at hx5 hel
      obtain ⟨p, hp⟩ : ∃ p, p = e5 % N := ⟨_, rfl⟩
      have hpn : p < N := by rw [hp]; exact Nat.mod_lt _ (by omega)
      have hpe : (e5 : Int) % (N : Int) = (p : Int) := by rw [hp, Int.natCast_emod]
      have hn0 : ¬ ((N : Int) = 0) := by omega
      clear hp hc5 hkl hb5
      have hpl : p < y.length := by rw [HYL.out]; exact hpn
      have hpi : (p : Int) < (N : Int) := by omega
      have e0 : wa.cell? ⟨gy, p, none⟩ = some (.bool (y.getD p false)) := by
        rw [HO.out.cellAt p (by omega), List.getElem?_map, List.getElem?_eq_getElem hpl, getD_at _ _ hpl]; rfl
      have f0 := HO.out.frozenAt p
      have hst := (HO.out.drew.stored p (.bool (!y.getD p false))).1
      rw [← List.map_set] at hst
      have hgl := (HO.out.lt gy rfl).1
      have HST := Lib.hid hst; have HBS := Lib.hid (HBW.out.drew.setCell (p := ⟨gy, p, none⟩) hgl (.bool (!y.getD p false)))
      have HD2 : Hid (dstB x (y.set p (!y.getD p false)) ≤ k + 1) := Lib.hid (by have := dst_flip (x := x) (by rw [HXL.out, HYL.out]) hpl; have := HDY.out; omega)
      have HYL2 : Hid ((y.set p (!y.getD p false)).length = N) := Lib.hid (by rw [List.length_set]; exact HYL.out)
      generalize y.getD p false = yb at e0 HST HBS HD2 HYL2
      clear hst hgl hpl
      go_wp2_with fail
      go_region
      go_wp2_with fail
      go_roundw
      case rel => exact ⟨k + 1, _, hlt, by go_num, HYL2.out, HD2.out, HST.out, HBS.out⟩
      case measure => simp [intOf]; omega
    · have hki : ¬ (k : Int) < (M : Int) := by omega
      obtain rfl : k = M := by omega
      have HI : Hid (FiI w wa w1.heap.size N C D s A1 (some ⟨gy, 0, none⟩) x y) := Lib.hid ⟨bnext HB2.out HBW.out, HCD2.out.past HBW.out HCD2.out.lt, HX.out.past HBW.out, Rd.own HO.out⟩
      have hcols : ∀ l ∈ colsL C D s N, ∀ x ∈ l, 0 ≤ x ∧ x < C := fun l hl => (colsL_mem (by omega) l hl).2
      have c1 := HI.out.cd.c1; have c2 := HI.out.cd.c2; have c3 := HI.out.cd.c3
      have HCY := HCY
      clear HO HBW HX HCD2 HB2 HH5 H4 H5 HE5 HL5 HB1
      go_wp2_with fail
      refine (Syndrome_ok N C D s (some ⟨gy, 0, none⟩) cy y _ HE.out hs2 HI.out.y).mono ?_
      rintro e w4 ⟨As, cs, rfl, hcs, hos, hb4⟩
      have HI4 := Lib.hid (HI.out.past hb4)
      have d0 := HI4.out.cd.c0; have d1 := HI4.out.cd.c1; have d2 := HI4.out.cd.c2; have d3 := HI4.out.cd.c3
      obtain ⟨cols, hco⟩ : ∃ cols, cols = colsL C D s N := ⟨_, rfl⟩
      rw [← hco] at hos hcols
      have hcl : cols.length = N := by rw [hco, colsL_len]
      obtain ⟨ss, hss⟩ : ∃ ss, ss = synL C y cols := ⟨_, rfl⟩
      rw [← hss] at hos
      have HSS := Lib.hid (Rd.own hos)
      obtain ⟨n, l, hV, hnd⟩ := near_complete hcols (x := x) (y := y) (s := ss) (m := k) (by rw [hcl, HXL.out]) (by rw [HXL.out, HYL.out]) hss.symm HDY.out
      obtain ⟨g1, g2, g3, g4⟩ := near_sound hcols (by rw [hcl, HXL.out]) (by rw [hss, synL_len]) hV
      have HG1 := Lib.hid g1; have HG2 := Lib.hid g2; have HG3 := Lib.hid g3; have HND := Lib.hid hnd; have HSY := Lib.hid hss; have HCO := Lib.hid hco; have HCOL := Lib.hid hcols; have HCLN := Lib.hid hcl; have HVN := Lib.hid hV
      clear hos hb4 hcols hco hcl hss hV hnd g1 g2 g3 c0 c1 c2 c3 HI
      dsimp only
      go_wp2_with fail
      refine (Nearest_ok N C D s A1 As k1 cs k x ss _ _ HE.out hs2 (by omega) (by omega) rfl HI4.out.x HSS.out).mono ?_
      rintro e w5 ⟨⟨q, l', Az, cz, hV2, rfl, hcz, hrz⟩ | ⟨hV2, rfl⟩, hb5⟩
      · rw [← HCO.out, HVN.out] at hV2
        simp only [Option.some.injEq, Prod.mk.injEq] at hV2
        obtain ⟨rfl, rfl⟩ := hV2
        have HI5 := Lib.hid (HI4.out.past hb5)
        have HS5 := Lib.hid (HSS.out.past hb5); have HZ := Lib.hid hrz
        have e0 := HI5.out.cd.c0; have e1 := HI5.out.cd.c1; have e2 := HI5.out.cd.c2; have e3 := HI5.out.cd.c3
        clear hb5 hrz d0 d1 d2 d3
        dsimp only
        go_wp2_with fail
        have hxz : (flpB x l).length = N := by have := HZ.out.1; simpa using this
        have HXZ := Lib.hid hxz
        refine (distance_any A1 (some ⟨gy, 0, none⟩) N k1 cy x y _ (by omega) HI5.out.x HI5.out.y).mono ?_
        rintro e w6 ⟨rfl, hq6⟩
        rw [distL_dst x y (by rw [HXL.out, HYL.out])]
        have HI6 := Lib.hid (HI5.out.past (hq6.below _)); have HS6 := Lib.hid (HS5.out.past (hq6.below _)); have HZ6 := Lib.hid (HZ.out.past (hq6.below _))
        obtain ⟨dd, hdd⟩ : ∃ dd, dd = dstB x y := ⟨_, rfl⟩
        have HDD := Lib.hid hdd
        rw [← hdd]
        have hnd : ¬ ((dd : Int) < (n : Int)) := by have := HND.out; omega
        clear hq6 e0 e1 e2 e3 hdd hxz
        go_wp2_with fail
        refine (distance_any A1 Az N k1 cz x (flpB x l) _ (by omega) HI6.out.x HZ6.out).mono ?_
        rintro e w7 ⟨rfl, hq7⟩
        rw [distL_dst x (flpB x l) (by rw [HXL.out, HXZ.out]), HG2.out]
        have HI7 := Lib.hid (HI6.out.past (hq7.below _)); have HS7 := Lib.hid (HS6.out.past (hq7.below _)); have HZ7 := Lib.hid (HZ6.out.past (hq7.below _))
        have hnn : ((n : Int) != (n : Int)) = false := by simp
        have hNN : ((N : Int) != (N : Int)) = false := by simp
        have e0 := HI7.out.cd.c0; have e1 := HI7.out.cd.c1; have e2 := HI7.out.cd.c2; have e3 := HI7.out.cd.c3
        clear hq7
        go_wp2_with fail
        refine (Syndrome_ok N C D s Az cz (flpB x l) _ HE.out hs2 HZ7.out).mono ?_
        rintro e w8 ⟨At, ct, rfl, hct, hot, hb8⟩
        rw [← HCO.out, HG1.out] at hot
        have HI8 := Lib.hid (HI7.out.past hb8); have HS8 := Lib.hid (HS7.out.past hb8); have HT8 := Lib.hid (Rd.own hot)
        clear hot hb8 e0 e1 e2 e3
        dsimp only
        go_wp2_with fail
        refine (Bools_eq As At C cs ct ss _ (by omega) HS8.out HT8.out).mono ?_
        rintro e w9 ⟨rfl, hq9⟩
        have HI9 := Lib.hid (HI8.out.past (hq9.below _)); have HS9 := Lib.hid (HS8.out.past (hq9.below _))
        have e0 := HI9.out.cd.c0; have e1 := HI9.out.cd.c1; have e2 := HI9.out.cd.c2; have e3 := HI9.out.cd.c3
        clear hq9
        go_wp2_with fail
        refine (Decode_ok N C D s A1 As k1 cs R x ss _ _ HE.out hs2 hR64 rfl HI9.out.x HS9.out).mono ?_
        rintro e w10 ⟨hres, hb10⟩
        have HI10 := Lib.hid (HI9.out.past hb10); have HS10 := Lib.hid (HS9.out.past hb10)
        rw [← HCO.out] at hres
        have hzero : dd = 0 → decL C cols ss (R + 1) 0 x = some (x, 0) := fun h => by
          have hxy : x = y := dst_zero (by rw [HXL.out, HYL.out]) (by rw [← HDD.out]; exact h)
          rw [decL, if_pos (by rw [hxy]; exact HSY.out.symm)]
        have HZE := Lib.hid hzero
        clear hb10 e0 e1 e2 e3 hzero hnd
        rcases hres with ⟨z2, q2, A2, c2, hV3, rfl, hc2, hr2⟩ | ⟨hV3, rfl⟩
        · obtain ⟨d1, d2, _⟩ := decL_sound (by rw [HXL.out, HCLN.out]) hV3
          have HD1 := Lib.hid d1; have HV3 := Lib.hid hV3; have HR2 := Lib.hid hr2
          clear d1 d2 hr2 hV3
          dsimp only
          go_wp2_with fail
          refine (distance_any A1 (some ⟨gy, 0, none⟩) N k1 cy x y _ (by omega) HI10.out.x HI10.out.y).mono ?_
          rintro e w11 ⟨rfl, hq11⟩
          rw [distL_dst x y (by rw [HXL.out, HYL.out]), ← HDD.out]
          have HI11 := Lib.hid (HI10.out.past (hq11.below _)); have HS11 := Lib.hid (HS10.out.past (hq11.below _)); have HR11 := Lib.hid (HR2.out.past (hq11.below _))
          clear hq11
          by_cases hd0 : dd = 0
          · have hV4 := HZE.out hd0
            rw [HV3.out] at hV4
            simp only [Option.some.injEq, Prod.mk.injEq] at hV4
            obtain ⟨rfl, rfl⟩ := hV4
            have hdi : ((dd : Int) == 0) = true := by simpa using hd0
            clear hd0
            go_wp2_with fail
            refine (Bools_eq A2 A1 N c2 k1 z2 _ (by omega) HR11.out HI11.out.x).mono ?_
            rintro e w12 ⟨rfl, hq12⟩
            have HI12 := Lib.hid (HI11.out.past (hq12.below _)); have HS12 := Lib.hid (HS11.out.past (hq12.below _)); have HR12 := Lib.hid (HR11.out.past (hq12.below _))
            have e0 := HI12.out.cd.c0; have e1 := HI12.out.cd.c1; have e2 := HI12.out.cd.c2; have e3 := HI12.out.cd.c3
            clear hq12
            go_wp2_with fail
            refine (Syndrome_ok N C D s A2 c2 z2 _ HE.out hs2 HR12.out).mono ?_
            rintro e w13 ⟨Au, cu, rfl, hcu, hou, hb13⟩
            rw [← HCO.out, HD1.out] at hou
            have HI13 := Lib.hid (HI12.out.past hb13); have HS13 := Lib.hid (HS12.out.past hb13); have HU13 := Lib.hid (Rd.own hou)
            clear hou hb13 e0 e1 e2 e3
            dsimp only
            go_wp2_with fail
            refine (Bools_eq As Au C cs cu ss _ (by omega) HS13.out HU13.out).mono ?_
            rintro e w14 ⟨rfl, hq14⟩
            have HQ14 := Lib.hid (bnext HI13.out.bl (hq14.below _))
            clear hq14
            go_wp2_with fail
            refine (works_any _).mono ?_
            rintro e w15 ⟨rfl, hb15⟩
            go_wp2_with fail
            go_ret
            exact ⟨rfl, bnext HQ14.out hb15⟩
          · have hdi : ((dd : Int) == 0) = false := by simpa using hd0
            have e0 := HI11.out.cd.c0; have e1 := HI11.out.cd.c1; have e2 := HI11.out.cd.c2; have e3 := HI11.out.cd.c3
            clear hd0
            go_wp2_with fail
            refine (Syndrome_ok N C D s A2 c2 z2 _ HE.out hs2 HR11.out).mono ?_
            rintro e w13 ⟨Au, cu, rfl, hcu, hou, hb13⟩
            rw [← HCO.out, HD1.out] at hou
            have HI13 := Lib.hid (HI11.out.past hb13); have HS13 := Lib.hid (HS11.out.past hb13); have HU13 := Lib.hid (Rd.own hou)
            clear hou hb13 e0 e1 e2 e3
            dsimp only
            go_wp2_with fail
            refine (Bools_eq As Au C cs cu ss _ (by omega) HS13.out HU13.out).mono ?_
            rintro e w14 ⟨rfl, hq14⟩
            have HQ14 := Lib.hid (bnext HI13.out.bl (hq14.below _))
            clear hq14
            go_wp2_with fail
            refine (works_any _).mono ?_
            rintro e w15 ⟨rfl, hb15⟩
            go_wp2_with fail
            go_ret
            exact ⟨rfl, bnext HQ14.out hb15⟩
        · have hd0 : dd ≠ 0 := fun h => by rw [HZE.out h] at hV3; cases hV3
          have hdi : ((dd : Int) == 0) = false := by simpa using hd0
          clear hV3 hd0
          dsimp only
          go_wp2_with fail
          refine (distance_any A1 (some ⟨gy, 0, none⟩) N k1 cy x y _ (by omega) HI10.out.x HI10.out.y).mono ?_
          rintro e w11 ⟨rfl, hq11⟩
          rw [distL_dst x y (by rw [HXL.out, HYL.out]), ← HDD.out]
          have HQ11 := Lib.hid (bnext HI10.out.bl (hq11.below _))
          clear hq11
          go_wp2_with fail
          refine (works_any _).mono ?_
          rintro e w15 ⟨rfl, hb15⟩
          go_wp2_with fail
          go_ret
          exact ⟨rfl, bnext HQ11.out hb15⟩
      · exact absurd hV2 (by rw [← HCO.out, HVN.out]; simp)
#print axioms ReconcileFinds_walk
end Go.Proofs.Ytfinjdkcgmepfaa
