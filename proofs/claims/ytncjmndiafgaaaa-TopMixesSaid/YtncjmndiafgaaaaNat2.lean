/- The contracts of trim, clone, Of, order. Conditions: as each statement says. -/
import Derived.Test.YtncjmndiafgaaaaBase
import Derived.Test.YtncjmndiafgaaaaProg
import Derived.Test.YtncjmndiafgaaaaPush
import Derived.Laws.CopyOwn
namespace Go.Proofs.Ytncjmndiafgaaaa
open Go.RowKit
set_option linter.unusedVariables false
abbrev limC (l : List Nat) : List Value := l.map fun x : Nat => Value.int .u32 x
theorem addr_zero (a : Addr) : a.add 0 = a := by simp [Addr.add]
theorem slice_pre {P : Program} {t e : TypeId} {sz : Nat} (ht' : P.underlying t = some (.slice e)) (hz' : ∀ w, (sizeOf e).run P w = .ok sz w) (A : Option Addr) (n : Nat) (E : Int) (hi c : Nat) (hE : E = (hi : Int)) (hhi : hi ≤ c) (w' : World) :
    (Instr.sliceAt t (.slice A n c) none (some (.int .i64 E)) none).run P w' = .ok (.slice A hi c) w' := by
  subst hE
  have he : P.elem t = e := by simp [Program.elem, ht']
  have ht : P.underlying t = some (.slice (P.elem t)) := by rw [he]; exact ht'
  have hz : ∀ w, (sizeOf (P.elem t)).run P w = .ok sz w := by rw [he]; exact hz'
  rw [run_sliceAt_slice (h := ht), run_slice_h (ht := ht) (h0 := by omega) (h2 := by omega), hz]
  cases A with
  | none => simp [Result.andThen, sliced]
  | some a => simp [Result.andThen, sliced, addr_zero]
theorem lim_cell {w : World} {B n : Nat} {A : Option Addr} {l : List Nat} (h : Rd w B 1 A n (limC l)) {k : Nat} (hk : k < n) : ∃ b off, A = some ⟨b, off, none⟩ ∧ b < B ∧ w.cell? ⟨b, off + k, none⟩ = some (.int .u32 (l.getD k 0 : Nat)) := by
  obtain ⟨b, off, hA, hb, hc⟩ := h.2 (by omega)
  have hl : k < l.length := by have := h.1; simp at this; omega
  exact ⟨b, off, hA, hb, hc k _ (by rw [List.getElem?_map, List.getElem?_eq_getElem hl, List.getD_eq_getElem?_getD, List.getElem?_eq_getElem hl]; rfl)⟩
theorem Rd.pre {w : World} {B n k : Nat} {A : Option Addr} {l : List Nat} (h : Rd w B 1 A n (limC l)) (hk : k ≤ n) : Rd w B 1 A k (limC (l.take k)) := by
  have hl : l.length = n := by have := h.1; simpa using this
  refine ⟨by simp [hl]; omega, fun h0 => ?_⟩
  obtain ⟨b, off, e, hb, hc⟩ := h.2 (by omega)
  refine ⟨b, off, e, hb, fun j u hu => hc j u ?_⟩
  rw [show limC (l.take k) = (limC l).take k from List.map_take, List.getElem?_take] at hu
  split at hu
  · exact hu
  · cases hu
set_option maxHeartbeats 1000000 in
theorem trim_any (A : Option Addr) (n c B : Nat) (l : List Nat) (w : World) (hn : n ≤ 1073741824) (hc : n ≤ c) (h : Rd w B 1 A n (limC l)) :
    Calls Try.prog 26 #[.slice A n c] w fun e w' => e = .returned (.slice A (trimN l n) c) ∧ w = w' := by
  have H := Lib.hid h
  have hl : l.length = n := by have := h.1; simpa using this
  have HL := Lib.hid hl
  clear h hl
  go_enter Try.func26, Try.ntmps26
  go_wp2_with fail
  go_loop [3] (fun i => ∃ k : Nat, k ≤ n ∧ i = .int .i64 k ∧ trimN l k = trimN l n) (fun i => (intOf i).toNat)
  case atStart => exact ⟨n, Nat.le_refl _, rfl, rfl⟩
  case round =>
    obtain ⟨k, hk, rfl, ht⟩ := hrel
    have HT := Lib.hid ht
    clear ht
    rcases Nat.eq_zero_or_pos k with h0 | h0
    · subst h0
      have HE : Hid (trimN l n = 0) := Lib.hid (by rw [← HT.out]; rfl)
      have hsl := slice_pre (P := Try.prog) (t := 25) (sz := 1) Try.underlying25 Try.sizeOf47 A n 0 0 c rfl (Nat.zero_le _)
      go_wp2_with fail
      go_ret
      exact ⟨by rw [HE.out]; rfl, rfl⟩
    · obtain ⟨j, rfl⟩ : ∃ j, k = j + 1 := ⟨k - 1, by omega⟩
      obtain ⟨b1, o1, rfl, hb1, r1⟩ := lim_cell H.out (k := j) (by omega)
      have hj1 : (0 : Int) < ((j + 1 : Nat) : Int) := by omega
      by_cases hz : l.getD j 0 = 0
      · have HS : Hid (trimN l j = trimN l n) := Lib.hid (by rw [← HT.out, trimN, if_pos hz])
        rw [hz] at r1
        clear hz
        go_wp2_with fail
        go_round
        case rel => exact ⟨j, by omega, by go_num, HS.out⟩
        case measure => simp [intOf]
      · have HE : Hid (trimN l n = j + 1) := Lib.hid (by rw [← HT.out, trimN, if_neg hz])
        obtain ⟨y, hy⟩ : ∃ y : Int, y = ((l.getD j 0 : Nat) : Int) := ⟨_, rfl⟩
        rw [← hy] at r1
        have hy0 : (y == 0) = false := by rw [hy]; simpa using hz
        have hsl := slice_pre (P := Try.prog) (t := 25) (sz := 1) Try.underlying25 Try.sizeOf47 (some ⟨b1, o1, none⟩) n ((j + 1 : Nat) : Int) (j + 1) c rfl (by omega)
        clear hz hy
        go_wp2_with fail
        go_ret
        exact ⟨by rw [HE.out]; rfl, rfl⟩
theorem info_u32e : (Try.prog.info? 47).map (fun i => (i.zero, i.size, i.bytes)) = some (some (.int .u32 0), 1, 4) := by kernel_rfl
theorem make_nat (w : World) (c : Nat) (hc : c ≤ 1000000) : (Instr.makeSlice 25 (.int .i64 c) (.int .i64 c)).run Try.prog w = .ok (.slice (some ⟨w.heap.size, 0, none⟩) c c) (w.alloc (.cells (Array.replicate c (.int .u32 0)) 47)) := by
  obtain ⟨i, hi, hz, hs, hb⟩ := info_parts info_u32e
  have h := run_make (P := Try.prog) w _ _ i _ Try.underlying25 hi hz .i64 .i64 c c (by omega) (by omega) (by rw [hb]; omega) (by omega)
  rw [hs] at h
  simpa [madeCells_one, Value.cells] using h
/-- A call that returns a new number. -/
def RetLim (w : World) (l : List Nat) (e : Ending) (w' : World) : Prop := ∃ A n c, e = .returned (.slice A n c) ∧ n = l.length ∧ n ≤ c ∧ w'.ownsRow w.heap.size 47 1 (.slice A n c) n (limC l) ∧ Below w.heap.size w w'
theorem own_lim {w : World} {g base n : Nat} {cs : List Value} {t : TypeId} (h : w.heap[g]? = some (.cells cs.toArray t (0, 0))) (hn : cs.length = n) (hm : n ≤ 1099511627776) (hb : base ≤ g) : w.ownsRow base t 1 (.slice (some ⟨g, 0, none⟩) n n) n cs :=
  ⟨by simp [hn], .inr ⟨g, n, cs.toArray, rfl, hb, h, Nat.le_refl _, by unfold maxLen; omega, by simp [hn], by rw [List.take_of_length_le (by simp [hn])]⟩⟩
set_option maxHeartbeats 2000000 in
theorem clone_any (A : Option Addr) (n c : Nat) (l : List Nat) (w : World) (hn : n ≤ 100000) (hc : n ≤ c) (h : Rd w w.heap.size 1 A n (limC l)) :
    Calls Try.prog 14 #[.slice A n c] w (RetLim w (trimL l)) := by
  have hl : l.length = n := by have := h.1; simpa using this
  have hk := trimN_le l n
  obtain ⟨k, hkk⟩ : ∃ k, k = trimN l n := ⟨_, rfl⟩
  rw [← hkk] at hk
  have hp := h.pre hk
  have htl : trimL l = l.take k := by unfold trimL; rw [hl, hkk]
  have hmk := fun w => make_nat w k (by omega)
  have h2 := hp.alloc (Nat.le_refl _) (.cells (Array.replicate k (.int .u32 0)) 47)
  have hcl : (limC (l.take k)).length = Nat.min k k := by
    have h0 : Nat.min k k = k := Nat.min_self k
    rw [h0, List.length_map, List.length_take]; omega
  have H := Lib.hid h; have H2 := Lib.hid h2; have HT := Lib.hid htl; have HKK := Lib.hid hkk
  obtain ⟨cs, hcs⟩ : ∃ cs, cs = limC (l.take k) := ⟨_, rfl⟩
  rw [← hcs] at hcl
  have HCS := Lib.hid hcs
  have hpos : 0 < cs.length → ∃ ad, A = some ad ∧ ∀ j v, cs[j]? = some v → (w.alloc (.cells (Array.replicate k (.int .u32 0)) 47)).cell? (ad.add j) = some v := fun h0 => by
    obtain ⟨b, off, hA, _, hcc⟩ := H2.out.2 (by have := hcl; have h1 : Nat.min k k = k := Nat.min_self k; omega)
    exact ⟨_, hA, fun j v hj => by rw [addr_add]; exact hcc j v (by rw [← HCS.out]; exact hj)⟩
  have hfit : 0 + cs.length ≤ (List.replicate k (Value.int .u32 0)).length := by
    have h1 : Nat.min k k = k := Nat.min_self k
    rw [List.length_replicate]; omega
  have hone : ∀ v ∈ cs, v.oneCell' = true := by rw [hcs]; exact oneCell_map (fun _ => rfl)
  have HP := Lib.hid hpos; have HF := Lib.hid hfit; have HO := Lib.hid hone; have HCL := Lib.hid hcl
  have hn2 : k ≤ 100000 := by omega
  have hL : Hid (l.length = n) := Lib.hid hl
  clear hpos hfit hone hcs hcl htl hp h2 hkk h hl
  go_enter Try.func14, Try.ntmps14
  go_wp2_with fail
  refine (trim_any A n c w.heap.size l _ (by omega) hc H.out).mono ?_
  rintro e w' ⟨rfl, rfl⟩
  rw [← HKK.out]
  go_wp2_with (with_reducible refine wpList_copy_splice rfl _ _ _ _ rfl 47 (by kernel_rfl) (by kernel_rfl) _ _ _ _ _ _ rfl rfl w.heap.size 0 (List.replicate k (.int .u32 0)) 47 (by simpa using heap_alloc_new w (.cells (Array.replicate k (.int .u32 0)) 47)) cs HCL.out (fun h0 => ⟨rfl, HP.out h0⟩) HF.out HO.out w.heap.size w ((Below.refl _ _).alloc (Nat.le_refl _) _) (Nat.le_refl _) ?_; intro w2 HG hb2)
  go_ret
  have hg := HG.out
  have hcl2 : cs.length = k := by have h1 := HCL.out; have h2 : Nat.min k k = k := Nat.min_self k; omega
  have e : splice (List.replicate k (Value.int .u32 0)) 0 cs = cs := by
    unfold splice
    rw [List.take_zero, List.nil_append, Nat.zero_add, List.drop_of_length_le (by rw [List.length_replicate, hcl2]; exact Nat.le_refl _), List.append_nil]
  rw [e] at hg
  refine ⟨_, k, k, rfl, by rw [HT.out, List.length_take, hL.out]; omega, Nat.le_refl _, ?_, hb2⟩
  rw [HT.out, ← HCS.out]
  exact own_lim hg hcl2 (by omega) (Nat.le_refl _)
/-- Of. -/
def ofL (v : Nat) : List Nat := trimL [v % 4294967296, v / 4294967296 % 4294967296]
theorem ofL_val {v : Nat} (h : v < 18446744073709551616) : valL (ofL v) = v := by
  unfold ofL; rw [trimL_val]; simp [valL]; omega
theorem ofL_limbs (v : Nat) : Limbs (ofL v) := trimL_limbs (fun x hx => by simp at hx; rcases hx with rfl | rfl <;> omega)
set_option maxHeartbeats 1000000 in
theorem Of_any (v : Nat) (w : World) (hv : v < 18446744073709551616) : Calls Try.prog 5 #[.int .u64 v] w (RetLim w (ofL v)) := by
  have e1 : IntKind.u32.wrap (v : Int) = ((v % 4294967296 : Nat) : Int) := by rw [IntKind.wrap_u32]; omega
  have e2 : IntKind.u32.wrap ((v : Int) / 4294967296) = ((v / 4294967296 % 4294967296 : Nat) : Int) := by rw [IntKind.wrap_u32]; omega
  have HRD : Hid (Rd (w.alloc (.cells #[.int .u32 ((v % 4294967296 : Nat) : Int), .int .u32 ((v / 4294967296 % 4294967296 : Nat) : Int)] 47)) (w.alloc (.cells #[.int .u32 ((v % 4294967296 : Nat) : Int), .int .u32 ((v / 4294967296 % 4294967296 : Nat) : Int)] 47)).heap.size 1 (some ⟨w.heap.size, 0, none⟩) 2 (limC [v % 4294967296, v / 4294967296 % 4294967296])) := Lib.hid (by
    have := Rd.new w #[.int .u32 ((v % 4294967296 : Nat) : Int), .int .u32 ((v / 4294967296 % 4294967296 : Nat) : Int)] 47 1 2 rfl
    simpa using this)
  obtain ⟨a, ha⟩ : ∃ a : Int, a = ((v % 4294967296 : Nat) : Int) := ⟨_, rfl⟩
  obtain ⟨b, hb⟩ : ∃ b : Int, b = ((v / 4294967296 % 4294967296 : Nat) : Int) := ⟨_, rfl⟩
  rw [← ha] at e1; rw [← hb] at e2
  rw [← ha, ← hb] at HRD
  clear ha hb
  go_enter Try.func5, Try.ntmps5
  go_wp2_with fail
  refine (clone_any (some ⟨w.heap.size, 0, none⟩) 2 2 _ _ (by omega) (Nat.le_refl _) HRD.out).mono ?_
  rintro e w2 ⟨A, n, c, rfl, hn, hc, hown, hb⟩
  have HN := Lib.hid hn; have HO := Lib.hid hown
  clear hn hown
  go_wp2_with fail
  go_ret
  exact ⟨A, n, c, rfl, HN.out, hc, ownsRow_mono HO.out (by simp), ((Below.refl _ _).alloc (Nat.le_refl _) _).trans (hb.mono (by simp))⟩
#print axioms Of_any
end Go.Proofs.Ytncjmndiafgaaaa
/- The contracts of order, plus, minus. Conditions: as each statement says. -/
namespace Go.Proofs.Ytncjmndiafgaaaa
open Go.RowKit
set_option linter.unusedVariables false
set_option maxHeartbeats 4000000 in
/-- order, of any numbers. -/
theorem norder_any (A A' : Option Addr) (n c n' c' : Nat) (a b : List Nat) (w : World) (hn : n ≤ 100000) (hn' : n' ≤ 100000) (hc : n ≤ c) (hc' : n' ≤ c') (ha : Limbs a) (hb : Limbs b) (h : Rd w w.heap.size 1 A n (limC a)) (h' : Rd w w.heap.size 1 A' n' (limC b)) :
    Calls Try.prog 18 #[.slice A n c, .slice A' n' c'] w fun e w' => e = .returned (.int .i64 (ordI (valL a) (valL b))) ∧ Qw w w' := by
  have hl : a.length = n := by have := h.1; simpa using this
  have hl' : b.length = n' := by have := h'.1; simpa using this
  obtain ⟨k, hk⟩ : ∃ k, k = trimN a n := ⟨_, rfl⟩
  obtain ⟨k', hk'⟩ : ∃ k, k = trimN b n' := ⟨_, rfl⟩
  have hkn : k ≤ n := by rw [hk]; exact trimN_le _ _
  have hkn' : k' ≤ n' := by rw [hk']; exact trimN_le _ _
  have ta : a.take k = trimL a := by unfold trimL; rw [hl, hk]
  have tb : b.take k' = trimL b := by unfold trimL; rw [hl', hk']
  have hp := h.pre hkn
  have hp' := h'.pre hkn'
  have lx := trimL_len a; have ly := trimL_len b
  rw [hl, ← hk] at lx; rw [hl', ← hk'] at ly
  rw [ta] at hp; rw [tb] at hp'
  have HVA := Lib.hid (trimL_val a); have HVB := Lib.hid (trimL_val b)
  have HXL := Lib.hid (trimL_limbs ha); have HYL := Lib.hid (trimL_limbs hb); have HXN := Lib.hid (trimL_nrm a); have HYN := Lib.hid (trimL_nrm b)
  generalize trimL a = x at *
  generalize trimL b = y at *
  have H := Lib.hid h; have H' := Lib.hid h'; have HP := Lib.hid hp; have HP' := Lib.hid hp'; have HK := Lib.hid hk; have HK' := Lib.hid hk'; have HLX := Lib.hid lx; have HLY := Lib.hid ly
  obtain ⟨O, hO⟩ : ∃ O, O = ordI (valL a) (valL b) := ⟨_, rfl⟩
  rw [← HVA.out, ← HVB.out] at hO
  rw [show ordI (valL a) (valL b) = O by rw [hO, HVA.out, HVB.out]]
  have HO := Lib.hid hO
  clear h h' hp hp' hk hk' lx ly ta tb ha hb hl hl' hO HVA HVB
  go_enter Try.func18, Try.ntmps18
  go_wp2_with fail
  refine (trim_any A n c w.heap.size a _ (by omega) hc H.out).mono ?_
  rintro e w' ⟨rfl, rfl⟩
  rw [← HK.out]
  go_wp2_with fail
  refine (trim_any A' n' c' w.heap.size b _ (by omega) hc' H'.out).mono ?_
  rintro e w' ⟨rfl, rfl⟩
  rw [← HK'.out]
  rcases Nat.lt_trichotomy k k' with g | g | g
  · have gi : (k : Int) < (k' : Int) := by omega
    have HE : Hid (O = -1) := Lib.hid (by
      rw [HO.out]; unfold ordI; rw [if_pos (len_lt HXL.out HYN.out (by rw [HLX.out, HLY.out]; exact g))])
    clear g
    go_wp2_with fail
    go_ret
    exact ⟨by rw [HE.out]; rfl, Qw.refl _⟩
  · subst g
    have gi : ¬ ((k : Int) < (k : Int)) := by omega
    go_wp2_with fail
    go_loopw [5] (fun i wr => ∃ (j : Nat) (I : Int), j ≤ k ∧ i = .int .i64 I ∧ I = (j : Int) - 1 ∧ x.drop j = y.drop j ∧ Qw w wr) (fun i _ => (intOf i + 1).toNat)
    case atStart => exact ⟨k, (k : Int) - 1, Nat.le_refl _, rfl, rfl, by rw [List.drop_of_length_le (by rw [HLX.out]; exact Nat.le_refl _), List.drop_of_length_le (by rw [HLY.out]; exact Nat.le_refl _)], Qw.refl _⟩
    case round =>
      obtain ⟨j, I, hj, rfl, hI, hd, hq⟩ := hrel
      obtain ⟨wa, rfl⟩ : ∃ z : World, z = wr := ⟨_, rfl⟩
      have HD := Lib.hid hd; have HQ := Lib.hid hq
      clear hd
      rcases Nat.eq_zero_or_pos j with h0 | h0
      · subst h0
        have hI1 : I = -1 := by omega
        subst hI1
        have HE : Hid (O = 0) := Lib.hid (by
          have e := HD.out
          rw [List.drop_zero, List.drop_zero] at e
          rw [HO.out, e]; unfold ordI; rw [if_neg (Nat.lt_irrefl _), if_neg (Nat.lt_irrefl _)])
        clear hI hq
        go_wp2_with fail
        go_ret
        exact ⟨by rw [HE.out]; rfl, HQ.out⟩
      · obtain ⟨p, rfl⟩ : ∃ p, j = p + 1 := ⟨j - 1, by omega⟩
        obtain rfl : I = (p : Int) := by omega
        have hpk : p < k := by omega
        obtain ⟨b1, o1, rfl, _, r1⟩ := lim_cell (HP.out.q hq) hpk
        obtain ⟨b2, o2, rfl, _, r2⟩ := lim_cell (HP'.out.q hq) hpk
        have hpi : (p : Int) < (k : Int) := by omega
        have hp0 : (0 : Int) ≤ (p : Int) := by omega
        have HTL : Hid (x.getD p 0 < y.getD p 0 → valL x < valL y) := Lib.hid (top_lt HXL.out (by rw [HLX.out]; exact hpk) (by rw [HLY.out]; exact hpk) HD.out)
        have HTG : Hid (y.getD p 0 < x.getD p 0 → valL y < valL x) := Lib.hid (top_lt HYL.out (by rw [HLY.out]; exact hpk) (by rw [HLX.out]; exact hpk) HD.out.symm)
        have HTE : Hid (x.getD p 0 = y.getD p 0 → x.drop p = y.drop p) := Lib.hid (fun e => by
          have h1 : p < x.length := by rw [HLX.out]; exact hpk
          have h2 : p < y.length := by rw [HLY.out]; exact hpk
          rw [List.drop_eq_getElem_cons h1, List.drop_eq_getElem_cons h2, HD.out]
          rw [List.getD_eq_getElem?_getD, List.getElem?_eq_getElem h1, List.getD_eq_getElem?_getD, List.getElem?_eq_getElem h2] at e
          simp only [Option.getD_some] at e
          rw [e])
        generalize x.getD p 0 = xa at r1 HTL HTG HTE
        generalize y.getD p 0 = ya at r2 HTL HTG HTE
        obtain ⟨u, hu⟩ : ∃ u : Int, u = (xa : Int) := ⟨_, rfl⟩
        obtain ⟨v, hv⟩ : ∃ v : Int, v = (ya : Int) := ⟨_, rfl⟩
        rw [← hu] at r1; rw [← hv] at r2
        rcases Nat.lt_trichotomy xa ya with g | g | g
        · have c1 : (u != v) = true := by rw [hu, hv]; simpa using (by omega : ¬ (xa : Int) = ya)
          have c2 : u < v := by omega
          have HE : Hid (O = -1) := Lib.hid (by rw [HO.out]; unfold ordI; rw [if_pos (HTL.out g)])
          clear hI hq hu hv g
          go_wp2_with fail
          go_region
          go_wp2_with fail
          go_region
          go_wp2_with fail
          go_ret
          exact ⟨by rw [HE.out]; rfl, HQ.out.drew.drew⟩
        · have c1 : (u != v) = false := by rw [hu, hv, g]; simp
          have HE := Lib.hid (HTE.out g)
          clear hI hq hu hv g
          go_wp2_with fail
          go_region
          go_wp2_with fail
          go_roundw
          case rel => exact ⟨p, (p : Int) - 1, by omega, rfl, rfl, HE.out, HQ.out.drew⟩
          case measure => simp [intOf]
        · have c1 : (u != v) = true := by rw [hu, hv]; simpa using (by omega : ¬ (xa : Int) = ya)
          have c2 : ¬ u < v := by omega
          have HE : Hid (O = 1) := Lib.hid (by
            have h1 := HTG.out g
            rw [HO.out]; unfold ordI; rw [if_neg (by omega), if_pos h1])
          clear hI hq hu hv g
          go_wp2_with fail
          go_region
          go_wp2_with fail
          go_region
          go_wp2_with fail
          go_ret
          exact ⟨by rw [HE.out]; rfl, HQ.out.drew.drew⟩
  · have gi : ¬ (k : Int) < (k' : Int) := by omega
    have gi2 : (k' : Int) < (k : Int) := by omega
    have HE : Hid (O = 1) := Lib.hid (by
      have h1 := len_lt HYL.out HXN.out (by rw [HLX.out, HLY.out]; exact g)
      rw [HO.out]; unfold ordI; rw [if_neg (by omega), if_pos h1])
    clear g
    go_wp2_with fail
    go_ret
    exact ⟨by rw [HE.out]; rfl, Qw.refl _⟩
#print axioms norder_any
end Go.Proofs.Ytncjmndiafgaaaa
/- The contracts of plus and minus. Conditions: as each statement says. -/
namespace Go.Proofs.Ytncjmndiafgaaaa
open Go.RowKit
set_option linter.unusedVariables false
/-- A call that returns a new number by its value. -/
def RetVal (w : World) (v : Nat) (e : Ending) (w' : World) : Prop := ∃ l, Limbs l ∧ Nrm l ∧ valL l = v ∧ RetLim w l e w'
theorem own_pre {w : World} {base g N m c : Nat} {t : TypeId} {xs : List Value} (h : w.ownsRow base t 1 (.slice (some ⟨g, 0, none⟩) N c) N xs) (hm : m ≤ N) : w.ownsRow base t 1 (.slice (some ⟨g, 0, none⟩) m c) m (xs.take m) := by
  have hl : xs.length = N := by have := h.1; omega
  refine ⟨by rw [List.length_take, hl, Nat.mul_one]; omega, ?_⟩
  rcases h.2 with ⟨h1, _⟩ | ⟨g', cap, cur, hv, hb, hg, h1, h2, h3, h4⟩
  · cases h1
  · injection hv with e1 _ e3
    injection e1 with e1
    injection e1 with e1 _ _
    subst e1; subst e3
    refine .inr ⟨g, c, cur, rfl, hb, hg, by omega, h2, h3, ?_⟩
    rw [← h4, List.take_take]
    congr 1
    omega
/-- Limbs, filled up to a place. -/
def padN (l : List Nat) (n : Nat) : List Nat := l ++ List.replicate (n - l.length) 0
theorem padN_set (l : List Nat) (n u : Nat) (h : l.length < n) : (padN l n).set l.length u = padN (l ++ [u]) n := by
  unfold padN
  rw [List.set_append_right _ _ (Nat.le_refl _), Nat.sub_self, show n - l.length = (n - (l.length + 1)) + 1 by omega, List.replicate_succ, List.set_cons_zero, List.length_append, List.append_assoc]; rfl
theorem padN_full (l : List Nat) (n : Nat) (h : n ≤ l.length) : padN l n = l := by
  unfold padN; rw [show n - l.length = 0 by omega]; simp
theorem val_take (a : List Nat) (k : Nat) : valL (a.take (k + 1)) = valL (a.take k) + 4294967296 ^ k * a.getD k 0 := by
  by_cases h : k < a.length
  · rw [take_snoc _ _ h, valL_snoc, List.length_take, Nat.min_eq_left (by omega), List.getD_eq_getElem?_getD, List.getElem?_eq_getElem h]; rfl
  · rw [List.take_of_length_le (by omega), List.take_of_length_le (by omega), List.getD_eq_getElem?_getD, List.getElem?_eq_none (by omega)]; simp
theorem plus_step {o a b : List Nat} {k cr s : Nat} (hk : o.length = k) (h : valL o + 4294967296 ^ k * cr = valL (a.take k) + valL (b.take k)) (hs : s = cr + a.getD k 0 + b.getD k 0) :
    valL (o ++ [s % 4294967296]) + 4294967296 ^ (k + 1) * (s / 4294967296) = valL (a.take (k + 1)) + valL (b.take (k + 1)) := by
  rw [valL_snoc, hk, val_take, val_take, Nat.pow_succ]
  have e : 4294967296 ^ k * s = 4294967296 ^ k * (s % 4294967296) + 4294967296 ^ k * 4294967296 * (s / 4294967296) := by
    rw [Nat.mul_assoc, ← Nat.mul_add]
    congr 1
    omega
  have e2 : 4294967296 ^ k * s = 4294967296 ^ k * cr + 4294967296 ^ k * a.getD k 0 + 4294967296 ^ k * b.getD k 0 := by
    rw [hs, Nat.mul_add, Nat.mul_add]
  omega
set_option maxRecDepth 100000 in
set_option maxHeartbeats 8000000 in
theorem plus_any (A A' : Option Addr) (n c n' c' : Nat) (a b : List Nat) (w : World) (hn : n ≤ 90000) (hn' : n' ≤ 90000) (ha : Limbs a) (hb : Limbs b) (h : Rd w w.heap.size 1 A n (limC a)) (h' : Rd w w.heap.size 1 A' n' (limC b)) :
    Calls Try.prog 44 #[.slice A n c, .slice A' n' c'] w (RetVal w (valL a + valL b)) := by
  have hl : a.length = n := by have := h.1; simpa using this
  have hl' : b.length = n' := by have := h'.1; simpa using this
  obtain ⟨N, hN⟩ : ∃ N, N = max n n' + 1 := ⟨_, rfl⟩
  have hN2 : N ≤ 100000 := by omega
  have hmk := fun w => make_nat w N (by omega)
  have H := Lib.hid h; have H' := Lib.hid h'; have HL := Lib.hid hl; have HL' := Lib.hid hl'; have HA := Lib.hid ha; have HB := Lib.hid hb; have HN := Lib.hid hN
  have hmk3 : ∀ w, (Instr.makeSlice 25 (.int .i64 (max (n : Int) (n' : Int) + 1)) (.int .i64 (max (n : Int) (n' : Int) + 1))).run Try.prog w = .ok (.slice (some ⟨w.heap.size, 0, none⟩) N N) (w.alloc (.cells (Array.replicate N (.int .u32 0)) 47)) := by
    rw [show max (n : Int) (n' : Int) + 1 = (N : Int) by omega]; exact hmk
  clear hmk
  have hcs : (¬ (n : Int) < (n' : Int) ∧ ¬ (n' : Int) < (n : Int) ∧ max (n : Int) (n' : Int) = (n : Int)) ∨ ((n : Int) < (n' : Int) ∧ max (n : Int) (n' : Int) = (n' : Int)) ∨ ((n' : Int) < (n : Int) ∧ max (n : Int) (n' : Int) = (n : Int)) := by omega
  clear h h' hl hl' ha hb hN
  rcases hcs with ⟨g1, g2, g3⟩ | ⟨g1, g3⟩ | ⟨g1, g3⟩
  all_goals
    rw [g3] at hmk3
    clear g3
    go_enter Try.func44, Try.ntmps44
    go_wp2_with fail
    clear hmk3
    have hown := own_new w (Array.replicate N (.int .u32 0)) 47 N (by simp) (by omega)
    have HO0 : Hid ((w.alloc (.cells (Array.replicate N (.int .u32 0)) 47)).ownsRow w.heap.size 47 1 (.slice (some ⟨w.heap.size, 0, none⟩) N N) N (limC (padN [] N))) := Lib.hid (by simpa [padN] using hown)
    have HAL : Hid (Below w.heap.size w (w.alloc (.cells (Array.replicate N (.int .u32 0)) 47))) := Lib.hid ((Below.refl _ _).alloc (Nat.le_refl _) _)
    clear hown
    generalize w.alloc (.cells (Array.replicate N (.int .u32 0)) 47) = w1 at HO0 HAL ⊢
    go_loopw [6, 17] (fun cv i wr => ∃ (k cr : Nat) (o : List Nat) (cI : Int), k ≤ N ∧ i = .int .i64 k ∧ cv = .int .u64 cI ∧ cI = cr ∧ cr ≤ 1 ∧ o.length = k ∧ Limbs o ∧ valL o + 4294967296 ^ k * cr = valL (a.take k) + valL (b.take k) ∧ wr.ownsRow w.heap.size 47 1 (.slice (some ⟨w.heap.size, 0, none⟩) N N) N (limC (padN o N)) ∧ Below w.heap.size w wr) (fun _ i _ => N - (intOf i).toNat)
    case atStart => exact ⟨0, 0, [], 0, Nat.zero_le _, rfl, rfl, rfl, by omega, rfl, fun x hx => by simp at hx, by simp [valL], HO0.out, HAL.out⟩
    case round =>
      obtain ⟨k, cr, o, cI, hk, rfl, rfl, hcI, hcr, hol, hlo, hval, hown, hbw⟩ := hrel
      obtain ⟨wa, rfl⟩ : ∃ z : World, z = wr := ⟨_, rfl⟩
      have HO := Lib.hid hown; have HBW := Lib.hid hbw; have HLO := Lib.hid hlo; have HV := Lib.hid hval; have HOL := Lib.hid hol
      clear hown hbw hlo hval HO0 HAL
      by_cases hlt : k < N
      · have hki : (k : Int) < (N : Int) := by omega
        have la := HA.out.getD k; have lb := HB.out.getD k
        obtain ⟨av, hav⟩ : ∃ av : Int, av = ((a.getD k 0 : Nat) : Int) := ⟨_, rfl⟩
        obtain ⟨bv, hbv⟩ : ∃ bv : Int, bv = ((b.getD k 0 : Nat) : Int) := ⟨_, rfl⟩
        have ha0 : 0 ≤ av := by omega
        have ha1 : av ≤ 4294967295 := by omega
        have hb0 : 0 ≤ bv := by omega
        have hb1 : bv ≤ 4294967295 := by omega
        have hc0 : 0 ≤ cI := by omega
        have hc1 : cI ≤ 1 := by omega
        obtain ⟨s, hs⟩ : ∃ s, s = cr + a.getD k 0 + b.getD k 0 := ⟨_, rfl⟩
        have hsI : cI + av + bv = (s : Int) := by omega
        have hs2 : s ≤ 8589934591 := by omega
        have HST := Lib.hid (plus_step (a := a) (b := b) HOL.out HV.out hs)
        have HCR : Hid (s / 4294967296 ≤ 1) := Lib.hid (by omega)
        obtain ⟨lo, hlo⟩ : ∃ lo : Int, lo = ((s % 4294967296 : Nat) : Int) := ⟨_, rfl⟩
        have hwr : IntKind.u32.wrap (cI + av + bv) = lo := by rw [hsI, IntKind.wrap_u32, hlo]; omega
        have hop : o.length < N := by rw [hol]; exact hlt
        have e0 : wa.cell? ⟨w.heap.size, k, none⟩ = some (.int .u32 0) := by
          rw [HO.out.cellAt k (by omega), List.getElem?_map, padN, List.getElem?_append_right (by omega), List.getElem?_replicate, if_pos (by omega)]; rfl
        have f0 := HO.out.frozenAt k
        have hst := (HO.out.stored k (.int .u32 lo)).1
        have e1 : (limC (padN o N)).set k (.int .u32 lo) = limC (padN (o ++ [s % 4294967296]) N) := by
          rw [← padN_set o N _ hop, hol, hlo]
          unfold limC
          rw [List.map_set]
        rw [e1] at hst
        have HSR := Lib.hid hst; have HBS := Lib.hid (HBW.out.setCell (p := ⟨w.heap.size, k, none⟩) (Nat.le_refl _) (.int .u32 lo))
        have HL2 : Hid ((o ++ [s % 4294967296]).length = k + 1) := Lib.hid (by simp [hol])
        have HLB : Hid (Limbs (o ++ [s % 4294967296])) := Lib.hid (HLO.out.snoc (Nat.mod_lt _ (by decide)))
        have HDV : Hid ((cI + av + bv) / 4294967296 = ((s / 4294967296 : Nat) : Int)) := Lib.hid (by rw [hsI]; omega)
        have HAV := Lib.hid hav; have HBV := Lib.hid hbv
        clear hst e1 hop hol hcr hcI hs hlo hsI hav hbv
        have hcase : ((k : Int) < (n : Int) ∧ (∃ b1 o1, A = some ⟨b1, o1, none⟩ ∧ wa.cell? ⟨b1, o1 + k, none⟩ = some (.int .u32 av))) ∨ (¬ (k : Int) < (n : Int) ∧ av = 0) := by
          by_cases hkn : k < n
          · obtain ⟨b1, o1, hA, _, r1⟩ := lim_cell (H.out.below HBW.out) hkn
            exact .inl ⟨by omega, b1, o1, hA, by rw [r1, HAV.out]⟩
          · refine .inr ⟨by omega, ?_⟩
            rw [HAV.out, List.getD_eq_getElem?_getD, List.getElem?_eq_none (by rw [HL.out]; omega)]; rfl
        have hcase2 : ((k : Int) < (n' : Int) ∧ (∃ b1 o1, A' = some ⟨b1, o1, none⟩ ∧ wa.cell? ⟨b1, o1 + k, none⟩ = some (.int .u32 bv))) ∨ (¬ (k : Int) < (n' : Int) ∧ bv = 0) := by
          by_cases hkn : k < n'
          · obtain ⟨b1, o1, hA, _, r1⟩ := lim_cell (H'.out.below HBW.out) hkn
            exact .inl ⟨by omega, b1, o1, hA, by rw [r1, HBV.out]⟩
          · refine .inr ⟨by omega, ?_⟩
            rw [HBV.out, List.getD_eq_getElem?_getD, List.getElem?_eq_none (by rw [HL'.out]; omega)]; rfl
        clear la lb
        rcases hcase with ⟨k1, b1, o1, rfl, r1⟩ | ⟨k1, rfl⟩ <;> rcases hcase2 with ⟨k2, b2, o2, rfl, r2⟩ | ⟨k2, rfl⟩
        all_goals first | (exfalso; omega) | skip
        all_goals
          (try simp only [Int.add_zero] at hwr HDV)
          go_wp2_with fail
          go_roundw
          case rel => exact ⟨k + 1, _, _, _, hlt, by go_num, rfl, HDV.out, HCR.out, HL2.out, HLB.out, HST.out, HSR.out, HBS.out⟩
          case measure => simp [intOf]; omega
      · have hki : ¬ (k : Int) < (N : Int) := by omega
        obtain rfl : k = N := by omega
        have hcz : cr = 0 := by
          have h1 := HV.out
          rw [List.take_of_length_le (by have := HN.out; have := HL.out; omega), List.take_of_length_le (by have := HN.out; have := HL'.out; omega)] at h1
          have h2 := valL_lt HA.out
          have h3 := valL_lt HB.out
          have h4 : 4294967296 ^ a.length ≤ 4294967296 ^ (k - 1) := Nat.pow_le_pow_right (by decide) (by have := HN.out; have := HL.out; omega)
          have h5 : 4294967296 ^ b.length ≤ 4294967296 ^ (k - 1) := Nat.pow_le_pow_right (by decide) (by have := HN.out; have := HL'.out; omega)
          have h6 : 4294967296 ^ k = 4294967296 ^ (k - 1) * 4294967296 := by rw [← Nat.pow_succ]; congr 1; have := HN.out; omega
          have h7 : 0 < 4294967296 ^ (k - 1) := Nat.pow_pos (by decide)
          rcases Nat.eq_zero_or_pos cr with h | h
          · exact h
          · obtain rfl : cr = 1 := by omega
            generalize 4294967296 ^ (k - 1) = z at *
            omega
        have HVV : Hid (valL o = valL a + valL b) := Lib.hid (by
          have h1 := HV.out
          rw [List.take_of_length_le (by have := HN.out; have := HL.out; omega), List.take_of_length_le (by have := HN.out; have := HL'.out; omega), hcz] at h1
          omega)
        have HOF : Hid (wa.ownsRow w.heap.size 47 1 (.slice (some ⟨w.heap.size, 0, none⟩) k k) k (limC o)) := Lib.hid (by
          have := HO.out
          rwa [padN_full _ _ (by rw [HOL.out]; exact Nat.le_refl _)] at this)
        clear hcI hcr hol
        go_wp2_with fail
        refine (trim_any (some ⟨w.heap.size, 0, none⟩) k k wa.heap.size o _ (by omega) (Nat.le_refl _) (Rd.own HOF.out)).mono ?_
        rintro e w2 ⟨rfl, rfl⟩
        go_wp2_with fail
        go_ret
        have ht : trimL o = o.take (trimN o k) := by unfold trimL; rw [HOL.out]
        refine ⟨trimL o, trimL_limbs HLO.out, trimL_nrm o, by rw [trimL_val, HVV.out], _, trimN o k, k, rfl, by rw [trimL_len, HOL.out], trimN_le _ _, ?_, HBW.out⟩
        have := own_pre HOF.out (trimN_le o k)
        rw [ht, show limC (o.take (trimN o k)) = (limC o).take (trimN o k) from List.map_take]
        exact this
#print axioms plus_any
end Go.Proofs.Ytncjmndiafgaaaa
/- The contract of minus. Conditions: as each statement says. -/
namespace Go.Proofs.Ytncjmndiafgaaaa
open Go.RowKit
set_option linter.unusedVariables false
theorem minus_step {o a b : List Nat} {k br nb lo : Nat} (hk : o.length = k) (h : valL (a.take k) + 4294967296 ^ k * br = valL o + valL (b.take k)) (hs : a.getD k 0 + 4294967296 * nb = lo + b.getD k 0 + br) :
    valL (a.take (k + 1)) + 4294967296 ^ (k + 1) * nb = valL (o ++ [lo]) + valL (b.take (k + 1)) := by
  rw [valL_snoc, hk, val_take, val_take, Nat.pow_succ]
  have e : 4294967296 ^ k * (a.getD k 0 + 4294967296 * nb) = 4294967296 ^ k * (lo + b.getD k 0 + br) := by rw [hs]
  rw [Nat.mul_add, Nat.mul_add, Nat.mul_add, ← Nat.mul_assoc] at e
  omega
set_option maxRecDepth 100000 in
set_option maxHeartbeats 8000000 in
theorem minus_any (A A' : Option Addr) (n c n' c' : Nat) (a b : List Nat) (w : World) (hn : n ≤ 90000) (hn' : n' ≤ n) (ha : Limbs a) (hb : Limbs b) (hab : valL b ≤ valL a) (h : Rd w w.heap.size 1 A n (limC a)) (h' : Rd w w.heap.size 1 A' n' (limC b)) :
    Calls Try.prog 63 #[.slice A n c, .slice A' n' c'] w (RetVal w (valL a - valL b)) := by
  have hl : a.length = n := by have := h.1; simpa using this
  have hl' : b.length = n' := by have := h'.1; simpa using this
  have hmk := fun w => make_nat w n (by omega)
  have H := Lib.hid h; have H' := Lib.hid h'; have HL := Lib.hid hl; have HL' := Lib.hid hl'; have HA := Lib.hid ha; have HB := Lib.hid hb; have HAB := Lib.hid hab
  clear h h' hl hl' ha hb hab
  go_enter Try.func63, Try.ntmps63
  go_wp2_with fail
  clear hmk
  have hown := own_new w (Array.replicate n (.int .u32 0)) 47 n (by simp) (by omega)
  have HO0 : Hid ((w.alloc (.cells (Array.replicate n (.int .u32 0)) 47)).ownsRow w.heap.size 47 1 (.slice (some ⟨w.heap.size, 0, none⟩) n n) n (limC (padN [] n))) := Lib.hid (by simpa [padN] using hown)
  have HAL : Hid (Below w.heap.size w (w.alloc (.cells (Array.replicate n (.int .u32 0)) 47))) := Lib.hid ((Below.refl _ _).alloc (Nat.le_refl _) _)
  clear hown
  generalize w.alloc (.cells (Array.replicate n (.int .u32 0)) 47) = w1 at HO0 HAL ⊢
  go_loopw [6, 14] (fun cv i wr => ∃ (k cr : Nat) (o : List Nat) (cI : Int), k ≤ n ∧ i = .int .i64 k ∧ cv = .int .u64 cI ∧ cI = cr ∧ cr ≤ 1 ∧ o.length = k ∧ Limbs o ∧ valL (a.take k) + 4294967296 ^ k * cr = valL o + valL (b.take k) ∧ wr.ownsRow w.heap.size 47 1 (.slice (some ⟨w.heap.size, 0, none⟩) n n) n (limC (padN o n)) ∧ Below w.heap.size w wr) (fun _ i _ => n - (intOf i).toNat)
  case atStart => exact ⟨0, 0, [], 0, Nat.zero_le _, rfl, rfl, rfl, by omega, rfl, fun x hx => by simp at hx, by simp [valL], HO0.out, HAL.out⟩
  case round =>
    obtain ⟨k, cr, o, cI, hk, rfl, rfl, hcI, hcr, hol, hlo, hval, hown, hbw⟩ := hrel
    obtain ⟨wa, rfl⟩ : ∃ z : World, z = wr := ⟨_, rfl⟩
    have HO := Lib.hid hown; have HBW := Lib.hid hbw; have HLO := Lib.hid hlo; have HV := Lib.hid hval; have HOL := Lib.hid hol
    clear hown hbw hlo hval HO0 HAL
    by_cases hlt : k < n
    · have hki : (k : Int) < (n : Int) := by omega
      have la := HA.out.getD k; have lb := HB.out.getD k
      obtain ⟨b1, o1, hA1, _, r1⟩ := lim_cell (H.out.below HBW.out) hlt
      obtain ⟨av, hav⟩ : ∃ av : Int, av = ((a.getD k 0 : Nat) : Int) := ⟨_, rfl⟩
      obtain ⟨bv, hbv⟩ : ∃ bv : Int, bv = ((b.getD k 0 : Nat) : Int) := ⟨_, rfl⟩
      rw [← hav] at r1
      have ha0 : 0 ≤ av := by omega
      have ha1 : av ≤ 4294967295 := by omega
      have hb0 : 0 ≤ bv := by omega
      have hb1 : bv ≤ 4294967295 := by omega
      have hc0 : 0 ≤ cI := by omega
      have hc1 : cI ≤ 1 := by omega
      obtain ⟨x1, hx1⟩ : ∃ x1 : Int, x1 = IntKind.u64.wrap (av - cI) := ⟨_, rfl⟩
      obtain ⟨x2, hx2⟩ : ∃ x2 : Int, x2 = IntKind.u64.wrap (x1 - bv) := ⟨_, rfl⟩
      have hx1' : x1 = (av - cI) % 18446744073709551616 := by rw [hx1, IntKind.wrap_u64]
      have hx2' : x2 = (x1 - bv) % 18446744073709551616 := by rw [hx2, IntKind.wrap_u64]
      have hx10 : 0 ≤ x1 := by omega
      have hx11 : x1 ≤ 18446744073709551615 := by omega
      have hx20 : 0 ≤ x2 := by omega
      have hx21 : x2 ≤ 18446744073709551615 := by omega
      obtain ⟨lo, hlo⟩ : ∃ lo : Nat, (lo : Int) = x2 % 4294967296 := ⟨(x2 % 4294967296).toNat, by omega⟩
      obtain ⟨nb, hnb⟩ : ∃ nb : Nat, (nb : Int) = x2 / 9223372036854775808 := ⟨(x2 / 9223372036854775808).toNat, by omega⟩
      have hsum : a.getD k 0 + 4294967296 * nb = lo + b.getD k 0 + cr := by omega
      have HNB : Hid (nb ≤ 1) := Lib.hid (by omega)
      have hlo2 : lo < 4294967296 := by omega
      have HST := Lib.hid (minus_step (a := a) (b := b) HOL.out HV.out hsum)
      obtain ⟨loI, hloI⟩ : ∃ loI : Int, loI = (lo : Int) := ⟨_, rfl⟩
      have hwr : IntKind.u32.wrap x2 = loI := by rw [IntKind.wrap_u32, hloI, hlo]
      have hop : o.length < n := by rw [hol]; exact hlt
      have e0 : wa.cell? ⟨w.heap.size, k, none⟩ = some (.int .u32 0) := by
        rw [HO.out.cellAt k (by omega), List.getElem?_map, padN, List.getElem?_append_right (by omega), List.getElem?_replicate, if_pos (by omega)]; rfl
      have f0 := HO.out.frozenAt k
      have hst := (HO.out.stored k (.int .u32 loI)).1
      have e1 : (limC (padN o n)).set k (.int .u32 loI) = limC (padN (o ++ [lo]) n) := by
        rw [← padN_set o n _ hop, hol, hloI]
        unfold limC
        rw [List.map_set]
      rw [e1] at hst
      have HSR := Lib.hid hst; have HBS := Lib.hid (HBW.out.setCell (p := ⟨w.heap.size, k, none⟩) (Nat.le_refl _) (.int .u32 loI))
      have HL2 : Hid ((o ++ [lo]).length = k + 1) := Lib.hid (by simp [hol])
      have HLB : Hid (Limbs (o ++ [lo])) := Lib.hid (HLO.out.snoc hlo2)
      have HDV : Hid (x2 / 9223372036854775808 = ((nb : Nat) : Int)) := Lib.hid hnb.symm
      have HBV := Lib.hid hbv
      have hw1 := hx1.symm
      have hw2 := hx2.symm
      have HX1 := Lib.hid hx1'; have HX2 := Lib.hid hx2'
      have hcase2 : ((k : Int) < (n' : Int) ∧ (∃ b1 o1, A' = some ⟨b1, o1, none⟩ ∧ wa.cell? ⟨b1, o1 + k, none⟩ = some (.int .u32 bv))) ∨ (¬ (k : Int) < (n' : Int) ∧ x2 = x1) := by
        by_cases hkn : k < n'
        · obtain ⟨b1, o1, hA, _, r1⟩ := lim_cell (H'.out.below HBW.out) hkn
          exact .inl ⟨by omega, b1, o1, hA, by rw [r1, HBV.out]⟩
        · refine .inr ⟨by omega, ?_⟩
          have : bv = 0 := by rw [HBV.out, List.getD_eq_getElem?_getD, List.getElem?_eq_none (by rw [HL'.out]; omega)]; rfl
          omega
      subst hA1
      clear hst e1 hop hol hcr hcI hlo hav hbv hnb hsum hlo2 hloI la lb hx1 hx2 hx1' hx2'
      rcases hcase2 with ⟨k2, b2, o2, rfl, r2⟩ | ⟨k2, hxx⟩
      · go_wp2_with fail
        go_roundw
        case rel => exact ⟨k + 1, nb, _, _, hlt, by go_num, rfl, HDV.out, HNB.out, HL2.out, HLB.out, HST.out, HSR.out, HBS.out⟩
        case measure => simp [intOf]; omega
      · have HXX := Lib.hid hxx
        rw [hxx] at hwr HDV
        clear hxx hw2
        go_wp2_with fail
        go_roundw
        case rel => exact ⟨k + 1, nb, _, _, hlt, by go_num, rfl, HDV.out, HNB.out, HL2.out, HLB.out, HST.out, HSR.out, HBS.out⟩
        case measure => simp [intOf]; omega
    · have hki : ¬ (k : Int) < (n : Int) := by omega
      obtain rfl : k = n := by omega
      have HVV : Hid (valL o = valL a - valL b) := Lib.hid (by
        have h1 := HV.out
        rw [List.take_of_length_le (by have := HL.out; omega), List.take_of_length_le (by have := HL'.out; omega)] at h1
        have h2 := valL_lt HLO.out
        rw [HOL.out] at h2
        have h3 := HAB.out
        rcases Nat.eq_zero_or_pos cr with h | h
        · subst h; omega
        · obtain rfl : cr = 1 := by omega
          omega)
      have HOF : Hid (wa.ownsRow w.heap.size 47 1 (.slice (some ⟨w.heap.size, 0, none⟩) k k) k (limC o)) := Lib.hid (by
        have := HO.out
        rwa [padN_full _ _ (by rw [HOL.out]; exact Nat.le_refl _)] at this)
      clear hcI hcr hol
      go_wp2_with fail
      refine (trim_any (some ⟨w.heap.size, 0, none⟩) k k wa.heap.size o _ (by omega) (Nat.le_refl _) (Rd.own HOF.out)).mono ?_
      rintro e w2 ⟨rfl, rfl⟩
      go_wp2_with fail
      go_ret
      have ht : trimL o = o.take (trimN o k) := by unfold trimL; rw [HOL.out]
      refine ⟨trimL o, trimL_limbs HLO.out, trimL_nrm o, by rw [trimL_val, HVV.out], _, trimN o k, k, rfl, by rw [trimL_len, HOL.out], trimN_le _ _, ?_, HBW.out⟩
      have := own_pre HOF.out (trimN_le o k)
      rw [ht, show limC (o.take (trimN o k)) = (limC o).take (trimN o k) from List.map_take]
      exact this
#print axioms minus_any
end Go.Proofs.Ytncjmndiafgaaaa
/- The contract of times. Conditions: as each statement says. -/
namespace Go.Proofs.Ytncjmndiafgaaaa
open Go.RowKit
set_option linter.unusedVariables false
theorem val_set : ∀ (l : List Nat) (j x : Nat), j < l.length → valL (l.set j x) + 4294967296 ^ j * l.getD j 0 = valL l + 4294967296 ^ j * x
  | [], j, x, h => by simp at h
  | y :: l, 0, x, _ => by simp [valL]; omega
  | y :: l, j + 1, x, h => by
    have ih := val_set l j x (by simpa using h)
    rw [List.set_cons_succ, valL, valL, List.getD_cons_succ, Nat.pow_succ, Nat.mul_comm (4294967296 ^ j) 4294967296, Nat.mul_assoc, Nat.mul_assoc]
    omega
theorem times_step {o b : List Nat} {P x i k cr t : Nat} (hj : i + k < o.length) (h : valL o + 4294967296 ^ (i + k) * cr = P + x * 4294967296 ^ i * valL (b.take k)) (ht : t = cr + (x * b.getD k 0 + o.getD (i + k) 0)) :
    valL (o.set (i + k) (t % 4294967296)) + 4294967296 ^ (i + (k + 1)) * (t / 4294967296) = P + x * 4294967296 ^ i * valL (b.take (k + 1)) := by
  have h1 := val_set o (i + k) (t % 4294967296) hj
  have e1 : 4294967296 ^ (i + (k + 1)) * (t / 4294967296) + 4294967296 ^ (i + k) * (t % 4294967296) = 4294967296 ^ (i + k) * t := by
    rw [show i + (k + 1) = (i + k) + 1 by omega, Nat.pow_succ, Nat.mul_assoc, ← Nat.mul_add]
    congr 1; omega
  have e2 : 4294967296 ^ (i + k) * t = 4294967296 ^ (i + k) * cr + 4294967296 ^ (i + k) * (x * b.getD k 0) + 4294967296 ^ (i + k) * o.getD (i + k) 0 := by
    rw [ht, Nat.mul_add, Nat.mul_add]; omega
  have e3 : x * 4294967296 ^ i * valL (b.take (k + 1)) = x * 4294967296 ^ i * valL (b.take k) + 4294967296 ^ (i + k) * (x * b.getD k 0) := by
    rw [val_take, Nat.mul_add, Nat.pow_add]
    congr 1
    generalize 4294967296 ^ i = u
    generalize 4294967296 ^ k = v
    generalize b.getD k 0 = z
    have q1 : x * u * (v * z) = u * v * (x * z) := by
      rw [Nat.mul_comm x u, Nat.mul_assoc, Nat.mul_assoc, Nat.mul_left_comm x v z]
    rw [q1]
  omega
set_option maxRecDepth 100000 in
set_option maxHeartbeats 8000000 in
theorem ntimes_any (A A' : Option Addr) (n c n' c' : Nat) (a b : List Nat) (w : World) (hn : n ≤ 40000) (hn' : n' ≤ 40000) (ha : Limbs a) (hb : Limbs b) (h : Rd w w.heap.size 1 A n (limC a)) (h' : Rd w w.heap.size 1 A' n' (limC b)) :
    Calls Try.prog 28 #[.slice A n c, .slice A' n' c'] w (RetVal w (valL a * valL b)) := by
  have hl : a.length = n := by have := h.1; simpa using this
  have hl' : b.length = n' := by have := h'.1; simpa using this
  obtain ⟨N, hN⟩ : ∃ N, N = n + n' := ⟨_, rfl⟩
  have hmk : ∀ w, (Instr.makeSlice 25 (.int .i64 ((n : Int) + (n' : Int))) (.int .i64 ((n : Int) + (n' : Int)))).run Try.prog w = .ok (.slice (some ⟨w.heap.size, 0, none⟩) N N) (w.alloc (.cells (Array.replicate N (.int .u32 0)) 47)) := fun w => by
    rw [show (n : Int) + (n' : Int) = (N : Int) by omega]; exact make_nat w N (by omega)
  have H := Lib.hid h; have H' := Lib.hid h'; have HL := Lib.hid hl; have HL' := Lib.hid hl'; have HA := Lib.hid ha; have HB := Lib.hid hb; have HN := Lib.hid hN
  have hN8 : N ≤ 80000 := by omega
  clear h h' hl hl' ha hb hN
  go_enter Try.func28, Try.ntmps28
  go_wp2_with fail
  clear hmk
  have hown := own_new w (Array.replicate N (.int .u32 0)) 47 N (by simp) (by omega)
  have HO0 : Hid ((w.alloc (.cells (Array.replicate N (.int .u32 0)) 47)).ownsRow w.heap.size 47 1 (.slice (some ⟨w.heap.size, 0, none⟩) N N) N (limC (List.replicate N 0))) := Lib.hid (by simpa using hown)
  have HAL : Hid (Below w.heap.size w (w.alloc (.cells (Array.replicate N (.int .u32 0)) 47))) := Lib.hid ((Below.refl _ _).alloc (Nat.le_refl _) _)
  clear hown
  generalize w.alloc (.cells (Array.replicate N (.int .u32 0)) 47) = w1 at HO0 HAL ⊢
  go_loopw [17] (fun i wr => ∃ (k : Nat) (o : List Nat), k ≤ n ∧ i = .int .i64 k ∧ o.length = N ∧ Limbs o ∧ (∀ j, k + n' ≤ j → o.getD j 0 = 0) ∧ valL o = valL (a.take k) * valL b ∧ wr.ownsRow w.heap.size 47 1 (.slice (some ⟨w.heap.size, 0, none⟩) N N) N (limC o) ∧ Below w.heap.size w wr) (fun i _ => n - (intOf i).toNat)
  case atStart => exact ⟨0, List.replicate N 0, Nat.zero_le _, rfl, by simp, Limbs.zeros N, fun j _ => by
      rw [List.getD_eq_getElem?_getD, List.getElem?_replicate]; split <;> rfl, by rw [valL_zeros]; simp [valL], HO0.out, HAL.out⟩
  case round =>
    obtain ⟨i, o, hi, rfl, hol, hlo, hz, hval, hown, hbw⟩ := hrel
    obtain ⟨wa, rfl⟩ : ∃ z : World, z = wr := ⟨_, rfl⟩
    have HO := Lib.hid hown; have HBW := Lib.hid hbw; have HLO := Lib.hid hlo; have HV := Lib.hid hval; have HOL := Lib.hid hol; have HZ := Lib.hid hz
    clear hown hbw hlo hval HO0 HAL hol hz
    by_cases hlt : i < n
    · have hii : (i : Int) < (n : Int) := by omega
      have la := HA.out.getD i
      have HVT := Lib.hid (val_take a i)
      obtain ⟨x, hx⟩ : ∃ x, x = a.getD i 0 := ⟨_, rfl⟩
      rw [← hx] at la HVT
      have HX := Lib.hid hx
      clear hx
      go_wp2_with fail
      go_loopw [7, 22] (fun cv i2 wr => ∃ (k cr : Nat) (o2 : List Nat) (cI : Int), k ≤ n' ∧ i2 = .int .i64 k ∧ cv = .int .u64 cI ∧ cI = cr ∧ cr ≤ 4294967295 ∧ o2.length = N ∧ Limbs o2 ∧ (∀ j, i + n' ≤ j → o2.getD j 0 = 0) ∧ valL o2 + 4294967296 ^ (i + k) * cr = valL (a.take i) * valL b + x * 4294967296 ^ i * valL (b.take k) ∧ wr.ownsRow w.heap.size 47 1 (.slice (some ⟨w.heap.size, 0, none⟩) N N) N (limC o2) ∧ Below w.heap.size w wr) (fun _ i2 _ => n' - (intOf i2).toNat)
      case atStart => exact ⟨0, 0, o, 0, Nat.zero_le _, rfl, rfl, rfl, by omega, HOL.out, HLO.out, HZ.out, by rw [HV.out]; simp [valL], HO.out, HBW.out⟩
      case round =>
        obtain ⟨k, cr, o2, cI, hk, rfl, rfl, hcI, hcr, hol, hlo, hz, hval, hown, hbw⟩ := hrel
        obtain ⟨wb, rfl⟩ : ∃ z : World, z = wr := ⟨_, rfl⟩
        have HO2 := Lib.hid hown; have HBW2 := Lib.hid hbw; have HLO2 := Lib.hid hlo; have HV2 := Lib.hid hval; have HOL2 := Lib.hid hol; have HZ2 := Lib.hid hz
        clear hown hbw hlo hval hol hz
        have hNN := HN.out
        by_cases hlk : k < n'
        · have hki : (k : Int) < (n' : Int) := by omega
          have lb := HB.out.getD k
          have lo3 := HLO2.out.getD (i + k)
          obtain ⟨b1, o1, hA1, _, r1⟩ := lim_cell (H.out.below HBW2.out) hlt
          obtain ⟨b2, o2', hA2, _, r2⟩ := lim_cell (H'.out.below HBW2.out) hlk
          rw [← HX.out] at r1
          have hj : i + k < o2.length := by rw [HOL2.out]; omega
          have hjN : ((i + k : Nat) : Int) < (N : Int) := by omega
          have r3 : wb.cell? ⟨w.heap.size, i + k, none⟩ = some (.int .u32 (o2.getD (i + k) 0 : Nat)) := by
            rw [HO2.out.cellAt (i + k) (by omega), List.getElem?_map, List.getElem?_eq_getElem hj, List.getD_eq_getElem?_getD, List.getElem?_eq_getElem hj]; rfl
          have f3 := HO2.out.frozenAt (i + k)
          obtain ⟨t, ht⟩ : ∃ t, t = cr + (x * b.getD k 0 + o2.getD (i + k) 0) := ⟨_, rfl⟩
          have HST := Lib.hid (times_step (b := b) hj HV2.out ht)
          obtain ⟨av, hav⟩ : ∃ av : Int, av = (x : Int) := ⟨_, rfl⟩
          obtain ⟨bv, hbv⟩ : ∃ bv : Int, bv = ((b.getD k 0 : Nat) : Int) := ⟨_, rfl⟩
          obtain ⟨ov, hov⟩ : ∃ ov : Int, ov = ((o2.getD (i + k) 0 : Nat) : Int) := ⟨_, rfl⟩
          rw [← hav] at r1; rw [← hbv] at r2; rw [← hov] at r3
          have hpm : x * b.getD k 0 ≤ 4294967295 * 4294967295 := Nat.mul_le_mul (by omega) (by omega)
          obtain ⟨pn, hpn⟩ : ∃ pn, pn = x * b.getD k 0 := ⟨_, rfl⟩
          obtain ⟨pv, hpv⟩ : ∃ pv : Int, pv = (pn : Int) := ⟨_, rfl⟩
          rw [← hpn] at hpm ht
          have hp : IntKind.u64.wrap (av * bv) = pv := by
            rw [hav, hbv, ← Int.natCast_mul, ← hpn, IntKind.wrap_u64, hpv]; omega
          have h1 : IntKind.u64.wrap av = av := by rw [IntKind.wrap_u64]; omega
          have h2 : IntKind.u64.wrap bv = bv := by rw [IntKind.wrap_u64]; omega
          have h3 : IntKind.u64.wrap ov = ov := by rw [IntKind.wrap_u64]; omega
          obtain ⟨tv, htv⟩ : ∃ tv : Int, tv = (t : Int) := ⟨_, rfl⟩
          have h4 : IntKind.u64.wrap (pv + ov) = pv + ov := by rw [IntKind.wrap_u64]; omega
          have h5 : IntKind.u64.wrap (cI + (pv + ov)) = tv := by rw [IntKind.wrap_u64]; omega
          have ht0 : 0 ≤ tv := by omega
          have ht1 : tv ≤ 18446744073709551615 := by omega
          have hij : IntKind.i64.wrap ((i : Int) + (k : Int)) = ((i + k : Nat) : Int) := by rw [← Int.natCast_add]; exact i64_small _ (by omega)
          obtain ⟨lo, hlo⟩ : ∃ lo : Int, lo = ((t % 4294967296 : Nat) : Int) := ⟨_, rfl⟩
          have hwr : IntKind.u32.wrap tv = lo := by rw [IntKind.wrap_u32, hlo, htv]; omega
          have HDV : Hid (tv / 4294967296 = ((t / 4294967296 : Nat) : Int)) := Lib.hid (by rw [htv]; omega)
          have HCR : Hid (t / 4294967296 ≤ 4294967295) := Lib.hid (by omega)
          have hst := (HO2.out.drew.stored (i + k) (.int .u32 lo)).1
          have e1 : (limC o2).set (i + k) (.int .u32 lo) = limC (o2.set (i + k) (t % 4294967296)) := by
            rw [hlo]; unfold limC; rw [List.map_set]
          rw [e1] at hst
          have HSR := Lib.hid hst; have HBS := Lib.hid (HBW2.out.drew.setCell (p := ⟨w.heap.size, i + k, none⟩) (Nat.le_refl _) (.int .u32 lo))
          have HL3 : Hid ((o2.set (i + k) (t % 4294967296)).length = N) := Lib.hid (by rw [List.length_set]; exact HOL2.out)
          have HLB : Hid (Limbs (o2.set (i + k) (t % 4294967296))) := Lib.hid (HLO2.out.set (Nat.mod_lt _ (by decide)))
          have HZ3 : Hid (∀ j, i + n' ≤ j → (o2.set (i + k) (t % 4294967296)).getD j 0 = 0) := Lib.hid (fun j hj => by
            rw [List.getD_eq_getElem?_getD, List.getElem?_set, if_neg (by omega), ← List.getD_eq_getElem?_getD]; exact HZ2.out j hj)
          subst hA1; subst hA2
          have hij1 : (i : Int) + (k : Int) < (N : Int) := by omega
          have hij2 : ((i : Int) + (k : Int)).toNat = i + k := by omega
          clear hst e1 hj hlo htv hpv hpn hpm hav hbv hov ht hcr hcI lb lo3
          go_wp2_with fail
          go_region
          clear hp h1 h2 h3 h4 h5 hij
          go_wp2_with fail
          go_roundw
          case rel => exact ⟨k + 1, _, _, _, hlk, by go_num, rfl, HDV.out, HCR.out, HL3.out, HLB.out, HZ3.out, HST.out, HSR.out, HBS.out⟩
          case measure => simp [intOf]; omega
        · have hki : ¬ (k : Int) < (n' : Int) := by omega
          obtain rfl : k = n' := by omega
          have hj : i + k < o2.length := by rw [HOL2.out]; omega
          have hz0 := HZ2.out (i + k) (Nat.le_refl _)
          have r3 : wb.cell? ⟨w.heap.size, i + k, none⟩ = some (.int .u32 0) := by
            rw [HO2.out.cellAt (i + k) (by omega), List.getElem?_map, List.getElem?_eq_getElem hj]
            rw [List.getD_eq_getElem?_getD, List.getElem?_eq_getElem hj] at hz0
            simp only [Option.getD_some] at hz0
            rw [hz0]; rfl
          have f3 := HO2.out.frozenAt (i + k)
          have hwr : IntKind.u32.wrap cI = cI := by rw [IntKind.wrap_u32]; omega
          have hc0 : 0 ≤ cI := by omega
          have hc1 : cI ≤ 4294967295 := by omega
          have hst := (HO2.out.stored (i + k) (.int .u32 cI)).1
          have e1 : (limC o2).set (i + k) (.int .u32 cI) = limC (o2.set (i + k) cr) := by
            rw [hcI]; unfold limC; rw [List.map_set]
          rw [e1] at hst
          have hvs := val_set o2 (i + k) cr hj
          have HVS : Hid (valL (o2.set (i + k) cr) = valL (a.take (i + 1)) * valL b) := Lib.hid (by
            have h1 := HV2.out
            rw [show b.take k = b from List.take_of_length_le (by have := HL'.out; omega)] at h1
            rw [hz0, Nat.mul_zero, Nat.add_zero] at hvs
            rw [hvs, h1, HVT.out, Nat.add_mul, Nat.mul_comm x])
          have HSR := Lib.hid hst; have HBS := Lib.hid (HBW2.out.setCell (p := ⟨w.heap.size, i + k, none⟩) (Nat.le_refl _) (.int .u32 cI))
          have HL3 : Hid ((o2.set (i + k) cr).length = N) := Lib.hid (by rw [List.length_set]; exact HOL2.out)
          have HLB : Hid (Limbs (o2.set (i + k) cr)) := Lib.hid (HLO2.out.set (by omega))
          have HZ3 : Hid (∀ j, i + 1 + k ≤ j → (o2.set (i + k) cr).getD j 0 = 0) := Lib.hid (fun j hj => by
            rw [List.getD_eq_getElem?_getD, List.getElem?_set, if_neg (by omega), ← List.getD_eq_getElem?_getD]; exact HZ2.out j (by omega))
          have hij1 : (i : Int) + (k : Int) < (N : Int) := by omega
          have hij2 : ((i : Int) + (k : Int)).toNat = i + k := by omega
          clear hst e1 hj hz0 hvs hcI hcr
          go_wp2_with fail
          go_roundw
          case rel => exact ⟨i + 1, _, hlt, by go_num, HL3.out, HLB.out, HZ3.out, HVS.out, HSR.out, HBS.out⟩
          case measure => simp [intOf]; omega
    · have hii : ¬ (i : Int) < (n : Int) := by omega
      obtain rfl : i = n := by omega
      have HVV : Hid (valL o = valL a * valL b) := Lib.hid (by
        have h1 := HV.out
        rwa [List.take_of_length_le (by have := HL.out; omega)] at h1)
      go_wp2_with fail
      refine (trim_any (some ⟨w.heap.size, 0, none⟩) N N wa.heap.size o _ (by omega) (Nat.le_refl _) (Rd.own HO.out)).mono ?_
      rintro e w2 ⟨rfl, rfl⟩
      go_wp2_with fail
      go_ret
      have ht : trimL o = o.take (trimN o N) := by unfold trimL; rw [HOL.out]
      refine ⟨trimL o, trimL_limbs HLO.out, trimL_nrm o, by rw [trimL_val, HVV.out], _, trimN o N, N, rfl, by rw [trimL_len, HOL.out], trimN_le _ _, ?_, HBW.out⟩
      have := own_pre HO.out (trimN_le o N)
      rw [ht, show limC (o.take (trimN o N)) = (limC o).take (trimN o N) from List.map_take]
      exact this
#print axioms ntimes_any
end Go.Proofs.Ytncjmndiafgaaaa
/- The contracts of size and bit. Conditions: as each statement says. -/
namespace Go.Proofs.Ytncjmndiafgaaaa
open Go.RowKit
set_option linter.unusedVariables false
/-- sz is how many binary digits v has. -/
def IsSize (v sz : Nat) : Prop := v < 2 ^ sz ∧ (0 < sz → 2 ^ (sz - 1) ≤ v)
theorem IsSize.uniq {v a b : Nat} (h : IsSize v a) (k : IsSize v b) : a = b := by
  rcases Nat.lt_trichotomy a b with g | g | g
  · have h1 := k.2 (by omega)
    have h2 : 2 ^ a ≤ 2 ^ (b - 1) := Nat.pow_le_pow_right (by decide) (by omega)
    have := h.1; omega
  · exact g
  · have h1 := h.2 (by omega)
    have h2 : 2 ^ b ≤ 2 ^ (a - 1) := Nat.pow_le_pow_right (by decide) (by omega)
    have := k.1; omega
theorem two_pow32 (n : Nat) : 4294967296 ^ n = 2 ^ (32 * n) := by rw [Nat.pow_mul]
theorem size_top {l : List Nat} {m j : Nat} (hl : Limbs l) (hm : l.length = m + 1) (h0 : l.getD m 0 / 2 ^ j = 0) (h1 : 0 < j → l.getD m 0 / 2 ^ (j - 1) ≠ 0) (hn : l.getD m 0 ≠ 0) : IsSize (valL l) (32 * m + j) := by
  have e : valL l = valL (l.take m) + 2 ^ (32 * m) * l.getD m 0 := by
    have := val_take l m
    rwa [List.take_of_length_le (by omega), two_pow32] at this
  have hlt := valL_lt (hl.take m)
  rw [List.length_take, Nat.min_eq_left (by omega), two_pow32] at hlt
  generalize l.getD m 0 = x at *
  have hx : x < 2 ^ j := by
    rcases Nat.lt_or_ge x (2 ^ j) with h | h
    · exact h
    · exact absurd h0 (by have := Nat.div_pos h (Nat.pow_pos (by decide)); omega)
  have hj : 0 < j := by
    rcases Nat.eq_zero_or_pos j with h | h
    · subst h; simp at hx; omega
    · exact h
  have hx2 : 2 ^ (j - 1) ≤ x := by
    have := h1 hj
    rcases Nat.lt_or_ge x (2 ^ (j - 1)) with h | h
    · exact absurd (Nat.div_eq_of_lt h) this
    · exact h
  refine ⟨?_, fun _ => ?_⟩
  · rw [e, Nat.pow_add]
    have h2 : 2 ^ (32 * m) * (x + 1) ≤ 2 ^ (32 * m) * 2 ^ j := Nat.mul_le_mul_left _ hx
    rw [Nat.mul_succ] at h2
    omega
  · rw [e, show 32 * m + j - 1 = 32 * m + (j - 1) by omega, Nat.pow_add]
    have h2 := Nat.mul_le_mul_left (2 ^ (32 * m)) hx2
    omega
def SizeP (v n : Nat) (w : World) (e : Ending) (w' : World) : Prop := (∃ sz : Nat, IsSize v sz ∧ sz ≤ 32 * n ∧ e = .returned (.int .i64 sz)) ∧ w = w'
set_option maxHeartbeats 2000000 in
theorem size_of (A : Option Addr) (n c : Nat) (a : List Nat) (w : World) (hn : n ≤ 90000) (hc : n ≤ c) (ha : Limbs a) (h : Rd w w.heap.size 1 A n (limC a)) :
    Calls Try.prog 33 #[.slice A n c] w (SizeP (valL a) n w) := by
  have hl : a.length = n := by have := h.1; simpa using this
  obtain ⟨k, hk⟩ : ∃ k, k = trimN a n := ⟨_, rfl⟩
  have hkn : k ≤ n := by rw [hk]; exact trimN_le _ _
  have hp := h.pre hkn
  have ht : trimL a = a.take k := by unfold trimL; rw [hl, hk]
  have hv := trimL_val a
  have hll := trimL_len a
  rw [hl, ← hk] at hll
  have HNR := Lib.hid (trimL_nrm a); have HLM := Lib.hid (trimL_limbs ha)
  rw [← ht] at hp
  generalize trimL a = x at *
  have H := Lib.hid h; have HP := Lib.hid hp; have HK := Lib.hid hk; have HV := Lib.hid hv; have HLL := Lib.hid hll
  clear h hp hk hv hll ht hl ha
  go_enter Try.func33, Try.ntmps33
  go_wp2_with fail
  refine (trim_any A n c w.heap.size a _ (by omega) hc H.out).mono ?_
  rintro e w' ⟨rfl, rfl⟩
  rw [← HK.out]
  rcases Nat.eq_zero_or_pos k with h0 | h0
  · subst h0
    have HE : Hid (IsSize (valL a) 0) := Lib.hid (by
      have hx : x = [] := List.eq_nil_of_length_eq_zero HLL.out
      rw [← HV.out, hx]; exact ⟨by simp [valL], fun h => absurd h (by omega)⟩)
    go_wp2_with fail
    go_ret
    exact ⟨⟨0, HE.out, by omega, rfl⟩, rfl⟩
  · obtain ⟨m, rfl⟩ : ∃ m, k = m + 1 := ⟨k - 1, by omega⟩
    have hk0 : ((((m + 1 : Nat) : Int)) == 0) = false := by simpa using (by omega : ¬ (((m + 1 : Nat) : Int)) = 0)
    obtain ⟨b1, o1, rfl, _, r1⟩ := lim_cell HP.out (k := m) (by omega)
    have hxl := HLM.out.getD m
    have hx0 : x.getD m 0 ≠ 0 := by
      rcases HNR.out with h | h
      · rw [h] at HLL; exact absurd HLL.out (by simp)
      · rw [HLL.out] at h; exact h
    obtain ⟨t, htt⟩ : ∃ t, t = x.getD m 0 := ⟨_, rfl⟩
    have HTT := Lib.hid htt
    rw [← htt] at r1 hxl hx0
    have HX0 := Lib.hid hx0
    obtain ⟨t0, ht0⟩ : ∃ t0 : Int, t0 = (t : Int) := ⟨_, rfl⟩
    rw [← ht0] at r1
    have HT0 := Lib.hid ht0
    clear htt hx0 ht0
    go_wp2_with fail
    go_loop [3, 4] (fun nv xv => ∃ (j : Nat) (nI xI : Int), j ≤ 32 ∧ nv = .int .i64 nI ∧ xv = .int .u32 xI ∧ nI = (32 * m + j : Nat) ∧ xI = ((t / 2 ^ j : Nat) : Int) ∧ (0 < j → t / 2 ^ (j - 1) ≠ 0)) (fun _ xv => (intOf xv).toNat)
    case atStart => exact ⟨0, _, t0, by omega, rfl, rfl, by simp, by rw [HT0.out]; simp, fun h => absurd h (by omega)⟩
    case round =>
      obtain ⟨j, nI, xI, hj, rfl, rfl, hnI, hxI, hj1⟩ := hrel
      obtain ⟨q, hqd⟩ : ∃ q, q = t / 2 ^ j := ⟨_, rfl⟩
      have hqt : q ≤ t := by rw [hqd]; exact Nat.div_le_self _ _
      rw [← hqd] at hxI
      have HQD := Lib.hid hqd
      have HJ1 := Lib.hid hj1; have HNI := Lib.hid hnI; have HXI := Lib.hid hxI
      have hx1 : 0 ≤ xI := by omega
      have hx2 : xI ≤ 4294967295 := by omega
      have hn1 : 0 ≤ nI := by omega
      have hn2 : nI ≤ 3000000 := by omega
      clear hj1 hnI hqd
      by_cases h0 : xI = 0
      · subst h0
        have HE : Hid (IsSize (valL a) (32 * m + j)) := Lib.hid (by
          rw [← HV.out]
          refine size_top HLM.out HLL.out ?_ ?_ ?_
          · rw [← HTT.out, ← HQD.out]; have := HXI.out; omega
          · rw [← HTT.out]; exact HJ1.out
          · rw [← HTT.out]; exact HX0.out)
        clear hxI
        go_wp2_with fail
        go_ret
        exact ⟨⟨32 * m + j, HE.out, by omega, by rw [← HNI.out]; rfl⟩, rfl⟩
      · have h0' : 0 < xI := by omega
        have HD : Hid (xI / 2 = ((t / 2 ^ (j + 1) : Nat) : Int)) := Lib.hid (by
          rw [HXI.out, Nat.pow_succ, ← Nat.div_div_eq_div_mul, ← HQD.out]; omega)
        have HNZ : Hid (t / 2 ^ j ≠ 0) := Lib.hid (by have := HXI.out; rw [← HQD.out]; omega)
        have hj32 : j < 32 := by
          rcases Nat.lt_or_ge j 32 with h | h
          · exact h
          · have : t < 2 ^ j := Nat.lt_of_lt_of_le hxl (show 4294967296 ≤ 2 ^ j from Nat.le_trans (by decide : 4294967296 ≤ 2 ^ 32) (Nat.pow_le_pow_right (by decide) h))
            exact absurd (Nat.div_eq_of_lt this) HNZ.out
        clear h0 hxI
        go_wp2_with fail
        go_round
        case rel => exact ⟨j + 1, _, _, by omega, rfl, rfl, by have := HNI.out; omega, HD.out, fun _ => HNZ.out⟩
        case measure => simp [intOf]; omega
#print axioms size_of
end Go.Proofs.Ytncjmndiafgaaaa
/- Bits of 32-bit words; the contracts of bit, double, half. Conditions: as each statement says. -/
namespace Go.Proofs.Ytncjmndiafgaaaa
open Go.RowKit
set_option linter.unusedVariables false
theorem ofInt32 {x : Nat} (hx : x < 4294967296) : (BitVec.ofInt 32 (x : Int)).toNat = x := by
  rw [BitVec.toNat_ofInt]; omega
theorem u32_and_n (x y : Nat) (hx : x < 4294967296) (hy : y < 4294967296) : bits BinOp.and IntKind.u32 (x : Int) (y : Int) = ((x &&& y : Nat) : Int) := by
  have h1 := ofInt32 hx; have h2 := ofInt32 hy
  unfold bits
  simp only
  show IntKind.u32.wrap (((BitVec.ofInt 32 (x : Int) &&& BitVec.ofInt 32 (y : Int)).toNat : Nat) : Int) = _
  rw [BitVec.toNat_and, h1, h2, IntKind.wrap_u32]
  have : x &&& y < 4294967296 := Nat.lt_of_le_of_lt Nat.and_le_left hx
  omega
theorem u32_or_n (x y : Nat) (hx : x < 4294967296) (hy : y < 4294967296) : bits BinOp.or IntKind.u32 (x : Int) (y : Int) = ((x ||| y : Nat) : Int) := by
  have h1 := ofInt32 hx; have h2 := ofInt32 hy
  unfold bits
  simp only
  show IntKind.u32.wrap (((BitVec.ofInt 32 (x : Int) ||| BitVec.ofInt 32 (y : Int)).toNat : Nat) : Int) = _
  rw [BitVec.toNat_or, h1, h2, IntKind.wrap_u32]
  have : x ||| y < 2 ^ 32 := Nat.or_lt_two_pow hx hy
  omega
theorem u32_odd (x : Nat) (hx : x < 4294967296) : bits BinOp.and IntKind.u32 (x : Int) 1 = ((x % 2 : Nat) : Int) := by
  rw [show (1 : Int) = ((1 : Nat) : Int) from rfl, u32_and_n x 1 hx (by decide), Nat.and_one_is_mod]
/-- A number's bit. -/
def bitV (v i : Nat) : Nat := v / 2 ^ i % 2
theorem bit_at {l : List Nat} {i : Nat} (hl : Limbs l) (hi : i / 32 < l.length) : bitV (valL l) i = l.getD (i / 32) 0 / 2 ^ (i % 32) % 2 := by
  obtain ⟨q, hq⟩ : ∃ q, q = i / 32 := ⟨_, rfl⟩
  obtain ⟨r, hr⟩ : ∃ r, r = i % 32 := ⟨_, rfl⟩
  have hi2 : i = 32 * q + r := by omega
  rw [← hq] at hi; rw [← hq, ← hr]
  have e : l = l.take q ++ (l[q] :: l.drop (q + 1)) := by rw [← List.drop_eq_getElem_cons hi, List.take_append_drop]
  have ev : valL l = valL (l.take q) + 2 ^ (32 * q) * (l[q] + 4294967296 * valL (l.drop (q + 1))) := by
    conv => lhs; rw [e, valL_append, List.length_take, Nat.min_eq_left (by omega), valL, two_pow32]
  have hlt := valL_lt (hl.take q)
  rw [List.length_take, Nat.min_eq_left (by omega), two_pow32] at hlt
  have eg : l.getD q 0 = l[q] := by rw [List.getD_eq_getElem?_getD, List.getElem?_eq_getElem hi]; rfl
  unfold bitV
  rw [ev, hi2, Nat.pow_add, ← Nat.div_div_eq_div_mul, Nat.add_mul_div_left _ _ (Nat.pow_pos (by decide)), Nat.div_eq_of_lt hlt, Nat.zero_add, eg]
  generalize valL (l.drop (q + 1)) = z
  generalize l[q] = x
  have e3 : 4294967296 * z = 2 ^ r * (2 * (2 ^ (31 - r) * z)) := by
    rw [← Nat.mul_assoc 2, ← Nat.pow_succ', ← Nat.mul_assoc, ← Nat.pow_add, show r + (31 - r + 1) = 32 by omega]
  rw [e3, Nat.add_mul_div_left _ _ (Nat.pow_pos (by decide))]
  omega
set_option maxHeartbeats 1000000 in
theorem bit_any (A : Option Addr) (n c i B : Nat) (a : List Nat) (w : World) (hn : n ≤ 90000) (hi : i < 32 * n) (ha : Limbs a) (h : Rd w B 1 A n (limC a)) :
    Calls Try.prog 62 #[.slice A n c, .int .i64 i] w fun e w' => e = .returned (.int .u32 (bitV (valL a) i : Nat)) ∧ w = w' := by
  have hl : a.length = n := by have := h.1; simpa using this
  have hq : i / 32 < n := by omega
  obtain ⟨b1, o1, rfl, _, r1⟩ := lim_cell h hq
  have hx := ha.getD (i / 32)
  have HB := Lib.hid (bit_at (i := i) ha (by rw [hl]; exact hq))
  generalize a.getD (i / 32) 0 = x at r1 hx HB
  have hd : x / 2 ^ (i % 32) ≤ x := Nat.div_le_self _ _
  have HV : Hid (bits BinOp.and IntKind.u32 ((x : Int) / 2 ^ (i % 32)) 1 = ((bitV (valL a) i : Nat) : Int)) := Lib.hid (by
    have e : (x : Int) / 2 ^ (i % 32) = ((x / 2 ^ (i % 32) : Nat) : Int) := by simp
    rw [e, u32_odd _ (by omega), HB.out])
  have j1 : (0 : Int) ≤ (i : Int) / 32 := by omega
  have j2 : (i : Int) / 32 < (n : Int) := by omega
  have j3 : ((i : Int) / 32).toNat = i / 32 := by omega
  have j4 : (0 : Int) ≤ (i : Int) % 32 := by omega
  clear h hl hd HB
  go_enter Try.func62, Try.ntmps62
  go_wp2_with fail
  go_ret
  refine ⟨?_, rfl⟩
  rw [← HV.out]
  rfl
#print axioms bit_any
end Go.Proofs.Ytncjmndiafgaaaa
/- The contract of double. Conditions: as each statement says. -/
namespace Go.Proofs.Ytncjmndiafgaaaa
open Go.RowKit
set_option linter.unusedVariables false
/-- Limbs shifted by one, up to a place. -/
theorem dbl_step {l o : List Nat} {k cr low : Nat} (hk : k < l.length) (hol : o.length = k) (h : valL o + 4294967296 ^ k * cr = 2 * valL (l.take k) + low) :
    valL (o ++ [2 * l.getD k 0 % 4294967296 + cr]) + 4294967296 ^ (k + 1) * (l.getD k 0 / 2147483648) = 2 * valL (l.take (k + 1)) + low := by
  rw [valL_snoc, hol, val_take, Nat.pow_succ]
  have e : 4294967296 ^ k * (2 * l.getD k 0 % 4294967296 + cr) + 4294967296 ^ k * 4294967296 * (l.getD k 0 / 2147483648) = 4294967296 ^ k * (2 * l.getD k 0 + cr) := by
    rw [Nat.mul_assoc, ← Nat.mul_add]
    congr 1
    omega
  have e2 : 4294967296 ^ k * (2 * l.getD k 0 + cr) = 2 * (4294967296 ^ k * l.getD k 0) + 4294967296 ^ k * cr := by
    rw [Nat.mul_add, Nat.mul_left_comm]
  omega
theorem or_low (m low : Nat) (h : low < 2) : 2 * m ||| low = 2 * m + low := by
  have := Nat.two_pow_add_eq_or_of_lt (i := 1) (b := low) (by simpa using h) m
  rw [Nat.pow_one] at this
  exact this.symm
/-- What double does to a row. -/
def DblP (g n c base : Nat) (v : Nat) (w : World) (e : Ending) (w' : World) : Prop := e = .returned (.tuple #[]) ∧ (∃ l, Limbs l ∧ l.length = n ∧ valL l = v ∧ w'.ownsRow base 47 1 (.slice (some ⟨g, 0, none⟩) n c) n (limC l)) ∧ w.grownBy w' (some g)
set_option maxRecDepth 100000 in
set_option maxHeartbeats 4000000 in
theorem double_any (g n c base low : Nat) (lI : Int) (l : List Nat) (w : World) (hn : n ≤ 90000) (hlI : lI = low) (hlow : low ≤ 1) (hl : Limbs l) (hfit : 2 * valL l + low < 4294967296 ^ n) (h : w.ownsRow base 47 1 (.slice (some ⟨g, 0, none⟩) n c) n (limC l)) :
    Calls Try.prog 61 #[.slice (some ⟨g, 0, none⟩) n c, .int .u32 lI] w (DblP g n c base (2 * valL l + low) w) := by
  have hll : l.length = n := by have := h.1; simpa using this
  have H := Lib.hid h; have HLL := Lib.hid hll; have HL := Lib.hid hl; have HF := Lib.hid hfit
  have HLI := Lib.hid hlI
  clear h hll hl hfit
  go_enter Try.func61, Try.ntmps61
  go_wp2_with fail
  go_loopw [1, 8] (fun lv i wr => ∃ (k cr : Nat) (o : List Nat) (cI : Int), k ≤ n ∧ i = .int .i64 k ∧ lv = .int .u32 cI ∧ cI = cr ∧ cr ≤ 1 ∧ o.length = k ∧ Limbs o ∧ valL o + 4294967296 ^ k * cr = 2 * valL (l.take k) + low ∧ wr.ownsRow base 47 1 (.slice (some ⟨g, 0, none⟩) n c) n (limC (o ++ l.drop k)) ∧ w.grownBy wr (some g)) (fun _ i _ => n - (intOf i).toNat)
  case atStart => exact ⟨0, low, [], lI, Nat.zero_le _, rfl, rfl, HLI.out, hlow, rfl, fun x hx => by simp at hx, by simp [valL], by simpa using H.out, World.grownBy.refl _ _⟩
  case round =>
    obtain ⟨k, cr, o, cI, hk, rfl, rfl, hcI, hcr, hol, hlo, hval, hown, hg⟩ := hrel
    obtain ⟨wa, rfl⟩ : ∃ z : World, z = wr := ⟨_, rfl⟩
    have HO := Lib.hid hown; have HG := Lib.hid hg; have HLO := Lib.hid hlo; have HV := Lib.hid hval; have HOL := Lib.hid hol
    clear hown hg hlo hval
    by_cases hlt : k < n
    · have hki : (k : Int) < (n : Int) := by omega
      have hkl : k < l.length := by rw [HLL.out]; exact hlt
      have hx := HL.out.getD k
      have hdr := List.drop_eq_getElem_cons hkl
      have hgd : l.getD k 0 = l[k] := by rw [List.getD_eq_getElem?_getD, List.getElem?_eq_getElem hkl]; rfl
      have r1 : wa.cell? ⟨g, k, none⟩ = some (.int .u32 (l.getD k 0 : Nat)) := by
        rw [HO.out.cellAt k (by omega), List.getElem?_map, List.getElem?_append_right (by omega), hol, Nat.sub_self, hdr, hgd]; rfl
      have f1 := HO.out.frozenAt k
      have HST := Lib.hid (dbl_step hkl HOL.out HV.out)
      have hset : (o ++ l.drop k).set k (2 * l.getD k 0 % 4294967296 + cr) = (o ++ [2 * l.getD k 0 % 4294967296 + cr]) ++ l.drop (k + 1) := by
        rw [List.set_append_right _ _ (by omega), hol, Nat.sub_self, hdr, List.set_cons_zero, List.append_assoc]; rfl
      generalize l.getD k 0 = x at r1 hx HST hset
      obtain ⟨xI, hxI⟩ : ∃ xI : Int, xI = (x : Int) := ⟨_, rfl⟩
      rw [← hxI] at r1
      have hx0 : 0 ≤ xI := by omega
      have hx1 : xI ≤ 4294967295 := by omega
      obtain ⟨y, hy⟩ : ∃ y, y = 2 * x % 4294967296 := ⟨_, rfl⟩
      obtain ⟨yI, hyI⟩ : ∃ yI : Int, yI = (y : Int) := ⟨_, rfl⟩
      have hsh : IntKind.u32.wrap (xI * 2) = yI := by rw [IntKind.wrap_u32, hyI, hy, hxI]; omega
      have hyl : y < 4294967296 := by omega
      obtain ⟨m, hm⟩ : ∃ m, y = 2 * m := ⟨y / 2, by omega⟩
      obtain ⟨zI, hzI⟩ : ∃ zI : Int, zI = ((2 * x % 4294967296 + cr : Nat) : Int) := ⟨_, rfl⟩
      have hor : bits BinOp.or IntKind.u32 yI cI = zI := by
        rw [hyI, hcI, u32_or_n y cr hyl (by omega), hm, or_low m cr (by omega), hzI, ← hy, hm]
      have HNX : Hid (xI / 2147483648 = ((x / 2147483648 : Nat) : Int)) := Lib.hid (by rw [hxI]; omega)
      have HN1 : Hid (x / 2147483648 ≤ 1) := Lib.hid (by omega)
      have hst := (HO.out.stored k (.int .u32 zI)).1
      have e1 : (limC (o ++ l.drop k)).set k (.int .u32 zI) = limC ((o ++ [2 * x % 4294967296 + cr]) ++ l.drop (k + 1)) := by
        rw [hzI, ← hset]; unfold limC; rw [List.map_set]
      rw [e1] at hst
      have HSR := Lib.hid hst
      have HL2 : Hid ((o ++ [2 * x % 4294967296 + cr]).length = k + 1) := Lib.hid (by simp [hol])
      have HLB : Hid (Limbs (o ++ [2 * x % 4294967296 + cr])) := Lib.hid (HLO.out.snoc (by omega))
      have HG2 : Hid (w.grownBy (wa.setCell ⟨g, k, none⟩ (.int .u32 zI)) (some g)) := Lib.hid (grown_set HG.out k _)
      clear hst e1 hset hdr hgd hkl hx hxI hy hyI hyl hm hzI hcI hcr hol
      go_wp2_with fail
      go_roundw
      case rel => exact ⟨k + 1, _, _, _, hlt, by go_num, rfl, HNX.out, HN1.out, HL2.out, HLB.out, HST.out, HSR.out, HG2.out⟩
      case measure => simp [intOf]; omega
    · have hki : ¬ (k : Int) < (n : Int) := by omega
      obtain rfl : k = n := by omega
      have HVV : Hid (valL o = 2 * valL l + low) := Lib.hid (by
        have h1 := HV.out
        rw [show l.take k = l from List.take_of_length_le (by have := HLL.out; omega)] at h1
        have h2 := HF.out
        rcases Nat.eq_zero_or_pos cr with h | h
        · subst h; omega
        · obtain rfl : cr = 1 := by omega
          omega)
      have HOF : Hid (wa.ownsRow base 47 1 (.slice (some ⟨g, 0, none⟩) k c) k (limC o)) := Lib.hid (by
        have := HO.out
        rwa [List.drop_of_length_le (by have := HLL.out; omega), List.append_nil] at this)
      clear hcI hcr hol
      go_wp2_with fail
      go_end0
      exact ⟨rfl, ⟨o, HLO.out, HOL.out, HVV.out, HOF.out⟩, HG.out⟩
#print axioms double_any
end Go.Proofs.Ytncjmndiafgaaaa
