/- The contracts of trim, clone, Of, order. Conditions: as each statement says. -/
import Derived.Test.YtncjmndiafgaaaaNat1
import Derived.Test.YtncjmndiafgaaaaProg
import Derived.Test.YtncjmndiafgaaaaPush
import Derived.Laws.CopyOwn
namespace Go.Proofs.Ytncjmndiafgaaaa
open Go.RowKit
set_option linter.unusedVariables false
abbrev limC (l : List Nat) : List Value := l.map fun x : Nat => Value.int .u32 x
theorem addr_zero (a : Addr) : a.add 0 = a := by simp [Addr.add]
theorem slice_pre {P : Program} {t e : TypeId} {sz : Nat} (ht' : P.underlying t = some (.slice e)) (hz' : ∀ w, (sizeOf e).run P w = .ok sz w) (A : Option Addr) (n : Nat) (E : Int) (hi c : Nat) (hE : E = (hi : Int)) (hhi : hi ≤ c) (w' : World) :
    (Instr.sliceAt t (.slice A n c) none (some (.int .i64 E)) none).run P w' = .ok (.slice A hi c) w' := by
  subst hE
  have he : P.elem t = e := by simp [Program.elem, ht']
  have ht : P.underlying t = some (.slice (P.elem t)) := by rw [he]; exact ht'
  have hz : ∀ w, (sizeOf (P.elem t)).run P w = .ok sz w := by rw [he]; exact hz'
  rw [run_sliceAt_slice (h := ht), run_slice_h (ht := ht) (h0 := by omega) (h2 := by omega), hz]
  cases A with
  | none => simp [Result.andThen, sliced]
  | some a => simp [Result.andThen, sliced, addr_zero]
theorem lim_cell {w : World} {B n : Nat} {A : Option Addr} {l : List Nat} (h : Rd w B 1 A n (limC l)) {k : Nat} (hk : k < n) : ∃ b off, A = some ⟨b, off, none⟩ ∧ b < B ∧ w.cell? ⟨b, off + k, none⟩ = some (.int .u32 (l.getD k 0 : Nat)) := by
  obtain ⟨b, off, hA, hb, hc⟩ := h.2 (by omega)
  have hl : k < l.length := by have := h.1; simp at this; omega
  exact ⟨b, off, hA, hb, hc k _ (by rw [List.getElem?_map, List.getElem?_eq_getElem hl, List.getD_eq_getElem?_getD, List.getElem?_eq_getElem hl]; rfl)⟩
theorem Rd.pre {w : World} {B n k : Nat} {A : Option Addr} {l : List Nat} (h : Rd w B 1 A n (limC l)) (hk : k ≤ n) : Rd w B 1 A k (limC (l.take k)) := by
  have hl : l.length = n := by have := h.1; simpa using this
  refine ⟨by simp [hl]; omega, fun h0 => ?_⟩
  obtain ⟨b, off, e, hb, hc⟩ := h.2 (by omega)
  refine ⟨b, off, e, hb, fun j u hu => hc j u ?_⟩
  rw [show limC (l.take k) = (limC l).take k from List.map_take, List.getElem?_take] at hu
  split at hu
  · exact hu
  · cases hu
set_option maxHeartbeats 1000000 in
theorem trim_any (A : Option Addr) (n c B : Nat) (l : List Nat) (w : World) (hn : n ≤ 1073741824) (hc : n ≤ c) (h : Rd w B 1 A n (limC l)) :
    Calls Try.prog 26 #[.slice A n c] w fun e w' => e = .returned (.slice A (trimN l n) c) ∧ w = w' := by
  have H := Lib.hid h
  have hl : l.length = n := by have := h.1; simpa using this
  have HL := Lib.hid hl
  clear h hl
  go_enter Try.func26, Try.ntmps26
  go_wp2_with fail
  go_loop [3] (fun i => ∃ k : Nat, k ≤ n ∧ i = .int .i64 k ∧ trimN l k = trimN l n) (fun i => (intOf i).toNat)
  case atStart => exact ⟨n, Nat.le_refl _, rfl, rfl⟩
  case round =>
    obtain ⟨k, hk, rfl, ht⟩ := hrel
    have HT := Lib.hid ht
    clear ht
    rcases Nat.eq_zero_or_pos k with h0 | h0
    · subst h0
      have HE : Hid (trimN l n = 0) := Lib.hid (by rw [← HT.out]; rfl)
      have hsl := slice_pre (P := Try.prog) (t := 25) (sz := 1) Try.underlying25 Try.sizeOf47 A n 0 0 c rfl (Nat.zero_le _)
      go_wp2_with fail
      go_ret
      exact ⟨by rw [HE.out]; rfl, rfl⟩
    · obtain ⟨j, rfl⟩ : ∃ j, k = j + 1 := ⟨k - 1, by omega⟩
      obtain ⟨b1, o1, rfl, hb1, r1⟩ := lim_cell H.out (k := j) (by omega)
      have hj1 : (0 : Int) < ((j + 1 : Nat) : Int) := by omega
      by_cases hz : l.getD j 0 = 0
      · have HS : Hid (trimN l j = trimN l n) := Lib.hid (by rw [← HT.out, trimN, if_pos hz])
        rw [hz] at r1
        clear hz
        go_wp2_with fail
        go_round
        case rel => exact ⟨j, by omega, by go_num, HS.out⟩
        case measure => simp [intOf]
      · have HE : Hid (trimN l n = j + 1) := Lib.hid (by rw [← HT.out, trimN, if_neg hz])
        obtain ⟨y, hy⟩ : ∃ y : Int, y = ((l.getD j 0 : Nat) : Int) := ⟨_, rfl⟩
        rw [← hy] at r1
        have hy0 : (y == 0) = false := by rw [hy]; simpa using hz
        have hsl := slice_pre (P := Try.prog) (t := 25) (sz := 1) Try.underlying25 Try.sizeOf47 (some ⟨b1, o1, none⟩) n ((j + 1 : Nat) : Int) (j + 1) c rfl (by omega)
        clear hz hy
        go_wp2_with fail
        go_ret
        exact ⟨by rw [HE.out]; rfl, rfl⟩
theorem info_u32e : (Try.prog.info? 47).map (fun i => (i.zero, i.size, i.bytes)) = some (some (.int .u32 0), 1, 4) := by kernel_rfl
theorem make_nat (w : World) (c : Nat) (hc : c ≤ 1000000) : (Instr.makeSlice 25 (.int .i64 c) (.int .i64 c)).run Try.prog w = .ok (.slice (some ⟨w.heap.size, 0, none⟩) c c) (w.alloc (.cells (Array.replicate c (.int .u32 0)) 47)) := by
  obtain ⟨i, hi, hz, hs, hb⟩ := info_parts info_u32e
  have h := run_make (P := Try.prog) w _ _ i _ Try.underlying25 hi hz .i64 .i64 c c (by omega) (by omega) (by rw [hb]; omega) (by omega)
  rw [hs] at h
  simpa [madeCells_one, Value.cells] using h
/-- A call that returns a new number. -/
def RetLim (w : World) (l : List Nat) (e : Ending) (w' : World) : Prop := ∃ A n c, e = .returned (.slice A n c) ∧ n = l.length ∧ n ≤ c ∧ w'.ownsRow w.heap.size 47 1 (.slice A n c) n (limC l) ∧ Below w.heap.size w w'
theorem own_lim {w : World} {g base n : Nat} {cs : List Value} {t : TypeId} (h : w.heap[g]? = some (.cells cs.toArray t (0, 0))) (hn : cs.length = n) (hm : n ≤ 1099511627776) (hb : base ≤ g) : w.ownsRow base t 1 (.slice (some ⟨g, 0, none⟩) n n) n cs :=
  ⟨by simp [hn], .inr ⟨g, n, cs.toArray, rfl, hb, h, Nat.le_refl _, by unfold maxLen; omega, by simp [hn], by rw [List.take_of_length_le (by simp [hn])]⟩⟩
set_option maxHeartbeats 2000000 in
theorem clone_any (A : Option Addr) (n c : Nat) (l : List Nat) (w : World) (hn : n ≤ 100000) (hc : n ≤ c) (h : Rd w w.heap.size 1 A n (limC l)) :
    Calls Try.prog 14 #[.slice A n c] w (RetLim w (trimL l)) := by
  have hl : l.length = n := by have := h.1; simpa using this
  have hk := trimN_le l n
  obtain ⟨k, hkk⟩ : ∃ k, k = trimN l n := ⟨_, rfl⟩
  rw [← hkk] at hk
  have hp := h.pre hk
  have htl : trimL l = l.take k := by unfold trimL; rw [hl, hkk]
  have hmk := fun w => make_nat w k (by omega)
  have h2 := hp.alloc (Nat.le_refl _) (.cells (Array.replicate k (.int .u32 0)) 47)
  have hcl : (limC (l.take k)).length = Nat.min k k := by
    have h0 : Nat.min k k = k := Nat.min_self k
    rw [h0, List.length_map, List.length_take]; omega
  have H := Lib.hid h; have H2 := Lib.hid h2; have HT := Lib.hid htl; have HKK := Lib.hid hkk
  obtain ⟨cs, hcs⟩ : ∃ cs, cs = limC (l.take k) := ⟨_, rfl⟩
  rw [← hcs] at hcl
  have HCS := Lib.hid hcs
  have hpos : 0 < cs.length → ∃ ad, A = some ad ∧ ∀ j v, cs[j]? = some v → (w.alloc (.cells (Array.replicate k (.int .u32 0)) 47)).cell? (ad.add j) = some v := fun h0 => by
    obtain ⟨b, off, hA, _, hcc⟩ := H2.out.2 (by have := hcl; have h1 : Nat.min k k = k := Nat.min_self k; omega)
    exact ⟨_, hA, fun j v hj => by rw [addr_add]; exact hcc j v (by rw [← HCS.out]; exact hj)⟩
  have hfit : 0 + cs.length ≤ (List.replicate k (Value.int .u32 0)).length := by
    have h1 : Nat.min k k = k := Nat.min_self k
    rw [List.length_replicate]; omega
  have hone : ∀ v ∈ cs, v.oneCell' = true := by rw [hcs]; exact oneCell_map (fun _ => rfl)
  have HP := Lib.hid hpos; have HF := Lib.hid hfit; have HO := Lib.hid hone; have HCL := Lib.hid hcl
  have hn2 : k ≤ 100000 := by omega
  have hL : Hid (l.length = n) := Lib.hid hl
  clear hpos hfit hone hcs hcl htl hp h2 hkk h hl
  go_enter Try.func14, Try.ntmps14
  go_wp2_with fail
  refine (trim_any A n c w.heap.size l _ (by omega) hc H.out).mono ?_
  rintro e w' ⟨rfl, rfl⟩
  rw [← HKK.out]
  go_wp2_with (with_reducible refine wpList_copy_splice rfl _ _ _ _ rfl 47 (by kernel_rfl) (by kernel_rfl) _ _ _ _ _ _ rfl rfl w.heap.size 0 (List.replicate k (.int .u32 0)) 47 (by simpa using heap_alloc_new w (.cells (Array.replicate k (.int .u32 0)) 47)) cs HCL.out (fun h0 => ⟨rfl, HP.out h0⟩) HF.out HO.out w.heap.size w ((Below.refl _ _).alloc (Nat.le_refl _) _) (Nat.le_refl _) ?_; intro w2 HG hb2)
  go_ret
  have hg := HG.out
  have hcl2 : cs.length = k := by have h1 := HCL.out; have h2 : Nat.min k k = k := Nat.min_self k; omega
  have e : splice (List.replicate k (Value.int .u32 0)) 0 cs = cs := by
    unfold splice
    rw [List.take_zero, List.nil_append, Nat.zero_add, List.drop_of_length_le (by rw [List.length_replicate, hcl2]; exact Nat.le_refl _), List.append_nil]
  rw [e] at hg
  refine ⟨_, k, k, rfl, by rw [HT.out, List.length_take, hL.out]; omega, Nat.le_refl _, ?_, hb2⟩
  rw [HT.out, ← HCS.out]
  exact own_lim hg hcl2 (by omega) (Nat.le_refl _)
/-- Of. -/
def ofL (v : Nat) : List Nat := trimL [v % 4294967296, v / 4294967296 % 4294967296]
theorem ofL_val {v : Nat} (h : v < 18446744073709551616) : valL (ofL v) = v := by
  unfold ofL; rw [trimL_val]; simp [valL]; omega
theorem ofL_limbs (v : Nat) : Limbs (ofL v) := trimL_limbs (fun x hx => by simp at hx; rcases hx with rfl | rfl <;> omega)
set_option maxHeartbeats 1000000 in
theorem Of_any (v : Nat) (w : World) (hv : v < 18446744073709551616) : Calls Try.prog 5 #[.int .u64 v] w (RetLim w (ofL v)) := by
  have e1 : IntKind.u32.wrap (v : Int) = ((v % 4294967296 : Nat) : Int) := by rw [IntKind.wrap_u32]; omega
  have e2 : IntKind.u32.wrap ((v : Int) / 4294967296) = ((v / 4294967296 % 4294967296 : Nat) : Int) := by rw [IntKind.wrap_u32]; omega
  have HRD : Hid (Rd (w.alloc (.cells #[.int .u32 ((v % 4294967296 : Nat) : Int), .int .u32 ((v / 4294967296 % 4294967296 : Nat) : Int)] 47)) (w.alloc (.cells #[.int .u32 ((v % 4294967296 : Nat) : Int), .int .u32 ((v / 4294967296 % 4294967296 : Nat) : Int)] 47)).heap.size 1 (some ⟨w.heap.size, 0, none⟩) 2 (limC [v % 4294967296, v / 4294967296 % 4294967296])) := Lib.hid (by
    have := Rd.new w #[.int .u32 ((v % 4294967296 : Nat) : Int), .int .u32 ((v / 4294967296 % 4294967296 : Nat) : Int)] 47 1 2 rfl
    simpa using this)
  obtain ⟨a, ha⟩ : ∃ a : Int, a = ((v % 4294967296 : Nat) : Int) := ⟨_, rfl⟩
  obtain ⟨b, hb⟩ : ∃ b : Int, b = ((v / 4294967296 % 4294967296 : Nat) : Int) := ⟨_, rfl⟩
  rw [← ha] at e1; rw [← hb] at e2
  rw [← ha, ← hb] at HRD
  clear ha hb
  go_enter Try.func5, Try.ntmps5
  go_wp2_with fail
  refine (clone_any (some ⟨w.heap.size, 0, none⟩) 2 2 _ _ (by omega) (Nat.le_refl _) HRD.out).mono ?_
  rintro e w2 ⟨A, n, c, rfl, hn, hc, hown, hb⟩
  have HN := Lib.hid hn; have HO := Lib.hid hown
  clear hn hown
  go_wp2_with fail
  go_ret
  exact ⟨A, n, c, rfl, HN.out, hc, ownsRow_mono HO.out (by simp), ((Below.refl _ _).alloc (Nat.le_refl _) _).trans (hb.mono (by simp))⟩
#print axioms Of_any
end Go.Proofs.Ytncjmndiafgaaaa
