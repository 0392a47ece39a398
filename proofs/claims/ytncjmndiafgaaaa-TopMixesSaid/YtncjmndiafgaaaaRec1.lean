/- Contracts of Check, sane, order, cut, parity of the program's cascade. Conditions: as each statement says. -/
import Derived.Test.YtncjmndiafgaaaaDrawMath
import Derived.Test.YtncjmndiafgaaaaPerm2
import Derived.Test.YtncjmndiafgaaaaPush2
import Derived.Test.YtncjmndiafgaaaaBase
namespace Go.Proofs.Ytncjmndiafgaaaa
open Go.RowKit
set_option linter.unusedVariables false
/-- A plan as a value. -/
abbrev casV (P B : Int) (s : Nat) : Value := .agg #[.int .i64 P, .int .i64 B, .int .u64 s]
abbrev casC (P B : Int) (s : Nat) : Array Value := #[.int .i64 P, .int .i64 B, .int .u64 s]
set_option maxHeartbeats 800000 in
theorem Check_any (P B : Int) (s : Nat) (w : World) :
    Calls Try.prog 39 #[casV P B s] w fun e w' => e = .returned (.int .i64 (checkE P B)) ∧ w.alloc (.cells (casC P B s) 67) = w' := by
  by_cases h1 : P < 1
  · have HE : Hid (checkE P B = 2) := Lib.hid (by unfold checkE; rw [if_pos (.inl h1)])
    go_enter Try.func39, Try.ntmps39
    go_wp2_with fail
    go_ret
    exact ⟨by rw [HE.out]; rfl, rfl⟩
  · by_cases h2 : 6 < P
    · have HE : Hid (checkE P B = 2) := Lib.hid (by unfold checkE; rw [if_pos (by omega)])
      go_enter Try.func39, Try.ntmps39
      go_wp2_with fail
      go_ret
      exact ⟨by rw [HE.out]; rfl, rfl⟩
    · by_cases h3 : B < 1
      · have HE : Hid (checkE P B = 2) := Lib.hid (by unfold checkE; rw [if_pos (by omega)])
        go_enter Try.func39, Try.ntmps39
        go_wp2_with fail
        go_ret
        exact ⟨by rw [HE.out]; rfl, rfl⟩
      · by_cases h4 : 512 < B
        · have HE : Hid (checkE P B = 2) := Lib.hid (by unfold checkE; rw [if_pos (by omega)])
          go_enter Try.func39, Try.ntmps39
          go_wp2_with fail
          go_ret
          exact ⟨by rw [HE.out]; rfl, rfl⟩
        · have HE : Hid (checkE P B = 0) := Lib.hid (by unfold checkE; rw [if_neg (by omega)])
          go_enter Try.func39, Try.ntmps39
          go_wp2_with fail
          go_ret
          exact ⟨by rw [HE.out]; rfl, rfl⟩
theorem Check_ex (P B : Int) (s : Nat) (w : World) :
    Calls Try.prog 39 #[casV P B s] w fun e w' => (∃ E, E = checkE P B ∧ e = .returned (.int .i64 E)) ∧ w'.heap.size = w.heap.size + 1 ∧ Below w.heap.size w w' :=
  (Check_any P B s w).mono fun e w' ⟨he, hw⟩ => ⟨⟨_, rfl, he⟩, by subst hw; simp, by subst hw; exact (Below.refl _ _).alloc (Nat.le_refl _) _⟩
set_option maxHeartbeats 800000 in
theorem sane_any (P B : Int) (s : Nat) (n : Int) (w : World) :
    Calls Try.prog 55 #[casV P B s, .int .i64 n] w fun e w' => e = .returned (.int .i64 (saneE P B n)) ∧ Below w.heap.size w w' := by
  go_enter Try.func55, Try.ntmps55
  go_wp2_with fail
  refine (Check_ex _ _ _ _).mono ?_
  rintro e w1 ⟨⟨E, hE, rfl⟩, hs1, hb1⟩
  have B1 : Below w.heap.size w w1 := ((Below.refl _ _).alloc (Nat.le_refl _) _).trans (hb1.mono (by simp))
  clear hb1 hs1
  by_cases h0 : E = 0
  · subst h0
    by_cases h1 : 512 < n
    · have HE : Hid (saneE P B n = 4) := Lib.hid (by unfold saneE; rw [← hE, if_neg (by simp), if_pos h1])
      clear hE
      go_wp2_with fail
      go_ret
      exact ⟨by rw [HE.out]; rfl, B1⟩
    · by_cases h2 : n < 0
      · have HE : Hid (saneE P B n = 3) := Lib.hid (by unfold saneE; rw [← hE, if_neg (by simp), if_neg h1, if_pos h2])
        clear hE
        go_wp2_with fail
        go_ret
        exact ⟨by rw [HE.out]; rfl, B1⟩
      · have HE : Hid (saneE P B n = 0) := Lib.hid (by unfold saneE; rw [← hE, if_neg (by simp), if_neg h1, if_neg h2])
        clear hE
        go_wp2_with fail
        go_ret
        exact ⟨by rw [HE.out]; rfl, B1⟩
  · have hne : (E != 0) = true := by simpa using h0
    have HE : Hid (saneE P B n = 2) := Lib.hid (by unfold saneE; rw [← hE, if_pos h0])
    clear hE h0
    go_wp2_with fail
    go_ret
    exact ⟨by rw [HE.out]; rfl, B1⟩
set_option maxHeartbeats 800000 in
theorem parity_any (A A' : Option Addr) (n c m c' : Nat) (b : List Bool) (l : List Int) (w : World) (B : Nat) (hn : n ≤ 1073741824) (hm : m ≤ 1073741824) (h : Rd w B 1 A n (b.map Value.bool)) (h' : Rd w B 1 A' m (l.map (Value.int .i64))) (hl : ∀ x ∈ l, 0 ≤ x ∧ x < n) :
    Calls Try.prog 42 #[.slice A n c, .slice A' m c'] w fun e w' => e = .returned (.bool (parL b l)) ∧ w = w' := by
  have hbl : b.length = n := by have := h.1; simpa using this
  have hll : l.length = m := by have := h'.1; simpa using this
  have H := Lib.hid h; have H' := Lib.hid h'; have HB := Lib.hid hbl; have HLL := Lib.hid hll; have HL := Lib.hid hl
  clear h h' hbl hll hl
  go_enter Try.func42, Try.ntmps42
  go_wp2_with fail
  go_loop [5, 10] (fun o i => ∃ (k : Nat) (v : Bool), k ≤ m ∧ i = .int .i64 k ∧ o = .bool v ∧ v = parL b (l.take k)) (fun _ i => m - (intOf i).toNat)
  case atStart => exact ⟨0, false, Nat.zero_le _, rfl, rfl, rfl⟩
  case round =>
    obtain ⟨k, v, hk, rfl, rfl, hv⟩ := hrel
    have HV := Lib.hid hv
    clear hv
    by_cases hlt : k < m
    · have hlt' : (k : Int) < (m : Int) := by omega
      have hkl : k < l.length := by rw [HLL.out]; exact hlt
      obtain ⟨g', off', rfl, hg', hc'⟩ := H'.out.2 (by omega)
      have c0 : w.cell? ⟨g', off' + k, none⟩ = some (.int .i64 l[k]) := hc' k _ (by simp [hkl])
      have hx := HL.out _ (List.getElem_mem hkl)
      have HS : Hid (parL b (l.take (k + 1)) = (parL b (l.take k) != b.getD (l[k]).toNat false)) := Lib.hid (by rw [take_snoc _ _ hkl, parL_snoc])
      generalize l[k] = x at c0 hx HS
      obtain ⟨q, rfl⟩ := Int.eq_ofNat_of_zero_le hx.1
      have hqn : q < n := by omega
      obtain ⟨g, off, rfl, hg, hc⟩ := H.out.2 (by omega)
      have hqb : q < b.length := by rw [HB.out]; exact hqn
      have c1 : w.cell? ⟨g, off + q, none⟩ = some (.bool b[q]) := hc q _ (by simp [hqb])
      have HQ : Hid (b.getD ((q : Nat) : Int).toNat false = b[q]) := Lib.hid (by simp [hqb])
      generalize b[q] = y at c1 HQ
      have hqn' : (q : Int) < (n : Int) := by omega
      clear hc hc' hkl hqb hx
      go_wp2_with fail
      go_round
      case rel => exact ⟨k + 1, v != y, hlt, by go_num, rfl, by rw [HS.out, HQ.out, ← HV.out]⟩
      case measure => simp [intOf]; omega
    · have hlt' : ¬ (k : Int) < (m : Int) := by omega
      go_wp2_with fail
      go_ret
      have hv := HV.out
      rw [List.take_of_length_le (by rw [HLL.out]; omega)] at hv
      exact ⟨by rw [hv]; rfl, rfl⟩
theorem min_wrap (X : Nat) (h : X ≤ 32768) : min (wrap64 (X : Int)) 512 = ((min X 512 : Nat) : Int) := by
  unfold wrap64; omega
/-- The cells of questions. -/
def qCells : List Qn → List Value
  | [] => []
  | q :: l => .int .i64 q.p :: .int .i64 q.f :: .int .i64 q.t :: qCells l
theorem qCells_len : ∀ l : List Qn, (qCells l).length = l.length * 3
  | [] => rfl
  | _ :: l => by simp [qCells, qCells_len l]; omega
theorem qCells_snoc : ∀ (l : List Qn) (q : Qn), qCells (l ++ [q]) = qCells l ++ [.int .i64 q.p, .int .i64 q.f, .int .i64 q.t]
  | [], _ => rfl
  | _ :: l, q => by simp [qCells, qCells_snoc l q]
theorem qCells_at : ∀ (l : List Qn) (i : Nat) (h : i < l.length), (qCells l)[i * 3]? = some (.int .i64 (l[i]).p) ∧ (qCells l)[i * 3 + 1]? = some (.int .i64 (l[i]).f) ∧ (qCells l)[i * 3 + 2]? = some (.int .i64 (l[i]).t)
  | [], _, h => by simp at h
  | q :: l, 0, _ => ⟨rfl, rfl, rfl⟩
  | q :: l, i + 1, h => by
    rw [Nat.add_mul]; exact qCells_at l i (by simpa using h)
theorem info_q : (Try.prog.info? 90).map (fun i => (i.zero, i.size, i.bytes)) = some (some (.agg #[.int .i64 0, .int .i64 0, .int .i64 0]), 3, 24) := by kernel_rfl
theorem elB_q : ElemB Try.prog 109 90 3 24 := ElemB.of Try.underlying109 info_q rfl (by decide)
set_option maxHeartbeats 800000 in
theorem order_any (P B : Int) (s n p : Nat) (w : World) (hs : s < two64) (hn : n ≤ 512) (hp : p ≤ 64) :
    Calls Try.prog 57 #[casV P B s, .int .i64 n, .int .i64 p] w (RetOwn w 3 1 n ((orderL s n p).map (Value.int .i64)) id) := by
  by_cases h0 : p = 0
  · subst h0
    have hmk := fun w => make_int w n (by omega)
    go_enter Try.func57, Try.ntmps57
    go_wp2_with fail
    clear hmk
    go_loopw [29] (fun i wr => ∃ k : Nat, k ≤ n ∧ i = .int .i64 k ∧ Below w.heap.size w wr ∧ wr.ownsRow w.heap.size 3 1 (.slice (some ⟨w.heap.size + 1, 0, none⟩) n n) n ((idL k).map (Value.int .i64) ++ List.replicate (n - k) (Value.int .i64 0))) (fun i _ => n - (intOf i).toNat)
    case atStart =>
      refine ⟨0, Nat.zero_le _, rfl, ((Below.refl _ _).alloc (Nat.le_refl _) _).alloc (by simp) _, ?_⟩
      refine own_of_row (g := w.heap.size + 1) ?_ (by simp [idL]) (by omega) (by unfold maxLen; omega)
      have := heap_alloc_new (w.alloc (Obj.cells #[Value.int IntKind.i64 P, Value.int IntKind.i64 B, Value.int IntKind.u64 s] 67)) (Obj.cells (Array.replicate n (Value.int .i64 0)) 3)
      simpa [idL] using this
    case round =>
      obtain ⟨k, hk, rfl, hbw, hown⟩ := hrel
      by_cases hlt2 : k < n
      · have hki : (k : Int) < (n : Int) := by omega
        have hcl : wr.cell? ⟨w.heap.size + 1, k, none⟩ = some (.int .i64 0) := by
          rw [hown.cellAt k (by omega), fill_get _ _ _ _ (by simp [idL]) hlt2]
        have hfr := hown.frozenAt k
        have HW := Lib.hid hown; clear hown
        go_wp2_with fail
        have h3 := (HW.out.stored k (.int .i64 (k : Int))).1
        rw [idL_fill k n hlt2] at h3
        go_roundw
        case rel => exact ⟨k + 1, by omega, by go_num, hbw.setCell (p := ⟨w.heap.size + 1, k, none⟩) (by simp) _, h3⟩
        case measure => simp [intOf]; omega
      · obtain rfl : k = n := by omega
        have hki : ¬ (k : Int) < (k : Int) := by omega
        have HW := Lib.hid hown; clear hown
        go_wp2_with fail
        go_ret
        have ho := HW.out
        rw [Nat.sub_self, List.replicate_zero, List.append_nil] at ho
        exact RetOwn.of (mk := id) (by have e : orderL s k 0 = idL k := rfl
                                       rw [e]; exact ho) hbw
  · have h1 : (0 : Int) < (p : Int) := by omega
    have HO : Hid (orderL s n p = permL ((s + p) % two64) n) := Lib.hid (by unfold orderL; rw [if_neg h0])
    have hw1 : IntKind.u64.wrap (p : Int) = (p : Int) := by rw [IntKind.wrap_u64]; omega
    have hw2 : IntKind.u64.wrap ((s : Int) + (p : Int)) = (((s + p) % two64 : Nat) : Int) := by rw [IntKind.wrap_u64]; unfold two64; omega
    clear h0
    generalize (s + p) % two64 = s2 at HO hw2
    go_enter Try.func57, Try.ntmps57
    go_wp2_with fail
    refine (New_any s2 _).mono ?_
    rintro e w1 ⟨rfl, hw⟩
    have hd : DrawAt w1 (w.heap.size + 1) s2 := by
      rw [← hw]
      have := DrawAt.new (w.alloc (.cells (casC P B s) 67)) s2
      simpa using this
    have hb1 : Below w.heap.size w w1 := by rw [← hw]; exact ((Below.refl _ _).alloc (Nat.le_refl _) _).alloc (by simp) _
    have hs1 : w1.heap.size = w.heap.size + 2 := by rw [← hw]; simp
    clear hw
    have HD := Lib.hid hd; have HS1 := Lib.hid hs1
    clear hd hs1
    go_wp2_with fail
    refine (Perm_any _ s2 n _ HD.out (by omega)).mono ?_
    rintro e w2 ⟨rfl, ho, hu⟩
    have hsz := HS1.out
    have ho2 := ownsRow_mono ho (show w.heap.size ≤ w1.heap.size by omega)
    have hb2 := hb1.trans (hu.to (show w.heap.size ≤ w.heap.size + 1 by omega) (by omega))
    clear ho hu hsz
    have HO2 := Lib.hid ho2
    clear ho2
    go_wp2_with fail
    go_ret
    rw [HO.out]
    exact RetOwn.of (mk := id) HO2.out hb2
set_option maxHeartbeats 800000 in
theorem cut_any (P : Int) (B s n p : Nat) (w : World) (hB : 1 ≤ B) (hB2 : B ≤ 512) (hn : n ≤ 512) (hp : p ≤ 6) :
    Calls Try.prog 58 #[casV P B s, .int .i64 n, .int .i64 p] w (RetOwn w 90 3 (cutN n (sizeP B p)) (qCells (cutL B n p)) id) := by
  have hp1 : (p : Int) ≤ 6 := by omega
  have hB3 : (B : Int) ≤ 512 := by omega
  obtain ⟨S, hS⟩ : ∃ S, S = sizeP B p := ⟨_, rfl⟩
  have hS1 : 1 ≤ S := by rw [hS]; exact sizeP_pos hB p
  have hS2 : S ≤ 512 := by rw [hS]; unfold sizeP; omega
  have hmin : min (wrap64 ((B : Int) * 2 ^ p)) 512 = (S : Int) := by
    have hp2 : 2 ^ p ≤ 64 := Nat.le_trans (Nat.pow_le_pow_right (by decide) hp) (by decide)
    have hb : B * 2 ^ p ≤ 32768 := Nat.le_trans (Nat.mul_le_mul hB2 hp2) (by decide)
    have e : ((B : Int) * 2 ^ p) = ((B * 2 ^ p : Nat) : Int) := by simp
    rw [e, hS]
    exact min_wrap _ hb
  rw [← hS]
  have HSE := Lib.hid hS
  clear hS
  go_enter Try.func58, Try.ntmps58
  go_wp2_with fail
  clear hmin
  go_loopw [8, 9] (fun vo v wr => ∃ (k f : Nat), f = k * S ∧ f ≤ 1024 ∧ k ≤ cutN n S ∧ v = .int .i64 f ∧ wr.ownsRow w.heap.size 90 3 vo k (qCells (cutK n S p k)) ∧ Below w.heap.size w wr) (fun _ v _ => n - (intOf v).toNat)
  case atStart => exact ⟨0, 0, by simp, by omega, Nat.zero_le _, rfl, World.ownsRow_nil _ _ _ _, (Below.refl _ _).alloc (Nat.le_refl _) _⟩
  case round =>
    obtain ⟨k, f, hf, hf2, hk, rfl, hown, hbw⟩ := hrel
    have HF := Lib.hid hf; have HO := Lib.hid hown
    have hsz := hbw.size
    have hkn := cutN_le (n := n) hS1
    clear hf hown
    by_cases hlt : f < n
    · have hlt' : (f : Int) < (n : Int) := by omega
      have hk2 : k < cutN n S := (cutN_lt hS1).1 (by rw [← HF.out]; exact hlt)
      have hm2 : min ((f : Int) + (S : Int)) (n : Int) = ((min (f + S) n : Nat) : Int) := by omega
      have HC : Hid (qCells (cutK n S p (k + 1)) = qCells (cutK n S p k) ++ [.int .i64 p, .int .i64 f, .int .i64 (min (f + S) n : Nat)]) := Lib.hid (by rw [cutK_snoc, qCells_snoc, HF.out])
      generalize min (f + S) n = t at hm2 HC
      have hS3 : (S : Int) ≤ 512 := by omega
      have hf3 : (f : Int) ≤ 1024 := by omega
      go_wp2_with (at_builtin; refine wpList_push elB_q (.tmp 21) (.tmp 30) rfl rfl w.heap.size k _ rfl HO.out rfl rfl (by intro u hu; simp at hu; rcases hu with rfl | rfl | rfl <;> rfl) (by omega) (by decide) (by omega) ?_; intro v4 w4 hown4 hb4 _)
      go_roundw
      case rel => exact ⟨k + 1, f + S, by rw [HF.out, Nat.add_mul, Nat.one_mul], by omega, hk2, by go_num, by rw [HC.out]; simpa using hown4, hbw.trans hb4⟩
      case measure => simp [intOf]; omega
    · have hlt' : ¬ (f : Int) < (n : Int) := by omega
      have hk2 : ¬ k < cutN n S := fun h => hlt (by rw [HF.out]; exact (cutN_lt hS1).2 h)
      obtain rfl : k = cutN n S := by omega
      go_wp2_with fail
      go_ret
      have ho := HO.out
      have e : cutK n S p (cutN n S) = cutL B n p := by unfold cutL; rw [← HSE.out]
      rw [e] at ho
      exact RetOwn.of (mk := id) ho hbw
end Go.Proofs.Ytncjmndiafgaaaa
