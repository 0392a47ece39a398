/- Contracts of kind, chosen, xor of the statements about shares. Conditions: as each statement says. -/
import Derived.Test.YthmooplhhkafcaaGathMath
namespace Go.Proofs.Ythmooplhhkafcaa
open Go.RowKit
set_option linter.unusedVariables false
theorem info_int8 : (Try.prog.info? 3).map (fun i => (i.zero, i.size, i.bytes)) = some (some (.int .i64 0), 1, 8) := by kernel_rfl
theorem elB_int : ElemB Try.prog 54 3 1 8 := ElemB.of Try.underlying54 info_int8 rfl (by decide)
/-- A number below m comes back. -/
def SomeNat (m : Nat) (w : World) (e : Ending) (w' : World) : Prop := ∃ r : Nat, r < m ∧ e = .returned (.int .i64 r) ∧ w = w'
theorem tmod_bd (n : Int) (m : Nat) (h : 1 ≤ m) : -(m : Int) < n.tmod m ∧ n.tmod m < m := by
  have h1 := Int.tmod_lt_of_pos n (b := (m : Int)) (by omega)
  have h2 := Int.lt_tmod_of_pos n (b := (m : Int)) (by omega)
  omega
theorem kind_m (n : Int) (m : Nat) (w : World) (h1 : 1 ≤ m) (h2 : m ≤ 16) :
    Calls Try.prog 39 #[.int .i64 n, .int .i64 m] w (SomeNat m w) := by
  have hb := tmod_bd n m h1
  obtain ⟨hb1, hb2⟩ := hb
  have hm0 : (1 : Int) ≤ (m : Int) := by omega
  have hm1 : (m : Int) ≤ 16 := by omega
  go_enter Try.func39, Try.ntmps39
  go_wp2_with fail
  go_ret
  exact ⟨((n.tmod m + m) % m).toNat, by have := Int.emod_lt_of_pos (n.tmod m + m) (show (0 : Int) < (m : Int) by omega); omega, by rw [toNat_cast_eq (Int.emod_nonneg _ (by omega))]; rfl, rfl⟩
/-- Places that were chosen come back. -/
def ChosenP (n : Nat) (w : World) (e : Ending) (w' : World) : Prop := ∃ (at' : List Nat) (A : Option Addr) (c : Nat), at'.Nodup ∧ (∀ a ∈ at', a < n) ∧ at'.length ≤ c ∧ e = .returned (.slice A at'.length c) ∧ Rd w' w'.heap.size 1 A at'.length (at'.map (fun a : Nat => Value.int .i64 a)) ∧ Below w.heap.size w w'
def ChosenR (n k : Nat) (wb : Nat) (v : Value) (wr : World) : Prop := ∃ at' : List Nat, at'.Nodup ∧ (∀ a ∈ at', a < n) ∧ at'.length ≤ k ∧ wr.ownsRow wb 3 1 v at'.length (at'.map (fun a : Nat => Value.int .i64 a))
set_option maxRecDepth 100000 in
set_option maxHeartbeats 1000000 in
theorem chosen_any (A : Option Addr) (m c n : Nat) (pick : List Nat) (w : World) (hm : m ≤ 9223372036854775807) (hp : Bytes pick) (h1 : 1 ≤ n) (h2 : n ≤ 16) (h : Rd w w.heap.size 1 A m (u8s pick)) :
    Calls Try.prog 28 #[.slice A m c, .int .i64 n] w (ChosenP n w) := by
  have hpl : pick.length = m := by have := h.1; simpa [u8s] using this
  have H := Lib.hid h; have HP := Lib.hid hp; have HPL := Lib.hid hpl
  clear h hp hpl
  have hn1 : (1 : Int) ≤ (n : Int) := by omega
  have hn2 : (n : Int) ≤ 16 := by omega
  go_enter Try.func28, Try.ntmps28
  go_wp2_with fail
  go_loopw [5, 6] (fun v i wr => ∃ k : Nat, k ≤ m ∧ k ≤ 100 ∧ i = .int .i64 k ∧ ChosenR n k w.heap.size v wr ∧ Below w.heap.size w wr) (fun _ i _ => m - (intOf i).toNat)
  case atStart => exact ⟨0, Nat.zero_le _, by decide, rfl, ⟨[], List.nodup_nil, (fun _ h => by cases h), Nat.le_refl _, World.ownsRow_nil _ _ _ _⟩, Below.refl _ _⟩
  case round =>
    obtain ⟨wa, rfl⟩ : ∃ wa : World, wa = wr := ⟨_, rfl⟩
    obtain ⟨k, hk, hk2, rfl, ⟨out, hd, hlt, hol, hown⟩, hbw⟩ := hrel
    have HD := Lib.hid hd; have HLT := Lib.hid hlt; have HO := Lib.hid hown
    have hsz := hbw.size
    clear hd hlt hown
    obtain ⟨Ao, co, rfl, hco⟩ := own_form HO.out
    by_cases hkm : k < m
    · by_cases hk3 : k < 100
      · obtain ⟨b, off, rfl, hb, hc⟩ := H.out.2 (by omega)
        have hkl : k < pick.length := by rw [HPL.out]; exact hkm
        have c0 : wa.cell? ⟨b, off + k, none⟩ = some (.int .u8 (pick[k] : Nat)) := (hbw.cell (p := ⟨b, off + k, none⟩) hb).trans (hc k _ (by simp [u8s, hkl]))
        have hpb := HP.out pick[k] (List.getElem_mem hkl)
        generalize pick[k] = p at c0 hpb
        clear hc hkl
        have hmod : ((p : Int).tmod (n : Int)) = ((p % n : Nat) : Int) := (Int.ofNat_tmod p n).symm
        have hml : p % n < n := Nat.mod_lt _ (by omega)
        generalize p % n = pn at hmod hml
        have i1 : (k : Int) < (m : Int) := by omega
        have i2 : (k : Int) < 100 := by omega
        have hol2 : out.length ≤ 100 := by omega
        go_wp2_with fail
        go_loop [8, 9] (fun t j => ∃ (x : Nat) (b : Bool), x ≤ out.length ∧ j = .int .i64 x ∧ t = .bool b ∧ b = decide (pn ∈ out.take x)) (fun _ j => out.length - (intOf j).toNat)
        case atStart => exact ⟨0, false, Nat.zero_le _, rfl, rfl, by simp⟩
        case round =>
          obtain ⟨x, bb, hx, rfl, rfl, hbb⟩ := hrel
          have HB := Lib.hid hbb
          clear hbb
          by_cases hxo : x < out.length
          · have j1 : (x : Int) < (out.length : Int) := by omega
            obtain ⟨b2, off2, rfl, hb2, hc2⟩ := (Rd.own HO.out).2 (by omega)
            have c1 : wa.cell? ⟨b2, off2 + x, none⟩ = some (.int .i64 (out[x] : Nat)) := hc2 x _ (by simp [hxo])
            have HT : Hid (∀ y, y ∈ out.take (x + 1) ↔ y ∈ out.take x ∨ y = out[x]) := Lib.hid (fun y => by rw [take_snoc _ _ hxo, List.mem_append, List.mem_singleton])
            generalize out[x] = y at c1 HT
            clear hc2
            cases bb
            · by_cases he : y = pn
              · subst he
                go_wp2_with fail
                go_round
                case rel => exact ⟨x + 1, true, hxo, by go_num, rfl, by simp [HT.out]⟩
                case measure => simp [intOf]; omega
              · go_wp2_with fail
                go_round
                case rel => exact ⟨x + 1, false, hxo, by go_num, by simp; omega, by have := HB.out; simp only [HT.out, Bool.false_eq, decide_eq_false_iff_not] at this ⊢; rintro (h | h); exact this h; exact he h.symm⟩
                case measure => simp [intOf]; omega
            · go_wp2_with fail
              go_round
              case rel => exact ⟨x + 1, true, hxo, by go_num, rfl, by have := HB.out; simp only [HT.out, Bool.true_eq, decide_eq_true_iff] at this ⊢; exact .inl this⟩
              case measure => simp [intOf]; omega
          · have j1 : (out.length : Int) ≤ (x : Int) := by omega
            have hb3 := HB.out
            rw [List.take_of_length_le (by omega)] at hb3
            have HB2 := Lib.hid hb3
            clear hb3 HB
            cases bb
            · have hni : pn ∉ out := by have := HB2.out; simpa using this
              have HNI := Lib.hid hni
              clear hni
              go_wp2_with (at_builtin; refine wpList_push elB_int (.tmp 44) (.tmp 46) rfl rfl w.heap.size out.length _ rfl HO.out rfl rfl (one_cell1 rfl) (by omega) (by decide) (by omega) ?_; intro v3 w3 hown3 hb3 _)
              go_roundw
              case rel =>
                refine ⟨k + 1, by omega, by omega, by go_num, ⟨out ++ [pn], ?_, ?_, by simp; omega, by simpa using hown3⟩, hbw.trans hb3⟩
                · rw [List.nodup_append]
                  exact ⟨HD.out, by simp, fun a ha b hb => by simp at hb; subst hb; intro e; subst e; exact HNI.out ha⟩
                · intro a ha
                  rcases List.mem_append.1 ha with h | h
                  · exact HLT.out a h
                  · rw [List.mem_singleton.1 h]; exact hml
              case measure => simp [intOf]; omega
            · go_wp2_with fail
              go_roundw
              case rel => exact ⟨k + 1, by omega, by omega, by go_num, ⟨out, HD.out, HLT.out, by omega, HO.out⟩, hbw⟩
              case measure => simp [intOf]; omega
      · have i1 : (k : Int) < (m : Int) := by omega
        have i2 : (100 : Int) ≤ (k : Int) := by omega
        go_wp2_with fail
        go_ret
        exact ⟨out, Ao, co, HD.out, HLT.out, hco, rfl, Rd.own HO.out, hbw⟩
    · have i1 : (m : Int) ≤ (k : Int) := by omega
      go_wp2_with fail
      go_ret
      exact ⟨out, Ao, co, HD.out, HLT.out, hco, rfl, Rd.own HO.out, hbw⟩
theorem xorP_step (xs ys : List Nat) (k : Nat) (hka : k < xs.length) (hkb : k < ys.length) : ((xorP xs ys).take k ++ xs.drop k).set k (xs[k] ^^^ ys[k]) = (xorP xs ys).take (k + 1) ++ xs.drop (k + 1) := by
  have hkx : k < (xorP xs ys).length := by rw [xorP_len]; exact hka
  have e2 : (xorP xs ys)[k] = xs[k] ^^^ ys[k] := by simp [xorP, hka, hkb]
  have hl : ((xorP xs ys).take k).length = k := by rw [List.length_take]; omega
  rw [take_snoc _ _ hkx, e2, List.drop_eq_getElem_cons hka]
  generalize (xorP xs ys).take k = T at hl
  rw [List.set_append_right _ _ (by omega), show k - T.length = 0 by omega, List.set_cons_zero, List.append_assoc]
  rfl
theorem xorP_past (xs ys : List Nat) (k : Nat) (h : ys.length ≤ k) : (xorP xs ys).take k ++ xs.drop k = xorP xs ys := by
  apply List.ext_getElem?
  intro i
  by_cases hi : i < k
  · rw [List.getElem?_append]
    split
    · rw [List.getElem?_take, if_pos hi]
    · rename_i h1
      rw [List.length_take, xorP_len] at h1
      rw [List.getElem?_eq_none (by rw [List.length_drop, List.length_take, xorP_len]; omega), List.getElem?_eq_none (by rw [xorP_len]; omega)]
  · by_cases hx : i < xs.length
    · have hl : ((xorP xs ys).take k).length = k := by rw [List.length_take, xorP_len]; omega
      rw [List.getElem?_append_right (by omega), hl, List.getElem?_drop, show k + (i - k) = i by omega, List.getElem?_eq_getElem hx]
      have h0 : ys.getD i 0 = 0 := by simp [List.getD, List.getElem?_eq_none (show ys.length ≤ i by omega)]
      simp only [xorP, List.getElem?_map, List.getElem?_range hx, Option.map_some, h0, Nat.xor_zero]
      simp [hx]
    · rw [List.getElem?_eq_none (by rw [List.length_append, List.length_take, List.length_drop, xorP_len]; omega), List.getElem?_eq_none (by rw [xorP_len]; omega)]
set_option maxRecDepth 100000 in
set_option maxHeartbeats 1000000 in
theorem xor_any (A A' : Option Addr) (n c m c' : Nat) (xs ys : List Nat) (w : World) (hn : n ≤ 100000) (hm : m ≤ 9223372036854775807) (hx : Bytes xs) (hy : Bytes ys) (h : Rd w w.heap.size 1 A n (u8s xs)) (h' : Rd w w.heap.size 1 A' m (u8s ys)) :
    Calls Try.prog 27 #[.slice A n c, .slice A' m c'] w fun e w' => ∃ A2 c2, e = .returned (.slice A2 n c2) ∧ n ≤ c2 ∧ Rd w' w'.heap.size 1 A2 n (u8s (xorP xs ys)) ∧ Below w.heap.size w w' := by
  have hl : xs.length = n := by have := h.1; simpa [u8s] using this
  have hl' : ys.length = m := by have := h'.1; simpa [u8s] using this
  have H := Lib.hid h; have H' := Lib.hid h'; have HL := Lib.hid hl; have HL' := Lib.hid hl'; have HX := Lib.hid hx; have HY := Lib.hid hy
  clear h h' hl hl' hx hy
  go_enter Try.func27, Try.ntmps27
  go_wp2_with (at_builtin; go_loud (refine wpList_copyB elB_u8 (.tmp 7) (.tmp 8) rfl rfl rfl rfl (H.out.alloc (Nat.le_refl _) _) (by omega) (by decide) ?_; intro A1 c1 w1 hc1 hr1 ho1 hb1))
  have s1 := hb1.size
  simp only [World.size_alloc] at s1
  have B1 : Below w.heap.size w w1 := ((Below.refl _ _).alloc (Nat.le_refl _) _).trans (hb1.mono (by simp))
  have O1 := Lib.hid ho1; have R1 := Lib.hid hr1
  clear ho1 hr1 hb1
  go_loopw [6] (fun i wr => ∃ k : Nat, k ≤ n ∧ k ≤ m ∧ i = .int .i64 k ∧ (0 < n → wr.ownsRow w.heap.size 5 1 (.slice A1 n c1) n (u8s ((xorP xs ys).take k ++ xs.drop k))) ∧ wr.heap.size = w1.heap.size ∧ Below w.heap.size w wr) (fun i _ => n - (intOf i).toNat)
  case atStart => exact ⟨0, Nat.zero_le _, Nat.zero_le _, rfl, fun h0 => by simpa using ownsRow_mono (O1.out h0) (by simp), rfl, B1⟩
  case round =>
    obtain ⟨k, hk, hkm, rfl, hown, hws, hbw⟩ := hrel
    have HO := Lib.hid hown; have HWS := Lib.hid hws
    clear hown hws
    by_cases hlt : k < n
    · by_cases hlm : k < m
      · obtain ⟨b, off, rfl, hb, hc⟩ := H.out.2 (by omega)
        obtain ⟨b', off', rfl, hb', hc'⟩ := H'.out.2 (by omega)
        have hown := HO.out (by omega)
        obtain ⟨g, rfl⟩ : ∃ g, A1 = some ⟨g, 0, none⟩ := by
          rcases hown.2 with ⟨h1, _⟩ | ⟨g, _, _, h1, _⟩
          · injection h1 with _ h2 _; omega
          · injection h1 with h1 _ _; exact ⟨g, h1⟩
        have hka : k < xs.length := by rw [HL.out]; exact hlt
        have hkb : k < ys.length := by rw [HL'.out]; exact hlm
        have c0 : wr.cell? ⟨b, off + k, none⟩ = some (.int .u8 (xs[k] : Nat)) := (hbw.cell (p := ⟨b, off + k, none⟩) hb).trans (hc k _ (by simp [u8s, hka]))
        have c1' : wr.cell? ⟨b', off' + k, none⟩ = some (.int .u8 (ys[k] : Nat)) := (hbw.cell (p := ⟨b', off' + k, none⟩) hb').trans (hc' k _ (by simp [u8s, hkb]))
        have hlen : ((xorP xs ys).take k ++ xs.drop k).length = n := by simp [xorP_len, HL.out]; omega
        obtain ⟨u, c2'⟩ : ∃ u, wr.cell? ⟨g, k, none⟩ = some u := ⟨_, (hown.cellAt k (by omega)).trans (List.getElem?_eq_getElem (by rw [u8s, List.length_map, hlen]; exact hlt))⟩
        have hf := hown.frozenAt k
        have hx := HX.out xs[k] (List.getElem_mem hka)
        have hy := HY.out ys[k] (List.getElem_mem hkb)
        have HS : Hid (((xorP xs ys).take k ++ xs.drop k).set k (xs[k] ^^^ ys[k]) = (xorP xs ys).take (k + 1) ++ xs.drop (k + 1)) := Lib.hid (xorP_step xs ys k hka hkb)
        generalize xs[k] = x at c0 hx HS
        generalize ys[k] = y at c1' hy HS
        have hs2 := (hown.stored k (.int .u8 ((x ^^^ y : Nat) : Int))).1
        have hgB : w.heap.size ≤ g := (hown.lt g rfl).1
        have HS2 := Lib.hid hs2
        clear hc hc' hka hkb hlen hown hs2
        have i1 : (k : Int) < (n : Int) := by omega
        have i2 : (k : Int) < (m : Int) := by omega
        go_wp2_with fail
        refine wp_region_quiet_tail 12 (by kernel_rfl) (by kernel_rfl) ?_
        simp only [List.take_succ_cons, List.take_zero, List.drop_succ_cons, List.drop_zero]
        repeat (quiet_step (fail))
        refine wpQuiet_nil ?_
        intro _ hw'
        obtain ⟨nq, hw''⟩ := hw'
        subst hw''
        go_wp2_with fail
        go_roundw
        case rel =>
          refine ⟨k + 1, by omega, by omega, by go_num, fun _ => ?_, (size_setCell _ _ _).trans HWS.out, ?_⟩
          · have h2 := HS2.out
            rw [u8_xor_nat _ _ (by omega) (by omega)]
            have e : (u8s ((xorP xs ys).take k ++ xs.drop k)).set k (Value.int .u8 ((x ^^^ y : Nat) : Int)) = u8s ((xorP xs ys).take (k + 1) ++ xs.drop (k + 1)) := by
              rw [← HS.out]; unfold u8s; rw [List.map_set]
            rw [e] at h2
            exact h2
          · exact (hbw.trans (Qw.below ⟨nq, rfl⟩ _)).setCell (p := ⟨g, k, none⟩) hgB _
        case measure => simp [intOf]; omega
      · have i1 : (k : Int) < (n : Int) := by omega
        have i2 : (m : Int) ≤ (k : Int) := by omega
        go_wp2_with fail
        go_ret
        refine ⟨A1, c1, rfl, hc1, ?_, hbw⟩
        have hown := HO.out (by omega)
        rw [xorP_past _ _ _ (by rw [HL'.out]; exact Nat.le_of_not_lt hlm)] at hown
        exact Rd.own hown
    · have i1 : (n : Int) ≤ (k : Int) := by omega
      go_wp2_with fail
      go_ret
      refine ⟨A1, c1, rfl, hc1, ?_, hbw⟩
      by_cases h0 : 0 < n
      · have hown := HO.out h0
        rw [List.take_of_length_le (by rw [xorP_len, HL.out]; omega), List.drop_of_length_le (by rw [HL.out]; omega), List.append_nil] at hown
        exact Rd.own hown
      · obtain rfl : n = 0 := by omega
        have : xorP xs ys = [] := List.eq_nil_of_length_eq_zero (by rw [xorP_len, HL.out])
        rw [this]
        exact Rd.nil _ _ _ _
end Go.Proofs.Ythmooplhhkafcaa
