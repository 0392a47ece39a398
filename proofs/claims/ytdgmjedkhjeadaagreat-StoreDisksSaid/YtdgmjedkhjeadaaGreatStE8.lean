/- The contract of state.more. Conditions: as the statement says. -/
import Derived.Test.YtdgmjedkhjeadaaGreatStA8
import Derived.Test.YtdgmjedkhjeadaaGreatCatB8
namespace Go.Proofs.YtdgmjedkhjeadaaGreat
open List (setIfInBounds_toArray set_cons_zero set_cons_succ)
open Go.RowKit
set_option linter.unusedVariables false
def Jn.moreR (j : Jn) (r : Rc) : Option Jn := if j.tail.kind = 1 ∧ 320 < j.tail.a then j.add j.tail.id j.tail.a (j.tail.bits ++ r.bits) else none
section
variable {w w' : World} {S : Nat} {j : Jn} {kv : Value} {xs : List KB} {tb : Option Addr} {tc : Nat}
theorem JnAt.tailRange (h : JnAt w S j kv xs tb tc) : w.rangeAt S 6 (recC j.tail tb tc).toList := fun i v hv => by
  rw [h.cells]
  have hi : i < 6 := by have := (List.getElem?_eq_some_iff.1 hv).1; simpa [recC] using this
  match i, hi with
  | 0, _ => exact hv
  | 1, _ => exact hv
  | 2, _ => exact hv
  | 3, _ => exact hv
  | 4, _ => exact hv
  | 5, _ => exact hv
theorem more_end {w1 w2 : World} (h1 : JnAt w1 S j kv xs tb tc) (hb : Below w.heap.size w w1) {q q' : Option Jn} (hq : q = q') {bz : Bool} (hp : StepP S kv xs tb [] q' w1 (.returned (.bool bz)) w2) (X : List Nat) : StepP S kv xs tb X q w (.returned (.bool bz)) w2 := by
  subst hq
  rcases hp with ⟨j', e1, e2, h⟩ | ⟨e1, e2, h⟩
  · exact .inl ⟨j', e1, e2, JnMut.trans (fun k hk => .inl hk) (fun k hk => .inl hk) (.of_below hb) h (by simp)⟩
  · exact .inr ⟨e1, e2, bnextK hb h⟩
set_option maxRecDepth 100000 in
set_option maxHeartbeats 1000000 in
theorem more_any (h : JnAt w S j kv xs tb tc) (r : Rc) (A : Option Addr) (c : Nat) (X : List Nat) (ho : RcOK r) (hr : BytR w A c r.bits) (hl1 : j.tail.bits.length ≤ 100) (hl2 : r.bits.length ≤ 100) (hk : j.keys.length ≤ 1000) (hta : j.tail.kind = 1 → j.tail.a ≤ 512) :
    Calls Tryz.prog 108 #[.pointer (some ⟨S, 0, none⟩), recV r A c] w (StepP S kv xs tb X (j.moreR r) w) := by
  have HN := Lib.hid (StR.new h hr)
  have H := Lib.hid h; have HO := Lib.hid ho
  have hlt := h.fpLt
  have HLT := Lib.hid hlt
  clear h hr ho hlt
  unfold recV
  go_enter Tryz.func108, Tryz.ntmps108
  go_upto_region 1 with fail
  rw [rc_lit]
  obtain ⟨w1, hw1⟩ : ∃ z, z = w.alloc (.cells (recC r A c) 115) := ⟨_, rfl⟩
  rw [← hw1] at HN ⊢
  have HB1 : Hid (Below w.heap.size w w1) := Lib.hid (by rw [hw1]; exact balloc _ _)
  have HSZ : Hid (w1.heap.size = w.heap.size + 1) := Lib.hid (by rw [hw1, World.size_alloc])
  obtain ⟨g, hg⟩ : ∃ g, g = w.heap.size := ⟨_, rfl⟩
  have HG := Lib.hid hg
  rw [← hg] at HN HSZ ⊢
  have HR := Lib.hid HN.out.js.tailRange
  have HI := Lib.hid (recC_info j.tail tb tc)
  have hi2 : (Tryz.prog.info? 115).map (·.size) = some (recC j.tail tb tc).toList.length := by rw [HI.out]; rfl
  have HI2 := Lib.hid hi2
  clear hw1 hg hi2
  go_upto_region 2 with (first
    | (refine wpList_load_mid rfl _ _ rfl S 6 (by simp [Act.eval]) (recC j.tail tb tc).toList _ HR.out Tryz.underlying115 rfl HI2.out ?_)
    | (refine wpList_plain rfl fun _ hK => wp_store_row 115 _ _ rfl w1.heap.size (recC j.tail tb tc) rfl rfl _ _ (heap_alloc_new w1 _) HI.out rfl (recC_all _ _ _) (hK _ _ ?_); rw [World.setRow_alloc_new]))
  obtain ⟨w2, hw2⟩ : ∃ z, z = w1.alloc (.cells (recC j.tail tb tc) 115) := ⟨_, rfl⟩
  have hb2 : Below w1.heap.size w1 w2 := by rw [hw2]; exact balloc _ _
  have HT : Hid (Bk w2 (g + 1) (recC j.tail tb tc) 115) := Lib.hid (by rw [hw2, ← HSZ.out]; exact Bk.new _ _ _)
  have HSW : Hid (w2.heap.size = w1.heap.size + 1) := Lib.hid (by rw [hw2, World.size_alloc])
  rw [← hw2, HSZ.out]
  have HN2 := Lib.hid (HN.out.far hb2)
  have HB2 := Lib.hid (bnextK HB1.out hb2)
  clear hw2 hb2 HR HI HI2
  have t1 : w2.cell? ⟨g + 1, 1, none⟩ = some (.int .i64 (j.tail.kind : Int)) := HT.out.cell 1
  have t3 : w2.cell? ⟨g + 1, 3, none⟩ = some (.int .i64 (j.tail.a : Int)) := HT.out.cell 3
  have HS2 : Hid (w2.cell? ⟨g + 1, 1, none⟩ = some (.int .i64 (j.tail.kind : Int)) ∧ w2.cell? ⟨g + 1, 3, none⟩ = some (.int .i64 (j.tail.a : Int)) ∧ w2.cell? ⟨g + 1, 2, none⟩ = some (.int .i64 (j.tail.id : Int)) ∧ w2.cell? ⟨g + 1, 5, none⟩ = some (.slice tb j.tail.bits.length tc) ∧ w2.cell? ⟨g, 5, none⟩ = some (.slice A r.bits.length c)) :=
    Lib.hid ⟨t1, t3, HT.out.cell 2, HT.out.cell 5, HN2.out.r5⟩
  clear t1 t3
  by_cases c1 : j.tail.kind = 1
  · by_cases c2 : 320 < j.tail.a
    · have HQ : Hid (j.moreR r = j.add j.tail.id j.tail.a (j.tail.bits ++ r.bits)) := Lib.hid (by unfold Jn.moreR; rw [if_pos ⟨c1, c2⟩])
      have e1 : ((j.tail.kind : Int) == 1) = true := by simp; omega
      have c2i : (320 : Int) < (j.tail.a : Int) := by omega
      have hta' := hta c1
      clear hta
      obtain ⟨w3, hw3⟩ : ∃ z, z = w2.alloc (.cells #[.slice tb j.tail.bits.length tc, .slice A r.bits.length c] 31) := ⟨_, rfl⟩
      have hb3 : Below w2.heap.size w2 w3.drew := by rw [hw3]; exact bnextK (balloc _ _) (below_drew8 _ _)
      have HN3 := Lib.hid (HN2.out.far hb3)
      have HB3 := Lib.hid (bnextK HB2.out hb3)
      have HT3 := Lib.hid (HT.out.past hb3 HT.out.lt)
      have HS3 : Hid (w3.drew.cell? ⟨g + 1, 1, none⟩ = some (.int .i64 (j.tail.kind : Int)) ∧ w3.drew.cell? ⟨g + 1, 3, none⟩ = some (.int .i64 (j.tail.a : Int)) ∧ w3.drew.cell? ⟨g + 1, 2, none⟩ = some (.int .i64 (j.tail.id : Int)) ∧ w3.drew.cell? ⟨g + 1, 5, none⟩ = some (.slice tb j.tail.bits.length tc) ∧ w3.drew.cell? ⟨g, 5, none⟩ = some (.slice A r.bits.length c)) :=
        Lib.hid ⟨HT3.out.cell 1, HT3.out.cell 3, HT3.out.cell 2, HT3.out.cell 5, HN3.out.r5⟩
      have HBY : Hid (∀ x ∈ j.tail.bits ++ r.bits, x < 256) := Lib.hid fun x hx => by
        rcases List.mem_append.1 hx with hx | hx
        · exact H.out.ok.tail.bits x hx
        · exact HO.out.bits x hx
      have HSZ2 : Hid (w2.heap.size = g + 1 + 1) := Lib.hid (by
        have := HSW.out; have := HSZ.out; omega)
      have hg3 : Bk w3.drew w2.heap.size #[.slice tb j.tail.bits.length tc, .slice A r.bits.length c] 31 := by
        rw [hw3]
        exact Bk.new w2 _ _
      have HCC := Lib.hid (concatB8_any w2.heap.size tb A j.tail.bits.length tc r.bits.length c (secC j.tail.bits) (secC r.bits) w3.drew hl1 hl2 (byt_rd HN3.out.js.tail) (byt_rd HN3.out.rr) (fun u hu => secC_one _ u hu) (fun u hu => secC_one _ u hu) hg3)
      rw [hw3] at HS3 HCC HN3 HB3 HT3
      clear hb3 hg3 hw3 w3
      -- <REGION yes
      refine wp_region_held_drew (S := (fun W => W.cell? ⟨g + 1, 1, none⟩ = some (.int .i64 (j.tail.kind : Int)) ∧ W.cell? ⟨g + 1, 3, none⟩ = some (.int .i64 (j.tail.a : Int)) ∧ W.cell? ⟨g + 1, 2, none⟩ = some (.int .i64 (j.tail.id : Int)) ∧ W.cell? ⟨g + 1, 5, none⟩ = some (.slice tb j.tail.bits.length tc) ∧ W.cell? ⟨g, 5, none⟩ = some (.slice A r.bits.length c))) (by kernel_rfl) ?_ (fun hHeld => ?_)
      · (try dsimp only); first | exact HS2.out | exact HS3.out | exact HS4.out | exact HS5.out
      refine wpAnyH_take (i := 0) (oi := ⟨some 10, _, _, _, _, _⟩) (v := ?_) rfl (by kernel_rfl) (by kernel_rfl) (by kernel_rfl) (fun _ _ _ h => h) (Or.inl ⟨by rfl, ?_⟩) (by assumption) ?_; rotate_left
      · intro w hSw; (try dsimp only at hSw); go_simp; try with_reducible rfl
      try simp only [Act.put, setIfInBounds_toArray, set_cons_zero, set_cons_succ]
      refine wpAnyH_take (i := 1) (oi := ⟨some 11, _, _, _, _, _⟩) (v := ?_) rfl (by kernel_rfl) (by kernel_rfl) (by kernel_rfl) (fun _ _ _ h => h) (Or.inl ⟨by rfl, ?_⟩) (by assumption) ?_; rotate_left
      · intro w hSw; (try dsimp only at hSw); go_simp; try with_reducible rfl
      try simp only [Act.put, setIfInBounds_toArray, set_cons_zero, set_cons_succ]
      refine wpAnyH_take (i := 2) (oi := ⟨some 12, _, _, _, _, _⟩) (v := ?_) rfl (by kernel_rfl) (by kernel_rfl) (by kernel_rfl) (fun _ _ _ h => h) (Or.inl ⟨by rfl, ?_⟩) (by assumption) ?_; rotate_left
      · intro w hSw; (try dsimp only at hSw); go_simp; try with_reducible rfl
      try simp only [Act.put, setIfInBounds_toArray, set_cons_zero, set_cons_succ]
      refine wpAnyH_take (i := 3) (oi := ⟨some 13, _, _, _, _, _⟩) (v := ?_) rfl (by kernel_rfl) (by kernel_rfl) (by kernel_rfl) (fun _ _ _ h => h) (Or.inl ⟨by rfl, ?_⟩) (by assumption) ?_; rotate_left
      · intro w hSw; (try dsimp only at hSw); go_simp; try with_reducible rfl
      try simp only [Act.put, setIfInBounds_toArray, set_cons_zero, set_cons_succ]
      refine wpAnyH_take (i := 4) (oi := ⟨some 14, _, _, _, _, _⟩) (v := ?_) rfl (by kernel_rfl) (by kernel_rfl) (by kernel_rfl) (fun _ _ _ h => h) (Or.inl ⟨by rfl, ?_⟩) (by assumption) ?_; rotate_left
      · intro w hSw; (try dsimp only at hSw); go_simp; try with_reducible rfl
      try simp only [Act.put, setIfInBounds_toArray, set_cons_zero, set_cons_succ]
      refine wpAnyH_take (i := 5) (oi := ⟨some 15, _, _, _, _, _⟩) (v := ?_) rfl (by kernel_rfl) (by kernel_rfl) (by kernel_rfl) (fun _ _ _ h => h) (Or.inl ⟨by rfl, ?_⟩) (by assumption) ?_; rotate_left
      · intro w hSw; (try dsimp only at hSw); go_simp; try with_reducible rfl
      try simp only [Act.put, setIfInBounds_toArray, set_cons_zero, set_cons_succ]
      refine wpAnyH_take (i := 6) (oi := ⟨some 16, _, _, _, _, _⟩) (v := ?_) rfl (by kernel_rfl) (by kernel_rfl) (by kernel_rfl) (fun _ _ _ h => h) (Or.inl ⟨by rfl, ?_⟩) (by assumption) ?_; rotate_left
      · intro w hSw; (try dsimp only at hSw); go_simp; try with_reducible rfl
      try simp only [Act.put, setIfInBounds_toArray, set_cons_zero, set_cons_succ]
      refine wpAnyH_take (i := 7) (oi := ⟨some 17, _, _, _, _, _⟩) (v := ?_) rfl (by kernel_rfl) (by kernel_rfl) (by kernel_rfl) (fun _ _ _ h => h) (Or.inl ⟨by rfl, ?_⟩) (by assumption) ?_; rotate_left
      · intro w hSw; (try dsimp only at hSw); go_simp; try with_reducible rfl
      try simp only [Act.put, setIfInBounds_toArray, set_cons_zero, set_cons_succ]
      refine wpAnyH_take (i := 8) (oi := ⟨some 18, _, _, _, _, _⟩) (v := ?_) rfl (by kernel_rfl) (by kernel_rfl) (by kernel_rfl) (fun _ _ _ h => h) (Or.inl ⟨by rfl, ?_⟩) (by assumption) ?_; rotate_left
      · intro w hSw; (try dsimp only at hSw); go_simp; try with_reducible rfl
      try simp only [Act.put, setIfInBounds_toArray, set_cons_zero, set_cons_succ]
      refine wpAnyH_take (i := 9) (oi := ⟨some 19, _, _, _, _, _⟩) (v := ?_) rfl (by kernel_rfl) (by kernel_rfl) (by kernel_rfl) (fun _ _ _ h => h) (Or.inl ⟨by rfl, ?_⟩) (by assumption) ?_; rotate_left
      · intro w hSw; (try dsimp only at hSw); go_simp; try with_reducible rfl
      try simp only [Act.put, setIfInBounds_toArray, set_cons_zero, set_cons_succ]
      refine wpAnyH_take (i := 10) (oi := ⟨some 20, _, _, _, _, _⟩) (v := ?_) rfl (by kernel_rfl) (by kernel_rfl) (by kernel_rfl) (fun _ _ _ h => h) (Or.inl ⟨by rfl, ?_⟩) (by assumption) ?_; rotate_left
      · intro w hSw; (try dsimp only at hSw); go_simp; try with_reducible rfl
      try simp only [Act.put, setIfInBounds_toArray, set_cons_zero, set_cons_succ]
      refine wpAnyH_take (i := 11) (oi := ⟨some 21, _, _, _, _, _⟩) (v := ?_) rfl (by kernel_rfl) (by kernel_rfl) (by kernel_rfl) (fun _ _ _ h => h) (Or.inl ⟨by rfl, ?_⟩) (by assumption) ?_; rotate_left
      · intro w hSw; (try dsimp only at hSw); go_simp; try with_reducible rfl
      try simp only [Act.put, setIfInBounds_toArray, set_cons_zero, set_cons_succ]
      refine wpAnyH_take (i := 12) (oi := ⟨some 22, _, _, _, _, _⟩) (v := ?_) rfl (by kernel_rfl) (by kernel_rfl) (by kernel_rfl) (fun _ _ _ h => h) (Or.inl ⟨by rfl, ?_⟩) (by assumption) ?_; rotate_left
      · intro w hSw; (try dsimp only at hSw); go_simp; try with_reducible rfl
      try simp only [Act.put, setIfInBounds_toArray, set_cons_zero, set_cons_succ]
      refine wpAnyH_take (i := 13) (oi := ⟨some 23, _, _, _, _, _⟩) (v := ?_) rfl (by kernel_rfl) (by kernel_rfl) (by kernel_rfl) (fun _ _ _ h => h) (Or.inl ⟨by rfl, ?_⟩) (by assumption) ?_; rotate_left
      · intro w hSw; (try dsimp only at hSw); go_simp; try with_reducible rfl
      try simp only [Act.put, setIfInBounds_toArray, set_cons_zero, set_cons_succ]
      refine wpAnyH_take (i := 14) (oi := ⟨some 24, _, _, _, _, _⟩) (v := ?_) rfl (by kernel_rfl) (by kernel_rfl) (by kernel_rfl) (fun _ _ _ h => h) (Or.inl ⟨by rfl, ?_⟩) (by assumption) ?_; rotate_left
      · intro w hSw; (try dsimp only at hSw); go_simp; try with_reducible rfl
      try simp only [Act.put, setIfInBounds_toArray, set_cons_zero, set_cons_succ]
      refine wpAnyH_take (i := 15) (oi := ⟨some 25, _, _, _, _, _⟩) (v := ?_) rfl (by kernel_rfl) (by kernel_rfl) (by kernel_rfl) (fun _ _ _ h => h) (Or.inl ⟨by rfl, ?_⟩) (by assumption) ?_; rotate_left
      · intro w hSw; (try dsimp only at hSw); go_simp; try with_reducible rfl
      try simp only [Act.put, setIfInBounds_toArray, set_cons_zero, set_cons_succ]
      refine wpAnyH_take (i := 16) (oi := ⟨some 26, _, _, _, _, _⟩) (v := ?_) rfl (by kernel_rfl) (by kernel_rfl) (by kernel_rfl) (fun _ _ _ h => h) (Or.inl ⟨by rfl, ?_⟩) (by assumption) ?_; rotate_left
      · intro w hSw; (try dsimp only at hSw); go_simp; try with_reducible rfl
      try simp only [Act.put, setIfInBounds_toArray, set_cons_zero, set_cons_succ]
      refine wpAnyH_take (i := 17) (oi := ⟨some 27, _, _, _, _, _⟩) (v := ?_) rfl (by kernel_rfl) (by kernel_rfl) (by kernel_rfl) (fun _ _ _ h => h) (Or.inl ⟨by rfl, ?_⟩) (by assumption) ?_; rotate_left
      · intro w hSw; (try dsimp only at hSw); go_simp; try with_reducible rfl
      try simp only [Act.put, setIfInBounds_toArray, set_cons_zero, set_cons_succ]
      refine wpAnyH_ready (rs := [18]) (by kernel_rfl) (by simp) ?_
      refine AllReadyH.cons (o := ⟨some 28, _, _, _, _, _⟩) rfl (fun K hK => ?_) AllReadyH.nil
      go_simp
      have HS3F := HS3
      refine hK.out _ _ ?_ (fun hHeld => ?_)
      · (try dsimp only); first | exact HS2.out | exact HS3.out | exact HS4.out | exact HS5.out
      clear hK K
      try simp only [Act.put, setIfInBounds_toArray, set_cons_zero, set_cons_succ]
      refine wpAnyH_ready (rs := [19]) (by kernel_rfl) (by simp) ?_
      refine AllReadyH.cons (o := ⟨some 29, _, _, _, _, _⟩) rfl (fun K hK => ?_) AllReadyH.nil
      go_simp
      refine HCC.out.mono ?_
      rintro e' w4 ⟨⟨A4, c4, rfl, hc4, ho4⟩, hb4⟩
      have HO4 := Lib.hid ho4
      have HN4 := Lib.hid (HN3.out.far hb4)
      have HB4 := Lib.hid (bnextK HB3.out hb4)
      have HT4 := Lib.hid (HT3.out.past hb4 HT3.out.lt)
      have HS4 : Hid (w4.cell? ⟨g + 1, 1, none⟩ = some (.int .i64 (j.tail.kind : Int)) ∧ w4.cell? ⟨g + 1, 3, none⟩ = some (.int .i64 (j.tail.a : Int)) ∧ w4.cell? ⟨g + 1, 2, none⟩ = some (.int .i64 (j.tail.id : Int)) ∧ w4.cell? ⟨g + 1, 5, none⟩ = some (.slice tb j.tail.bits.length tc) ∧ w4.cell? ⟨g, 5, none⟩ = some (.slice A r.bits.length c)) := Lib.hid ⟨HT4.out.cell 1, HT4.out.cell 3, HT4.out.cell 2, HT4.out.cell 5, HN4.out.r5⟩
      have HAD := Lib.hid (add_any HN4.out.js j.tail.id j.tail.a A4 (j.tail.bits.length + r.bits.length) c4 (j.tail.bits ++ r.bits) (by omega) (by omega) (by omega) hk HBY.out (by have := Rd.own ho4; rw [← secC_append] at this; exact this))
      clear ho4 hb4 HCC
      go_wp2_with fail
      refine hK.out _ _ ?_ (fun hHeld => ?_)
      · (try dsimp only); first | exact HS2.out | exact HS3.out | exact HS4.out | exact HS5.out
      clear hK K
      try simp only [Act.put, setIfInBounds_toArray, set_cons_zero, set_cons_succ]
      refine wpAnyH_ready (rs := [20]) (by kernel_rfl) (by simp) ?_
      refine AllReadyH.cons (o := ⟨some 30, _, _, _, _, _⟩) rfl (fun K hK => ?_) AllReadyH.nil
      go_simp
      refine HAD.out.mono ?_
      intro e' w5 hp5
      have HP5 := Lib.hid hp5
      have HKL : Hid (KeepL (fpJ S kv xs) w4 w5) := Lib.hid (by rcases hp5 with ⟨_, _, _, h⟩ | ⟨_, _, h⟩; exact h.2; exact KeepL.of_below h)
      have HRB5 := Lib.hid (HN4.out.rb.keepL HKL.out (fun hm => by have := HLT.out _ hm; have := HG.out; omega))
      have HTB5 := Lib.hid (HT4.out.keepL HKL.out (fun hm => by have := HLT.out _ hm; have := HG.out; omega))
      have HS5 : Hid (w5.cell? ⟨g + 1, 1, none⟩ = some (.int .i64 (j.tail.kind : Int)) ∧ w5.cell? ⟨g + 1, 3, none⟩ = some (.int .i64 (j.tail.a : Int)) ∧ w5.cell? ⟨g + 1, 2, none⟩ = some (.int .i64 (j.tail.id : Int)) ∧ w5.cell? ⟨g + 1, 5, none⟩ = some (.slice tb j.tail.bits.length tc) ∧ w5.cell? ⟨g, 5, none⟩ = some (.slice A r.bits.length c)) := Lib.hid ⟨HTB5.out.cell 1, HTB5.out.cell 3, HTB5.out.cell 2, HTB5.out.cell 5, HRB5.out.cell 5⟩
      obtain ⟨bz, hbz, hpz⟩ : ∃ bz, e' = .returned (.bool bz) ∧ StepP S kv xs tb [] (j.add j.tail.id j.tail.a (j.tail.bits ++ r.bits)) w4 (.returned (.bool bz)) w5 := by
        rcases hp5 with ⟨j', h1, rfl, h⟩ | ⟨h1, rfl, h⟩
        · exact ⟨true, rfl, .inl ⟨j', h1, rfl, h⟩⟩
        · exact ⟨false, rfl, .inr ⟨h1, rfl, h⟩⟩
      subst hbz
      have HPZ := Lib.hid hpz
      clear hp5 HP5 hpz
      go_wp2_with fail
      refine hK.out _ _ ?_ (fun hHeld => ?_)
      · (try dsimp only); first | exact HS2.out | exact HS3.out | exact HS4.out | exact HS5.out
      clear hK K
      try simp only [Act.put, setIfInBounds_toArray, set_cons_zero, set_cons_succ]
      refine wpAnyH_take (i := 21) (oi := ⟨some 31, _, _, _, _, _⟩) (v := ?_) rfl (by kernel_rfl) (by kernel_rfl) (by kernel_rfl) (fun _ _ _ h => h) (Or.inl ⟨by rfl, ?_⟩) (by assumption) ?_; rotate_left
      · intro w hSw; (try dsimp only at hSw); go_simp; try with_reducible rfl
      try simp only [Act.put, setIfInBounds_toArray, set_cons_zero, set_cons_succ]
      refine wpAnyH_take (i := 22) (oi := ⟨some 4, _, _, _, _, _⟩) (v := ?_) rfl (by kernel_rfl) (by kernel_rfl) (by kernel_rfl) (fun _ _ _ h => h) (Or.inl ⟨by rfl, ?_⟩) (by assumption) ?_; rotate_left
      · intro w hSw; (try dsimp only at hSw); go_simp; try with_reducible rfl
      try simp only [Act.put, setIfInBounds_toArray, set_cons_zero, set_cons_succ]
      refine wpAnyH_done (by kernel_rfl) ?_ _
      go_wp2_with fail
      go_ret
      exact more_end HN4.out.js HB4.out HQ.out HPZ.out X
      -- REGION>
    · have HQ : Hid (j.moreR r = none) := Lib.hid (by unfold Jn.moreR; rw [if_neg (fun h => c2 h.2)])
      have e1 : ((j.tail.kind : Int) == 1) = true := by simp; omega
      have c2i : ¬ (320 : Int) < (j.tail.a : Int) := by omega
      -- <REGION no2
      refine wp_region_held_drew (S := (fun W => W.cell? ⟨g + 1, 1, none⟩ = some (.int .i64 (j.tail.kind : Int)) ∧ W.cell? ⟨g + 1, 3, none⟩ = some (.int .i64 (j.tail.a : Int)) ∧ W.cell? ⟨g + 1, 2, none⟩ = some (.int .i64 (j.tail.id : Int)) ∧ W.cell? ⟨g + 1, 5, none⟩ = some (.slice tb j.tail.bits.length tc) ∧ W.cell? ⟨g, 5, none⟩ = some (.slice A r.bits.length c))) (by kernel_rfl) ?_ (fun hHeld => ?_)
      · (try dsimp only); first | exact HS2.out | exact HS3.out | exact HS4.out | exact HS5.out
      refine wpAnyH_take (i := 0) (oi := ⟨some 10, _, _, _, _, _⟩) (v := ?_) rfl (by kernel_rfl) (by kernel_rfl) (by kernel_rfl) (fun _ _ _ h => h) (Or.inl ⟨by rfl, ?_⟩) (by assumption) ?_; rotate_left
      · intro w hSw; (try dsimp only at hSw); go_simp; try with_reducible rfl
      try simp only [Act.put, setIfInBounds_toArray, set_cons_zero, set_cons_succ]
      refine wpAnyH_take (i := 1) (oi := ⟨some 11, _, _, _, _, _⟩) (v := ?_) rfl (by kernel_rfl) (by kernel_rfl) (by kernel_rfl) (fun _ _ _ h => h) (Or.inl ⟨by rfl, ?_⟩) (by assumption) ?_; rotate_left
      · intro w hSw; (try dsimp only at hSw); go_simp; try with_reducible rfl
      try simp only [Act.put, setIfInBounds_toArray, set_cons_zero, set_cons_succ]
      refine wpAnyH_take (i := 2) (oi := ⟨some 12, _, _, _, _, _⟩) (v := ?_) rfl (by kernel_rfl) (by kernel_rfl) (by kernel_rfl) (fun _ _ _ h => h) (Or.inl ⟨by rfl, ?_⟩) (by assumption) ?_; rotate_left
      · intro w hSw; (try dsimp only at hSw); go_simp; try with_reducible rfl
      try simp only [Act.put, setIfInBounds_toArray, set_cons_zero, set_cons_succ]
      refine wpAnyH_take (i := 3) (oi := ⟨some 13, _, _, _, _, _⟩) (v := ?_) rfl (by kernel_rfl) (by kernel_rfl) (by kernel_rfl) (fun _ _ _ h => h) (Or.inl ⟨by rfl, ?_⟩) (by assumption) ?_; rotate_left
      · intro w hSw; (try dsimp only at hSw); go_simp; try with_reducible rfl
      try simp only [Act.put, setIfInBounds_toArray, set_cons_zero, set_cons_succ]
      refine wpAnyH_take (i := 4) (oi := ⟨some 14, _, _, _, _, _⟩) (v := ?_) rfl (by kernel_rfl) (by kernel_rfl) (by kernel_rfl) (fun _ _ _ h => h) (Or.inl ⟨by rfl, ?_⟩) (by assumption) ?_; rotate_left
      · intro w hSw; (try dsimp only at hSw); go_simp; try with_reducible rfl
      try simp only [Act.put, setIfInBounds_toArray, set_cons_zero, set_cons_succ]
      refine wpAnyH_take (i := 5) (oi := ⟨some 15, _, _, _, _, _⟩) (v := ?_) rfl (by kernel_rfl) (by kernel_rfl) (by kernel_rfl) (fun _ _ _ h => h) (Or.inl ⟨by rfl, ?_⟩) (by assumption) ?_; rotate_left
      · intro w hSw; (try dsimp only at hSw); go_simp; try with_reducible rfl
      try simp only [Act.put, setIfInBounds_toArray, set_cons_zero, set_cons_succ]
      refine wpAnyH_take (i := 6) (oi := ⟨some 16, _, _, _, _, _⟩) (v := ?_) rfl (by kernel_rfl) (by kernel_rfl) (by kernel_rfl) (fun _ _ _ h => h) (Or.inl ⟨by rfl, ?_⟩) (by assumption) ?_; rotate_left
      · intro w hSw; (try dsimp only at hSw); go_simp; try with_reducible rfl
      try simp only [Act.put, setIfInBounds_toArray, set_cons_zero, set_cons_succ]
      refine wpAnyH_take (i := 7) (oi := ⟨some 17, _, _, _, _, _⟩) (v := ?_) rfl (by kernel_rfl) (by kernel_rfl) (by kernel_rfl) (fun _ _ _ h => h) (Or.inl ⟨by rfl, ?_⟩) (by assumption) ?_; rotate_left
      · intro w hSw; (try dsimp only at hSw); go_simp; try with_reducible rfl
      try simp only [Act.put, setIfInBounds_toArray, set_cons_zero, set_cons_succ]
      refine wpAnyH_take (i := 8) (oi := ⟨some 18, _, _, _, _, _⟩) (v := ?_) rfl (by kernel_rfl) (by kernel_rfl) (by kernel_rfl) (fun _ _ _ h => h) (Or.inl ⟨by rfl, ?_⟩) (by assumption) ?_; rotate_left
      · intro w hSw; (try dsimp only at hSw); go_simp; try with_reducible rfl
      try simp only [Act.put, setIfInBounds_toArray, set_cons_zero, set_cons_succ]
      refine wpAnyH_take (i := 9) (oi := ⟨some 19, _, _, _, _, _⟩) (v := undef) rfl (by kernel_rfl) (by kernel_rfl) (by kernel_rfl) (fun _ _ _ h => h) (Or.inr ⟨by rfl, rfl⟩) (by assumption) ?_
      try simp only [Act.put, setIfInBounds_toArray, set_cons_zero, set_cons_succ]
      refine wpAnyH_take (i := 10) (oi := ⟨some 20, _, _, _, _, _⟩) (v := undef) rfl (by kernel_rfl) (by kernel_rfl) (by kernel_rfl) (fun _ _ _ h => h) (Or.inr ⟨by rfl, rfl⟩) (by assumption) ?_
      try simp only [Act.put, setIfInBounds_toArray, set_cons_zero, set_cons_succ]
      refine wpAnyH_take (i := 11) (oi := ⟨some 21, _, _, _, _, _⟩) (v := undef) rfl (by kernel_rfl) (by kernel_rfl) (by kernel_rfl) (fun _ _ _ h => h) (Or.inr ⟨by rfl, rfl⟩) (by assumption) ?_
      try simp only [Act.put, setIfInBounds_toArray, set_cons_zero, set_cons_succ]
      refine wpAnyH_take (i := 12) (oi := ⟨some 22, _, _, _, _, _⟩) (v := undef) rfl (by kernel_rfl) (by kernel_rfl) (by kernel_rfl) (fun _ _ _ h => h) (Or.inr ⟨by rfl, rfl⟩) (by assumption) ?_
      try simp only [Act.put, setIfInBounds_toArray, set_cons_zero, set_cons_succ]
      refine wpAnyH_take (i := 13) (oi := ⟨some 23, _, _, _, _, _⟩) (v := undef) rfl (by kernel_rfl) (by kernel_rfl) (by kernel_rfl) (fun _ _ _ h => h) (Or.inr ⟨by rfl, rfl⟩) (by assumption) ?_
      try simp only [Act.put, setIfInBounds_toArray, set_cons_zero, set_cons_succ]
      refine wpAnyH_take (i := 14) (oi := ⟨some 24, _, _, _, _, _⟩) (v := undef) rfl (by kernel_rfl) (by kernel_rfl) (by kernel_rfl) (fun _ _ _ h => h) (Or.inr ⟨by rfl, rfl⟩) (by assumption) ?_
      try simp only [Act.put, setIfInBounds_toArray, set_cons_zero, set_cons_succ]
      refine wpAnyH_take (i := 15) (oi := ⟨some 25, _, _, _, _, _⟩) (v := undef) rfl (by kernel_rfl) (by kernel_rfl) (by kernel_rfl) (fun _ _ _ h => h) (Or.inr ⟨by rfl, rfl⟩) (by assumption) ?_
      try simp only [Act.put, setIfInBounds_toArray, set_cons_zero, set_cons_succ]
      refine wpAnyH_take (i := 16) (oi := ⟨some 26, _, _, _, _, _⟩) (v := undef) rfl (by kernel_rfl) (by kernel_rfl) (by kernel_rfl) (fun _ _ _ h => h) (Or.inr ⟨by rfl, rfl⟩) (by assumption) ?_
      try simp only [Act.put, setIfInBounds_toArray, set_cons_zero, set_cons_succ]
      refine wpAnyH_take (i := 17) (oi := ⟨some 27, _, _, _, _, _⟩) (v := undef) rfl (by kernel_rfl) (by kernel_rfl) (by kernel_rfl) (fun _ _ _ h => h) (Or.inr ⟨by rfl, rfl⟩) (by assumption) ?_
      try simp only [Act.put, setIfInBounds_toArray, set_cons_zero, set_cons_succ]
      refine wpAnyH_take (i := 18) (oi := ⟨some 28, _, _, _, _, _⟩) (v := undef) rfl (by kernel_rfl) (by kernel_rfl) (by kernel_rfl) (fun _ _ _ h => h) (Or.inr ⟨by rfl, rfl⟩) (by assumption) ?_
      try simp only [Act.put, setIfInBounds_toArray, set_cons_zero, set_cons_succ]
      refine wpAnyH_take (i := 19) (oi := ⟨some 29, _, _, _, _, _⟩) (v := undef) rfl (by kernel_rfl) (by kernel_rfl) (by kernel_rfl) (fun _ _ _ h => h) (Or.inr ⟨by rfl, rfl⟩) (by assumption) ?_
      try simp only [Act.put, setIfInBounds_toArray, set_cons_zero, set_cons_succ]
      refine wpAnyH_take (i := 20) (oi := ⟨some 30, _, _, _, _, _⟩) (v := undef) rfl (by kernel_rfl) (by kernel_rfl) (by kernel_rfl) (fun _ _ _ h => h) (Or.inr ⟨by rfl, rfl⟩) (by assumption) ?_
      try simp only [Act.put, setIfInBounds_toArray, set_cons_zero, set_cons_succ]
      refine wpAnyH_take (i := 21) (oi := ⟨some 31, _, _, _, _, _⟩) (v := ?_) rfl (by kernel_rfl) (by kernel_rfl) (by kernel_rfl) (fun _ _ _ h => h) (Or.inl ⟨by rfl, ?_⟩) (by assumption) ?_; rotate_left
      · intro w hSw; (try dsimp only at hSw); go_simp; try with_reducible rfl
      try simp only [Act.put, setIfInBounds_toArray, set_cons_zero, set_cons_succ]
      refine wpAnyH_take (i := 22) (oi := ⟨some 4, _, _, _, _, _⟩) (v := ?_) rfl (by kernel_rfl) (by kernel_rfl) (by kernel_rfl) (fun _ _ _ h => h) (Or.inl ⟨by rfl, ?_⟩) (by assumption) ?_; rotate_left
      · intro w hSw; (try dsimp only at hSw); go_simp; try with_reducible rfl
      try simp only [Act.put, setIfInBounds_toArray, set_cons_zero, set_cons_succ]
      refine wpAnyH_done (by kernel_rfl) ?_ _
      go_wp2_with fail
      go_ret
      exact .inr ⟨HQ.out, rfl, bnextK HB2.out (below_drew8 _ _)⟩
      -- REGION>
  · have HQ : Hid (j.moreR r = none) := Lib.hid (by unfold Jn.moreR; rw [if_neg (fun h => c1 h.1)])
    have e1 : ((j.tail.kind : Int) == 1) = false := by simp; omega
    -- <REGION no1
    refine wp_region_held_drew (S := (fun W => W.cell? ⟨g + 1, 1, none⟩ = some (.int .i64 (j.tail.kind : Int)) ∧ W.cell? ⟨g + 1, 3, none⟩ = some (.int .i64 (j.tail.a : Int)) ∧ W.cell? ⟨g + 1, 2, none⟩ = some (.int .i64 (j.tail.id : Int)) ∧ W.cell? ⟨g + 1, 5, none⟩ = some (.slice tb j.tail.bits.length tc) ∧ W.cell? ⟨g, 5, none⟩ = some (.slice A r.bits.length c))) (by kernel_rfl) ?_ (fun hHeld => ?_)
    · (try dsimp only); first | exact HS2.out | exact HS3.out | exact HS4.out | exact HS5.out
    refine wpAnyH_take (i := 0) (oi := ⟨some 10, _, _, _, _, _⟩) (v := ?_) rfl (by kernel_rfl) (by kernel_rfl) (by kernel_rfl) (fun _ _ _ h => h) (Or.inl ⟨by rfl, ?_⟩) (by assumption) ?_; rotate_left
    · intro w hSw; (try dsimp only at hSw); go_simp; try with_reducible rfl
    try simp only [Act.put, setIfInBounds_toArray, set_cons_zero, set_cons_succ]
    refine wpAnyH_take (i := 1) (oi := ⟨some 11, _, _, _, _, _⟩) (v := ?_) rfl (by kernel_rfl) (by kernel_rfl) (by kernel_rfl) (fun _ _ _ h => h) (Or.inl ⟨by rfl, ?_⟩) (by assumption) ?_; rotate_left
    · intro w hSw; (try dsimp only at hSw); go_simp; try with_reducible rfl
    try simp only [Act.put, setIfInBounds_toArray, set_cons_zero, set_cons_succ]
    refine wpAnyH_take (i := 2) (oi := ⟨some 12, _, _, _, _, _⟩) (v := ?_) rfl (by kernel_rfl) (by kernel_rfl) (by kernel_rfl) (fun _ _ _ h => h) (Or.inl ⟨by rfl, ?_⟩) (by assumption) ?_; rotate_left
    · intro w hSw; (try dsimp only at hSw); go_simp; try with_reducible rfl
    try simp only [Act.put, setIfInBounds_toArray, set_cons_zero, set_cons_succ]
    refine wpAnyH_take (i := 3) (oi := ⟨some 13, _, _, _, _, _⟩) (v := ?_) rfl (by kernel_rfl) (by kernel_rfl) (by kernel_rfl) (fun _ _ _ h => h) (Or.inl ⟨by rfl, ?_⟩) (by assumption) ?_; rotate_left
    · intro w hSw; (try dsimp only at hSw); go_simp; try with_reducible rfl
    try simp only [Act.put, setIfInBounds_toArray, set_cons_zero, set_cons_succ]
    refine wpAnyH_take (i := 4) (oi := ⟨some 14, _, _, _, _, _⟩) (v := undef) rfl (by kernel_rfl) (by kernel_rfl) (by kernel_rfl) (fun _ _ _ h => h) (Or.inr ⟨by rfl, rfl⟩) (by assumption) ?_
    try simp only [Act.put, setIfInBounds_toArray, set_cons_zero, set_cons_succ]
    refine wpAnyH_take (i := 5) (oi := ⟨some 15, _, _, _, _, _⟩) (v := undef) rfl (by kernel_rfl) (by kernel_rfl) (by kernel_rfl) (fun _ _ _ h => h) (Or.inr ⟨by rfl, rfl⟩) (by assumption) ?_
    try simp only [Act.put, setIfInBounds_toArray, set_cons_zero, set_cons_succ]
    refine wpAnyH_take (i := 6) (oi := ⟨some 16, _, _, _, _, _⟩) (v := undef) rfl (by kernel_rfl) (by kernel_rfl) (by kernel_rfl) (fun _ _ _ h => h) (Or.inr ⟨by rfl, rfl⟩) (by assumption) ?_
    try simp only [Act.put, setIfInBounds_toArray, set_cons_zero, set_cons_succ]
    refine wpAnyH_take (i := 7) (oi := ⟨some 17, _, _, _, _, _⟩) (v := ?_) rfl (by kernel_rfl) (by kernel_rfl) (by kernel_rfl) (fun _ _ _ h => h) (Or.inl ⟨by rfl, ?_⟩) (by assumption) ?_; rotate_left
    · intro w hSw; (try dsimp only at hSw); go_simp; try with_reducible rfl
    try simp only [Act.put, setIfInBounds_toArray, set_cons_zero, set_cons_succ]
    refine wpAnyH_take (i := 8) (oi := ⟨some 18, _, _, _, _, _⟩) (v := ?_) rfl (by kernel_rfl) (by kernel_rfl) (by kernel_rfl) (fun _ _ _ h => h) (Or.inl ⟨by rfl, ?_⟩) (by assumption) ?_; rotate_left
    · intro w hSw; (try dsimp only at hSw); go_simp; try with_reducible rfl
    try simp only [Act.put, setIfInBounds_toArray, set_cons_zero, set_cons_succ]
    refine wpAnyH_take (i := 9) (oi := ⟨some 19, _, _, _, _, _⟩) (v := undef) rfl (by kernel_rfl) (by kernel_rfl) (by kernel_rfl) (fun _ _ _ h => h) (Or.inr ⟨by rfl, rfl⟩) (by assumption) ?_
    try simp only [Act.put, setIfInBounds_toArray, set_cons_zero, set_cons_succ]
    refine wpAnyH_take (i := 10) (oi := ⟨some 20, _, _, _, _, _⟩) (v := undef) rfl (by kernel_rfl) (by kernel_rfl) (by kernel_rfl) (fun _ _ _ h => h) (Or.inr ⟨by rfl, rfl⟩) (by assumption) ?_
    try simp only [Act.put, setIfInBounds_toArray, set_cons_zero, set_cons_succ]
    refine wpAnyH_take (i := 11) (oi := ⟨some 21, _, _, _, _, _⟩) (v := undef) rfl (by kernel_rfl) (by kernel_rfl) (by kernel_rfl) (fun _ _ _ h => h) (Or.inr ⟨by rfl, rfl⟩) (by assumption) ?_
    try simp only [Act.put, setIfInBounds_toArray, set_cons_zero, set_cons_succ]
    refine wpAnyH_take (i := 12) (oi := ⟨some 22, _, _, _, _, _⟩) (v := undef) rfl (by kernel_rfl) (by kernel_rfl) (by kernel_rfl) (fun _ _ _ h => h) (Or.inr ⟨by rfl, rfl⟩) (by assumption) ?_
    try simp only [Act.put, setIfInBounds_toArray, set_cons_zero, set_cons_succ]
    refine wpAnyH_take (i := 13) (oi := ⟨some 23, _, _, _, _, _⟩) (v := undef) rfl (by kernel_rfl) (by kernel_rfl) (by kernel_rfl) (fun _ _ _ h => h) (Or.inr ⟨by rfl, rfl⟩) (by assumption) ?_
    try simp only [Act.put, setIfInBounds_toArray, set_cons_zero, set_cons_succ]
    refine wpAnyH_take (i := 14) (oi := ⟨some 24, _, _, _, _, _⟩) (v := undef) rfl (by kernel_rfl) (by kernel_rfl) (by kernel_rfl) (fun _ _ _ h => h) (Or.inr ⟨by rfl, rfl⟩) (by assumption) ?_
    try simp only [Act.put, setIfInBounds_toArray, set_cons_zero, set_cons_succ]
    refine wpAnyH_take (i := 15) (oi := ⟨some 25, _, _, _, _, _⟩) (v := undef) rfl (by kernel_rfl) (by kernel_rfl) (by kernel_rfl) (fun _ _ _ h => h) (Or.inr ⟨by rfl, rfl⟩) (by assumption) ?_
    try simp only [Act.put, setIfInBounds_toArray, set_cons_zero, set_cons_succ]
    refine wpAnyH_take (i := 16) (oi := ⟨some 26, _, _, _, _, _⟩) (v := undef) rfl (by kernel_rfl) (by kernel_rfl) (by kernel_rfl) (fun _ _ _ h => h) (Or.inr ⟨by rfl, rfl⟩) (by assumption) ?_
    try simp only [Act.put, setIfInBounds_toArray, set_cons_zero, set_cons_succ]
    refine wpAnyH_take (i := 17) (oi := ⟨some 27, _, _, _, _, _⟩) (v := undef) rfl (by kernel_rfl) (by kernel_rfl) (by kernel_rfl) (fun _ _ _ h => h) (Or.inr ⟨by rfl, rfl⟩) (by assumption) ?_
    try simp only [Act.put, setIfInBounds_toArray, set_cons_zero, set_cons_succ]
    refine wpAnyH_take (i := 18) (oi := ⟨some 28, _, _, _, _, _⟩) (v := undef) rfl (by kernel_rfl) (by kernel_rfl) (by kernel_rfl) (fun _ _ _ h => h) (Or.inr ⟨by rfl, rfl⟩) (by assumption) ?_
    try simp only [Act.put, setIfInBounds_toArray, set_cons_zero, set_cons_succ]
    refine wpAnyH_take (i := 19) (oi := ⟨some 29, _, _, _, _, _⟩) (v := undef) rfl (by kernel_rfl) (by kernel_rfl) (by kernel_rfl) (fun _ _ _ h => h) (Or.inr ⟨by rfl, rfl⟩) (by assumption) ?_
    try simp only [Act.put, setIfInBounds_toArray, set_cons_zero, set_cons_succ]
    refine wpAnyH_take (i := 20) (oi := ⟨some 30, _, _, _, _, _⟩) (v := undef) rfl (by kernel_rfl) (by kernel_rfl) (by kernel_rfl) (fun _ _ _ h => h) (Or.inr ⟨by rfl, rfl⟩) (by assumption) ?_
    try simp only [Act.put, setIfInBounds_toArray, set_cons_zero, set_cons_succ]
    refine wpAnyH_take (i := 21) (oi := ⟨some 31, _, _, _, _, _⟩) (v := ?_) rfl (by kernel_rfl) (by kernel_rfl) (by kernel_rfl) (fun _ _ _ h => h) (Or.inl ⟨by rfl, ?_⟩) (by assumption) ?_; rotate_left
    · intro w hSw; (try dsimp only at hSw); go_simp; try with_reducible rfl
    try simp only [Act.put, setIfInBounds_toArray, set_cons_zero, set_cons_succ]
    refine wpAnyH_take (i := 22) (oi := ⟨some 4, _, _, _, _, _⟩) (v := ?_) rfl (by kernel_rfl) (by kernel_rfl) (by kernel_rfl) (fun _ _ _ h => h) (Or.inl ⟨by rfl, ?_⟩) (by assumption) ?_; rotate_left
    · intro w hSw; (try dsimp only at hSw); go_simp; try with_reducible rfl
    try simp only [Act.put, setIfInBounds_toArray, set_cons_zero, set_cons_succ]
    refine wpAnyH_done (by kernel_rfl) ?_ _
    go_wp2_with fail
    go_ret
    exact .inr ⟨HQ.out, rfl, bnextK HB2.out (below_drew8 _ _)⟩
    -- REGION>
end
end Go.Proofs.YtdgmjedkhjeadaaGreat
