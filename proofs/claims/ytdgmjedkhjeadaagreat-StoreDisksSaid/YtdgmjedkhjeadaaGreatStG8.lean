/- The contract of state.follow. Conditions: as the statement says. -/
import Derived.Test.YtdgmjedkhjeadaaGreatStE8
import Derived.Test.YtdgmjedkhjeadaaGreatStF8
namespace Go.Proofs.YtdgmjedkhjeadaaGreat
open List (setIfInBounds_toArray set_cons_zero set_cons_succ)
open Go.RowKit
set_option linter.unusedVariables false
/-- What a record must be like to be followed. -/
structure FolOK (j : Jn) (r : Rc) : Prop where
  k1 : 1 ≤ r.kind
  k5 : r.kind ≤ 5
  ok : RcOK r
  a : r.kind = 1 → r.a ≤ 512 ∧ (r.a ≤ 320 → 1 ≤ r.a ∧ (unpB r.bits r.a).isSome = true)
  l : r.bits.length ≤ 100
  keys : j.keys.length ≤ 1000
  tl : j.tail.bits.length ≤ 100
  ta : j.tail.kind = 1 → j.tail.a ≤ 512
  place : j.place < 1000
/-- The cells of the table of steps. -/
def stepT : Array Value := #[.nilFunc, .func (.func 107) #[] #[], .func (.func 108) #[] #[], .func (.func 109) #[] #[], .func (.func 110) #[] #[], .func (.func 111) #[] #[]]
section
variable {w w' : World} {S : Nat} {j : Jn} {kv : Value} {xs : List KB} {tb : Option Addr} {tc : Nat}
theorem step1 (j : Jn) (r : Rc) (h : r.kind = 1) : j.step r = j.keyR r := by unfold Jn.step Jn.keyR; rw [if_pos h]
theorem step2 (j : Jn) (r : Rc) (h : r.kind = 2) : j.step r = j.moreR r := by unfold Jn.step Jn.moreR; rw [if_neg (by omega), if_pos h]
theorem step3 (j : Jn) (r : Rc) (h : r.kind = 3) : j.step r = j.claimR r := by unfold Jn.step Jn.claimR; rw [if_neg (by omega), if_neg (by omega), if_pos h]; rfl
theorem step4 (j : Jn) (r : Rc) (h : r.kind = 4) : j.step r = j.dropR r := by unfold Jn.step Jn.dropR; rw [if_neg (by omega), if_neg (by omega), if_neg (by omega), if_pos h]
theorem step5 (j : Jn) (r : Rc) (h : r.kind = 5) : j.step r = j.openR r := by unfold Jn.step Jn.openR; rw [if_neg (by omega), if_neg (by omega), if_neg (by omega), if_neg (by omega)]
/-- The step of a record's kind, as a function of the table. -/
theorem steps_any (r : Rc) (A : Option Addr) (c : Nat) (X : List Nat) (hf : FolOK j r) : ∃ F, stepT[r.kind]? = some (.func (.func F) #[] #[]) ∧ (∀ args W, (callFunc F args).run Tryz.prog W = .ok (.enter F args) W) ∧
    ∀ w, JnAt w S j kv xs tb tc → BytR w A c r.bits → Calls Tryz.prog F #[.pointer (some ⟨S, 0, none⟩), recV r A c] w (StepP S kv xs tb X (j.step r) w) := by
  have hk1 := hf.k1
  have hk5 := hf.k5
  have hk : r.kind = 1 ∨ r.kind = 2 ∨ r.kind = 3 ∨ r.kind = 4 ∨ r.kind = 5 := by omega
  rcases hk with e | e | e | e | e
  · refine ⟨107, by rw [e]; rfl, fun args W => enters_of Tryz.func107 (by kernel_rfl) rfl _ W, fun w h hr => ?_⟩
    rw [step1 j r e]
    exact key_any h r A c X hf.ok (hf.a e).1 (hf.a e).2 hf.keys hr
  · refine ⟨108, by rw [e]; rfl, fun args W => enters_of Tryz.func108 (by kernel_rfl) rfl _ W, fun w h hr => ?_⟩
    rw [step2 j r e]
    exact more_any h r A c X hf.ok hr hf.tl hf.l hf.keys hf.ta
  · refine ⟨109, by rw [e]; rfl, fun args W => enters_of Tryz.func109 (by kernel_rfl) rfl _ W, fun w h hr => ?_⟩
    rw [step3 j r e]
    exact claim_any h r A c X hf.ok hr
  · refine ⟨110, by rw [e]; rfl, fun args W => enters_of Tryz.func110 (by kernel_rfl) rfl _ W, fun w h hr => ?_⟩
    rw [step4 j r e]
    exact drop_any8 h r A c X hf.ok hr
  · refine ⟨111, by rw [e]; rfl, fun args W => enters_of Tryz.func111 (by kernel_rfl) rfl _ W, fun w h hr => ?_⟩
    rw [step5 j r e]
    exact open_any8 h r A c X hf.ok hr
theorem JnAt.fpT (h : JnAt w S j kv xs tb tc) : ∀ b ∈ fpJ S kv xs, ∃ cs t, Bk w b cs t ∧ (t = 117 ∨ t = 121 ∨ t = 123 ∨ t = 4) := by
  intro b hb
  simp only [fpJ, List.mem_cons, List.mem_append] at hb
  rcases hb with rfl | hb | hb
  · exact ⟨_, _, h.blk, .inl rfl⟩
  · obtain ⟨cs, hc⟩ := own_bk h.row b hb
    exact ⟨cs, _, hc, .inr (.inl rfl)⟩
  · obtain ⟨x, hx, hk⟩ := List.mem_flatMap.1 hb
    obtain ⟨i, hi, rfl⟩ := List.mem_iff_getElem.1 hx
    have hi2 : i < j.keys.length := by rw [← h.xlen]; exact hi
    have hq := h.keys i _ _ (List.getElem?_eq_getElem hi) (List.getElem?_eq_getElem hi2)
    simp only [KB.l, List.mem_cons, List.not_mem_nil, or_false] at hk
    obtain ⟨s, hs⟩ := hq.bits
    obtain ⟨u, hu⟩ := hq.used
    rcases hk with rfl | rfl | rfl
    · exact ⟨_, _, hq.blk, .inr (.inr (.inl rfl))⟩
    · exact ⟨_, _, hs, .inr (.inr (.inr rfl))⟩
    · exact ⟨_, _, hu, .inr (.inr (.inr rfl))⟩
/-- The last record and the place are written. -/
theorem JnAt.setTail (h : JnAt w S j kv xs tb tc) (hk : KeepL [S] w w') (r : Rc) (A : Option Addr) (c : Nat) (p : Nat) (hp : p ≤ 1000) (hr : RcOK r) (hy : BytR w A c r.bits) (hb : Bk w' S (stC kv { j with tail := r, place := p } A c) 117) :
    JnAt w' S { j with tail := r, place := p } kv xs A c :=
  h.own hk hb ⟨h.ok.keys, hp, hr, h.ok.last⟩ rfl (BytR.keepS h hy hk)
theorem wrap64_p8 (x : Nat) (h : x ≤ 1000000) : wrap64 ((x : Int) + 1) = (x : Int) + 1 := by unfold wrap64; omega
theorem step_place {j j' : Jn} {r : Rc} (h : j.step r = some j') : j'.place = j.place := by
  unfold Jn.step at h
  split at h
  · split at h
    · cases h
    · split at h
      · injection h with h; subst h; rfl
      · unfold Jn.add at h
        rw [Option.map_eq_some_iff] at h
        obtain ⟨_, _, rfl⟩ := h; rfl
  · split at h
    · split at h
      · unfold Jn.add at h
        rw [Option.map_eq_some_iff] at h
        obtain ⟨_, _, rfl⟩ := h; rfl
      · cases h
    · split at h
      · split at h
        · cases h
        · dsimp only at h
          split at h
          · cases h
          · injection h with h; subst h; rfl
      · split at h
        · rw [Option.map_eq_some_iff] at h
          obtain ⟨_, _, rfl⟩ := h; rfl
        · split at h
          · cases h
          · injection h with h; subst h; rfl
theorem step_yes {w1 w2 : World} {X : List Nat} {q : Option Jn} (h : StepP S kv xs tb X q w1 (.returned (.bool true)) w2) : ∃ j', q = some j' ∧ JnMut w1 w2 S kv xs tb X j' := by
  rcases h with ⟨j', e1, _, h⟩ | ⟨_, e2, _⟩
  · exact ⟨j', e1, h⟩
  · cases e2
theorem follow_no {w1 w2 : World} {X : List Nat} {q : Option Jn} {r : Rc} (hb : Below w.heap.size w w1) (hq : j.follow r = q.map fun j' => { j' with tail := r, place := j.place + 1 }) (h : StepP S kv xs tb X q w1.drew (.returned (.bool false)) w2) : StepP S kv xs tb X (j.follow r) w (.returned (.bool false)) w2 := by
  rcases h with ⟨j', _, e, _⟩ | ⟨e1, _, h⟩
  · cases e
  · exact .inr ⟨by rw [hq, e1]; rfl, rfl, bnextK (bnextK hb (below_drew8 _ _)) h⟩
set_option maxRecDepth 100000 in
set_option maxHeartbeats 1000000 in
theorem follow_any (h : JnAt w S j kv xs tb tc) (r : Rc) (A : Option Addr) (c : Nat) (X : List Nat) (hX : ∀ k ∈ obT A, k ∈ X) (hf : FolOK j r) (hr : BytR w A c r.bits) :
    Calls Tryz.prog 96 #[.pointer (some ⟨S, 0, none⟩), recV r A c] w (StepP S kv xs tb X (j.follow r) w) := by
  have HN := Lib.hid (StR.new h hr)
  have H := Lib.hid h; have HX := Lib.hid hX
  clear hX
  unfold recV
  go_enter Tryz.func96, Tryz.ntmps96
  go_upto_region 1 with fail
  rw [rc_lit]
  obtain ⟨w1, hw1⟩ : ∃ z, z = w.alloc (.cells (recC r A c) 115) := ⟨_, rfl⟩
  rw [← hw1] at HN ⊢
  have HB1 : Hid (Below w.heap.size w w1) := Lib.hid (by rw [hw1]; exact balloc _ _)
  have HSZ : Hid (w1.heap.size = w.heap.size + 1) := Lib.hid (by rw [hw1, World.size_alloc])
  obtain ⟨g, hg⟩ : ∃ g, g = w.heap.size := ⟨_, rfl⟩
  have HG := Lib.hid hg
  rw [← hg] at HN HSZ ⊢
  clear hw1 hg
  have HTI : Hid ((Tryz.prog.info? 172).map (·.size) = some stepT.size) := Lib.hid (by rw [show stepT.size = 6 from rfl]; kernel_rfl)
  have HTA : Hid (stepT.all (·.oneCell') = true) := Lib.hid (by simp [stepT, Value.oneCell'])
  go_upto_region 2 with (refine wpList_plain rfl fun _ hK => wp_store_row 172 _ _ rfl w1.heap.size stepT rfl rfl _ _ (heap_alloc_new w1 _) HTI.out rfl HTA.out (hK _ _ ?_); rw [World.setRow_alloc_new])
  obtain ⟨w2, hw2⟩ : ∃ z, z = w1.alloc (.cells stepT 172) := ⟨_, rfl⟩
  have hb2 : Below w1.heap.size w1 w2 := by rw [hw2]; exact balloc _ _
  have HT2 : Hid (Bk w2 (g + 1) stepT 172) := Lib.hid (by rw [hw2, ← HSZ.out]; exact Bk.new _ _ _)
  have HN2 := Lib.hid (HN.out.far hb2)
  have HB2 := Lib.hid (bnextK HB1.out hb2)
  rw [← hw2, HSZ.out]
  obtain ⟨F, hF1, hF2, hF3⟩ := steps_any (S := S) (kv := kv) (xs := xs) (tb := tb) (tc := tc) r A c X hf
  have HFT := Lib.hid hF1
  have HS2 : Hid (w2.cell? ⟨g, 0, none⟩ = some (.int .i64 (r.epoch : Int)) ∧ w2.cell? ⟨g, 1, none⟩ = some (.int .i64 (r.kind : Int)) ∧ w2.cell? ⟨g + 1, r.kind, none⟩ = some (.func (.func F) #[] #[]) ∧ Bk w2 g (recC r A c) 115) := Lib.hid ⟨HN2.out.r0, HN2.out.r1, by rw [HT2.out.cell]; exact hF1, HN2.out.rb⟩
  have HST := Lib.hid (hF3 w2.drew (HN2.out.js.far (below_drew8 _ _)) (HN2.out.rr.far (below_drew8 _ _)))
  have s6 : w2.cell? ⟨S, 6, none⟩ = some (.int .i64 (j.tail.epoch : Int)) := HN2.out.js.blk.cell 6
  have HND : Hid (StR w2.drew g S r A c j kv xs tb tc) := Lib.hid (HN2.out.far (below_drew8 _ _))
  have HTD : Hid (Bk w2.drew (g + 1) stepT 172) := HT2
  have hen := fun W => hF2 #[.pointer (some ⟨S, 0, none⟩), recV r A c] W
  have HNG : Hid (g ∉ fpJ S kv xs) := Lib.hid fun hm => by have := H.out.fpLt _ hm; have := HG.out; omega
  have HNT : Hid (g + 1 ∉ fpJ S kv xs) := Lib.hid fun hm => by have := H.out.fpLt _ hm; have := HG.out; omega
  have HF := Lib.hid hf
  have hkd := hf.k5
  have hk6 : (r.kind : Int) < 6 := by omega
  clear hw2 hb2 hF1 hF2 hF3 hf h hr HTI HTA
  by_cases c1 : r.epoch < j.tail.epoch
  · have c1i : (r.epoch : Int) < (j.tail.epoch : Int) := by omega
    have HQ : Hid (j.follow r = none) := Lib.hid (by unfold Jn.follow; rw [if_pos c1])
    -- <REGION no
    refine wp_region_held_drew (S := (fun W => W.cell? ⟨g, 0, none⟩ = some (.int .i64 (r.epoch : Int)) ∧ W.cell? ⟨g, 1, none⟩ = some (.int .i64 (r.kind : Int)) ∧ W.cell? ⟨g + 1, r.kind, none⟩ = some (.func (.func F) #[] #[]) ∧ Bk W g (recC r A c) 115)) (by kernel_rfl) ?_ (fun hHeld => ?_)
    · (try dsimp only); first | exact HS2.out | exact HS3.out
    refine wpAnyH_take (i := 0) (oi := ⟨some 7, _, _, _, _, _⟩) (v := ?_) rfl (by kernel_rfl) (by kernel_rfl) (by kernel_rfl) (fun _ _ _ h => h) (Or.inl ⟨by rfl, ?_⟩) (by assumption) ?_; rotate_left
    · intro w hSw; (try dsimp only at hSw); go_simp; try with_reducible rfl
    try simp only [Act.put, setIfInBounds_toArray, set_cons_zero, set_cons_succ]
    refine wpAnyH_take (i := 1) (oi := ⟨some 8, _, _, _, _, _⟩) (v := ?_) rfl (by kernel_rfl) (by kernel_rfl) (by kernel_rfl) (fun _ _ _ h => h) (Or.inl ⟨by rfl, ?_⟩) (by assumption) ?_; rotate_left
    · intro w hSw; (try dsimp only at hSw); go_simp; try with_reducible rfl
    try simp only [Act.put, setIfInBounds_toArray, set_cons_zero, set_cons_succ]
    refine wpAnyH_take (i := 2) (oi := ⟨some 9, _, _, _, _, _⟩) (v := ?_) rfl (by kernel_rfl) (by kernel_rfl) (by kernel_rfl) (fun _ _ _ h => h) (Or.inl ⟨by rfl, ?_⟩) (by assumption) ?_; rotate_left
    · intro w hSw; (try dsimp only at hSw); go_simp; try with_reducible rfl
    try simp only [Act.put, setIfInBounds_toArray, set_cons_zero, set_cons_succ]
    refine wpAnyH_take (i := 3) (oi := ⟨some 10, _, _, _, _, _⟩) (v := ?_) rfl (by kernel_rfl) (by kernel_rfl) (by kernel_rfl) (fun _ _ _ h => h) (Or.inl ⟨by rfl, ?_⟩) (by assumption) ?_; rotate_left
    · intro w hSw; (try dsimp only at hSw); go_simp; try with_reducible rfl
    try simp only [Act.put, setIfInBounds_toArray, set_cons_zero, set_cons_succ]
    refine wpAnyH_take (i := 4) (oi := ⟨some 11, _, _, _, _, _⟩) (v := ?_) rfl (by kernel_rfl) (by kernel_rfl) (by kernel_rfl) (fun _ _ _ h => h) (Or.inl ⟨by rfl, ?_⟩) (by assumption) ?_; rotate_left
    · intro w hSw; (try dsimp only at hSw); go_simp; try with_reducible rfl
    try simp only [Act.put, setIfInBounds_toArray, set_cons_zero, set_cons_succ]
    refine wpAnyH_take (i := 5) (oi := ⟨some 12, _, _, _, _, _⟩) (v := ?_) rfl (by kernel_rfl) (by kernel_rfl) (by kernel_rfl) (fun _ _ _ h => h) (Or.inl ⟨by rfl, ?_⟩) (by assumption) ?_; rotate_left
    · intro w hSw; (try dsimp only at hSw); go_simp; try with_reducible rfl
    try simp only [Act.put, setIfInBounds_toArray, set_cons_zero, set_cons_succ]
    refine wpAnyH_ready (rs := [6]) (by kernel_rfl) (by simp) ?_
    refine AllReadyH.cons (o := ⟨some 13, _, _, _, _, _⟩) rfl (fun K hK => ?_) AllReadyH.nil
    go_simp
    refine hK.out _ _ ?_ (fun hHeld => ?_)
    · (try dsimp only); first | exact HS2.out | exact HS3.out
    clear hK K
    try simp only [Act.put, setIfInBounds_toArray, set_cons_zero, set_cons_succ]
    refine wpAnyH_take (i := 7) (oi := ⟨some 14, _, _, _, _, _⟩) (v := ?_) rfl (by kernel_rfl) (by kernel_rfl) (by kernel_rfl) (fun _ _ _ h => h) (Or.inl ⟨by rfl, ?_⟩) (by assumption) ?_; rotate_left
    · intro w hSw; (try dsimp only at hSw); go_simp; try with_reducible rfl
    try simp only [Act.put, setIfInBounds_toArray, set_cons_zero, set_cons_succ]
    refine wpAnyH_take (i := 8) (oi := ⟨some 15, _, _, _, _, _⟩) (v := ?_) rfl (by kernel_rfl) (by kernel_rfl) (by kernel_rfl) (fun _ _ _ h => h) (Or.inl ⟨by rfl, ?_⟩) (by assumption) ?_; rotate_left
    · intro w hSw; (try dsimp only at hSw); go_simp; try with_reducible rfl
    try simp only [Act.put, setIfInBounds_toArray, set_cons_zero, set_cons_succ]
    refine wpAnyH_take (i := 9) (oi := ⟨some 16, _, _, _, _, _⟩) (v := undef) rfl (by kernel_rfl) (by kernel_rfl) (by kernel_rfl) (fun _ _ _ h => h) (Or.inr ⟨by rfl, rfl⟩) (by assumption) ?_
    try simp only [Act.put, setIfInBounds_toArray, set_cons_zero, set_cons_succ]
    refine wpAnyH_take (i := 10) (oi := ⟨some 17, _, _, _, _, _⟩) (v := undef) rfl (by kernel_rfl) (by kernel_rfl) (by kernel_rfl) (fun _ _ _ h => h) (Or.inr ⟨by rfl, rfl⟩) (by assumption) ?_
    try simp only [Act.put, setIfInBounds_toArray, set_cons_zero, set_cons_succ]
    refine wpAnyH_take (i := 11) (oi := ⟨some 18, _, _, _, _, _⟩) (v := undef) rfl (by kernel_rfl) (by kernel_rfl) (by kernel_rfl) (fun _ _ _ h => h) (Or.inr ⟨by rfl, rfl⟩) (by assumption) ?_
    try simp only [Act.put, setIfInBounds_toArray, set_cons_zero, set_cons_succ]
    refine wpAnyH_take (i := 12) (oi := ⟨some 19, _, _, _, _, _⟩) (v := undef) rfl (by kernel_rfl) (by kernel_rfl) (by kernel_rfl) (fun _ _ _ h => h) (Or.inr ⟨by rfl, rfl⟩) (by assumption) ?_
    try simp only [Act.put, setIfInBounds_toArray, set_cons_zero, set_cons_succ]
    refine wpAnyH_take (i := 13) (oi := ⟨some 20, _, _, _, _, _⟩) (v := undef) rfl (by kernel_rfl) (by kernel_rfl) (by kernel_rfl) (fun _ _ _ h => h) (Or.inr ⟨by rfl, rfl⟩) (by assumption) ?_
    try simp only [Act.put, setIfInBounds_toArray, set_cons_zero, set_cons_succ]
    refine wpAnyH_take (i := 14) (oi := ⟨some 21, _, _, _, _, _⟩) (v := undef) rfl (by kernel_rfl) (by kernel_rfl) (by kernel_rfl) (fun _ _ _ h => h) (Or.inr ⟨by rfl, rfl⟩) (by assumption) ?_
    try simp only [Act.put, setIfInBounds_toArray, set_cons_zero, set_cons_succ]
    refine wpAnyH_take (i := 15) (oi := ⟨some 22, _, _, _, _, _⟩) (v := undef) rfl (by kernel_rfl) (by kernel_rfl) (by kernel_rfl) (fun _ _ _ h => h) (Or.inr ⟨by rfl, rfl⟩) (by assumption) ?_
    try simp only [Act.put, setIfInBounds_toArray, set_cons_zero, set_cons_succ]
    refine wpAnyH_take (i := 16) (oi := ⟨some 23, _, _, _, _, _⟩) (v := undef) rfl (by kernel_rfl) (by kernel_rfl) (by kernel_rfl) (fun _ _ _ h => h) (Or.inr ⟨by rfl, rfl⟩) (by assumption) ?_
    try simp only [Act.put, setIfInBounds_toArray, set_cons_zero, set_cons_succ]
    refine wpAnyH_take (i := 17) (oi := ⟨some 24, _, _, _, _, _⟩) (v := ?_) rfl (by kernel_rfl) (by kernel_rfl) (by kernel_rfl) (fun _ _ _ h => h) (Or.inl ⟨by rfl, ?_⟩) (by assumption) ?_; rotate_left
    · intro w hSw; (try dsimp only at hSw); go_simp; try with_reducible rfl
    try simp only [Act.put, setIfInBounds_toArray, set_cons_zero, set_cons_succ]
    refine wpAnyH_done (by kernel_rfl) ?_ _
    go_wp2_with fail
    go_ret
    exact .inr ⟨HQ.out, rfl, bnextK HB2.out (below_drew8 _ _)⟩
    -- REGION>
  · have c1i : ¬ (r.epoch : Int) < (j.tail.epoch : Int) := by omega
    have HQ : Hid (j.follow r = (j.step r).map fun j' => { j' with tail := r, place := j.place + 1 }) := Lib.hid (by unfold Jn.follow; rw [if_neg c1])
    -- <REGION yes
    refine wp_region_held_drew (S := (fun W => W.cell? ⟨g, 0, none⟩ = some (.int .i64 (r.epoch : Int)) ∧ W.cell? ⟨g, 1, none⟩ = some (.int .i64 (r.kind : Int)) ∧ W.cell? ⟨g + 1, r.kind, none⟩ = some (.func (.func F) #[] #[]) ∧ Bk W g (recC r A c) 115)) (by kernel_rfl) ?_ (fun hHeld => ?_)
    · (try dsimp only); first | exact HS2.out | exact HS3.out
    refine wpAnyH_take (i := 0) (oi := ⟨some 7, _, _, _, _, _⟩) (v := ?_) rfl (by kernel_rfl) (by kernel_rfl) (by kernel_rfl) (fun _ _ _ h => h) (Or.inl ⟨by rfl, ?_⟩) (by assumption) ?_; rotate_left
    · intro w hSw; (try dsimp only at hSw); go_simp; try with_reducible rfl
    try simp only [Act.put, setIfInBounds_toArray, set_cons_zero, set_cons_succ]
    refine wpAnyH_take (i := 1) (oi := ⟨some 8, _, _, _, _, _⟩) (v := ?_) rfl (by kernel_rfl) (by kernel_rfl) (by kernel_rfl) (fun _ _ _ h => h) (Or.inl ⟨by rfl, ?_⟩) (by assumption) ?_; rotate_left
    · intro w hSw; (try dsimp only at hSw); go_simp; try with_reducible rfl
    try simp only [Act.put, setIfInBounds_toArray, set_cons_zero, set_cons_succ]
    refine wpAnyH_take (i := 2) (oi := ⟨some 9, _, _, _, _, _⟩) (v := ?_) rfl (by kernel_rfl) (by kernel_rfl) (by kernel_rfl) (fun _ _ _ h => h) (Or.inl ⟨by rfl, ?_⟩) (by assumption) ?_; rotate_left
    · intro w hSw; (try dsimp only at hSw); go_simp; try with_reducible rfl
    try simp only [Act.put, setIfInBounds_toArray, set_cons_zero, set_cons_succ]
    refine wpAnyH_take (i := 3) (oi := ⟨some 10, _, _, _, _, _⟩) (v := ?_) rfl (by kernel_rfl) (by kernel_rfl) (by kernel_rfl) (fun _ _ _ h => h) (Or.inl ⟨by rfl, ?_⟩) (by assumption) ?_; rotate_left
    · intro w hSw; (try dsimp only at hSw); go_simp; try with_reducible rfl
    try simp only [Act.put, setIfInBounds_toArray, set_cons_zero, set_cons_succ]
    refine wpAnyH_take (i := 4) (oi := ⟨some 11, _, _, _, _, _⟩) (v := ?_) rfl (by kernel_rfl) (by kernel_rfl) (by kernel_rfl) (fun _ _ _ h => h) (Or.inl ⟨by rfl, ?_⟩) (by assumption) ?_; rotate_left
    · intro w hSw; (try dsimp only at hSw); go_simp; try with_reducible rfl
    try simp only [Act.put, setIfInBounds_toArray, set_cons_zero, set_cons_succ]
    refine wpAnyH_take (i := 5) (oi := ⟨some 12, _, _, _, _, _⟩) (v := ?_) rfl (by kernel_rfl) (by kernel_rfl) (by kernel_rfl) (fun _ _ _ h => h) (Or.inl ⟨by rfl, ?_⟩) (by assumption) ?_; rotate_left
    · intro w hSw; (try dsimp only at hSw); go_simp; try with_reducible rfl
    try simp only [Act.put, setIfInBounds_toArray, set_cons_zero, set_cons_succ]
    refine wpAnyH_ready (rs := [6]) (by kernel_rfl) (by simp) ?_
    refine AllReadyH.cons (o := ⟨some 13, _, _, _, _, _⟩) rfl (fun K hK => ?_) AllReadyH.nil
    go_simp
    refine hK.out _ _ ?_ (fun hHeld => ?_)
    · (try dsimp only); first | exact HS2.out | exact HS3.out
    clear hK K
    try simp only [Act.put, setIfInBounds_toArray, set_cons_zero, set_cons_succ]
    refine wpAnyH_take (i := 7) (oi := ⟨some 14, _, _, _, _, _⟩) (v := ?_) rfl (by kernel_rfl) (by kernel_rfl) (by kernel_rfl) (fun _ _ _ h => h) (Or.inl ⟨by rfl, ?_⟩) (by assumption) ?_; rotate_left
    · intro w hSw; (try dsimp only at hSw); go_simp; try with_reducible rfl
    try simp only [Act.put, setIfInBounds_toArray, set_cons_zero, set_cons_succ]
    refine wpAnyH_take (i := 8) (oi := ⟨some 15, _, _, _, _, _⟩) (v := ?_) rfl (by kernel_rfl) (by kernel_rfl) (by kernel_rfl) (fun _ _ _ h => h) (Or.inl ⟨by rfl, ?_⟩) (by assumption) ?_; rotate_left
    · intro w hSw; (try dsimp only at hSw); go_simp; try with_reducible rfl
    try simp only [Act.put, setIfInBounds_toArray, set_cons_zero, set_cons_succ]
    refine wpAnyH_take (i := 9) (oi := ⟨some 16, _, _, _, _, _⟩) (v := ?_) rfl (by kernel_rfl) (by kernel_rfl) (by kernel_rfl) (fun _ _ _ h => h) (Or.inl ⟨by rfl, ?_⟩) (by assumption) ?_; rotate_left
    · intro w hSw; (try dsimp only at hSw); go_simp; try with_reducible rfl
    try simp only [Act.put, setIfInBounds_toArray, set_cons_zero, set_cons_succ]
    refine wpAnyH_take (i := 10) (oi := ⟨some 17, _, _, _, _, _⟩) (v := ?_) rfl (by kernel_rfl) (by kernel_rfl) (by kernel_rfl) (fun _ _ _ h => h) (Or.inl ⟨by rfl, ?_⟩) (by assumption) ?_; rotate_left
    · intro w hSw; (try dsimp only at hSw); go_simp; try with_reducible rfl
    try simp only [Act.put, setIfInBounds_toArray, set_cons_zero, set_cons_succ]
    refine wpAnyH_take (i := 11) (oi := ⟨some 18, _, _, _, _, _⟩) (v := ?_) rfl (by kernel_rfl) (by kernel_rfl) (by kernel_rfl) (fun _ _ _ h => h) (Or.inl ⟨by rfl, ?_⟩) (by assumption) ?_; rotate_left
    · intro w hSw; (try dsimp only at hSw); go_simp; try with_reducible rfl
    try simp only [Act.put, setIfInBounds_toArray, set_cons_zero, set_cons_succ]
    refine wpAnyH_take (i := 12) (oi := ⟨some 19, _, _, _, _, _⟩) (v := ?_) rfl (by kernel_rfl) (by kernel_rfl) (by kernel_rfl) (fun _ _ _ h => h) (Or.inl ⟨by rfl, ?_⟩) (by assumption) ?_; rotate_left
    · intro w hSw; (try dsimp only at hSw); go_simp; try with_reducible rfl
    try simp only [Act.put, setIfInBounds_toArray, set_cons_zero, set_cons_succ]
    refine wpAnyH_take (i := 13) (oi := ⟨some 20, _, _, _, _, _⟩) (v := ?_) rfl (by kernel_rfl) (by kernel_rfl) (by kernel_rfl) (fun _ _ _ h => h) (Or.inl ⟨by rfl, ?_⟩) (by assumption) ?_; rotate_left
    · intro w hSw; (try dsimp only at hSw); go_simp; try with_reducible rfl
    try simp only [Act.put, setIfInBounds_toArray, set_cons_zero, set_cons_succ]
    refine wpAnyH_take (i := 14) (oi := ⟨some 21, _, _, _, _, _⟩) (v := recV r A c) rfl (by kernel_rfl) (by kernel_rfl) (by kernel_rfl) (fun _ _ _ h => h) (Or.inl ⟨by rfl, ?_⟩) (by assumption) ?_
    · (intro w hSw; (try dsimp only at hSw); exact run_load_rec _ rfl g rfl r A c hSw.2.2.2)
    try simp only [Act.put, setIfInBounds_toArray, set_cons_zero, set_cons_succ]
    refine wpAnyH_ready (rs := [15]) (by kernel_rfl) (by simp) ?_
    refine AllReadyH.cons (o := ⟨some 22, _, _, _, _, _⟩) rfl (fun K hK => ?_) AllReadyH.nil
    go_simp
    refine HST.out.mono ?_
    intro e' w3 hp3
    have HKL : Hid (KeepL (fpJ S kv xs) w2.drew w3) := Lib.hid (by rcases hp3 with ⟨_, _, _, h⟩ | ⟨_, _, h⟩; exact h.2; exact KeepL.of_below h)
    have HRB3 := Lib.hid (HND.out.rb.keepL HKL.out HNG.out)
    have HTB3 := Lib.hid (HTD.out.keepL HKL.out HNT.out)
    have HRR3 : Hid (BytR w3 A c r.bits) := Lib.hid (own_keepT HND.out.rr HKL.out fun b hb => by
      obtain ⟨cs, t, h1, h2⟩ := HND.out.js.fpT b hb
      exact ⟨cs, t, h1, by rcases h2 with rfl | rfl | rfl | rfl <;> decide⟩)
    have HS3 : Hid (w3.cell? ⟨g, 0, none⟩ = some (.int .i64 (r.epoch : Int)) ∧ w3.cell? ⟨g, 1, none⟩ = some (.int .i64 (r.kind : Int)) ∧ w3.cell? ⟨g + 1, r.kind, none⟩ = some (.func (.func F) #[] #[]) ∧ Bk w3 g (recC r A c) 115) := Lib.hid ⟨HRB3.out.cell 0, HRB3.out.cell 1, by rw [HTB3.out.cell]; exact HFT.out, HRB3.out⟩
    obtain ⟨bz, hbz, hpz⟩ : ∃ bz, e' = .returned (.bool bz) ∧ StepP S kv xs tb X (j.step r) w2.drew (.returned (.bool bz)) w3 := by
      rcases hp3 with ⟨j', h1, rfl, h⟩ | ⟨h1, rfl, h⟩
      · exact ⟨true, rfl, .inl ⟨j', h1, rfl, h⟩⟩
      · exact ⟨false, rfl, .inr ⟨h1, rfl, h⟩⟩
    subst hbz
    have HPZ := Lib.hid hpz
    clear hp3 hpz
    go_wp2_with fail
    refine hK.out _ _ ?_ (fun hHeld => ?_)
    · (try dsimp only); first | exact HS2.out | exact HS3.out
    clear hK K
    try simp only [Act.put, setIfInBounds_toArray, set_cons_zero, set_cons_succ]
    refine wpAnyH_take (i := 16) (oi := ⟨some 23, _, _, _, _, _⟩) (v := ?_) rfl (by kernel_rfl) (by kernel_rfl) (by kernel_rfl) (fun _ _ _ h => h) (Or.inl ⟨by rfl, ?_⟩) (by assumption) ?_; rotate_left
    · intro w hSw; (try dsimp only at hSw); go_simp; try with_reducible rfl
    try simp only [Act.put, setIfInBounds_toArray, set_cons_zero, set_cons_succ]
    refine wpAnyH_take (i := 17) (oi := ⟨some 24, _, _, _, _, _⟩) (v := ?_) rfl (by kernel_rfl) (by kernel_rfl) (by kernel_rfl) (fun _ _ _ h => h) (Or.inl ⟨by rfl, ?_⟩) (by assumption) ?_; rotate_left
    · intro w hSw; (try dsimp only at hSw); go_simp; try with_reducible rfl
    try simp only [Act.put, setIfInBounds_toArray, set_cons_zero, set_cons_succ]
    refine wpAnyH_done (by kernel_rfl) ?_ _
    cases bz with
    | false =>
      go_wp2_with fail
      go_ret
      exact follow_no HB2.out HQ.out HPZ.out
    | true =>
      obtain ⟨j', hj', ⟨kv', xs', tb', tc', h5, h6, h7⟩, h8⟩ := step_yes HPZ.out
      have HJ' := Lib.hid hj'; have H5 := Lib.hid h5; have H6 := Lib.hid h6; have H8 := Lib.hid h8
      have hpl : j'.place = j.place := step_place hj'
      have hplb := HF.out.place
      have HTH : Hid (w3.there S 6 (recC r A c).size) := Lib.hid fun k hk => by
        have hk6' : k < 6 := by simpa [recC] using hk
        rw [h5.cells]
        match k, hk6' with
        | 0, _ => exact ⟨rfl, h5.blk.froz _⟩
        | 1, _ => exact ⟨rfl, h5.blk.froz _⟩
        | 2, _ => exact ⟨rfl, h5.blk.froz _⟩
        | 3, _ => exact ⟨rfl, h5.blk.froz _⟩
        | 4, _ => exact ⟨rfl, h5.blk.froz _⟩
        | 5, _ => exact ⟨rfl, h5.blk.froz _⟩
      have c5 : w3.cell? ⟨S, 5, none⟩ = some (.int .i64 (j.place : Int)) := by rw [h5.cells, ← hpl]; rfl
      have f6 := fun i => h5.blk.froz i
      have HRI := Lib.hid (recC_info r A c)
      clear hj' h5 h6 h7 h8
      go_upto_region 5 with (first
        | (refine wpList_load_row rfl 115 _ rfl g rfl _ (recC r A c) (0, 0) _ HRB3.out Tryz.underlying115 rfl HRI.out ?_)
        | (refine wpList_store_mid rfl 115 _ _ rfl S 6 (recC r A c) (by simp [Act.eval]) rfl HTH.out HRI.out (recC_all _ _ _) ?_))
      have HB4 : Hid (Bk (w3.setCells S 6 (recC r A c).toList) S (stC kv' { j' with tail := r } A c) 117) := Lib.hid ((((((H5.out.blk.set 6 (.int .i64 (r.epoch : Int))).set 7 (.int .i64 (r.kind : Int))).set 8 (.int .i64 (r.id : Int))).set 9 (.int .i64 (r.a : Int))).set 10 (.int .i64 (r.b : Int))).set 11 (.slice A r.bits.length c))
      have HK4 : Hid (KeepL [S] w3 (w3.setCells S 6 (recC r A c).toList)) := Lib.hid ((((((KeepL.set _ _ _ _).trans (KeepL.set _ _ _ _)).trans (KeepL.set _ _ _ _)).trans (KeepL.set _ _ _ _)).trans (KeepL.set _ _ _ _)).trans (KeepL.set _ _ _ _))
      generalize w3.setCells S 6 (recC r A c).toList = w4 at HB4 HK4 ⊢
      have c5' : w4.cell? ⟨S, 5, none⟩ = some (.int .i64 (j.place : Int)) := by rw [HB4.out.cell, ← hpl]; rfl
      have f5' := HB4.out.froz 5
      have hw5 : wrap64 ((j.place : Int) + 1) = (j.place : Int) + 1 := wrap64_p8 _ (by omega)
      clear c5 f6
      go_wp2_with fail
      go_ret
      have hk5 : KeepL [S] w3 (w4.setCell ⟨S, 5, none⟩ (.int .i64 ((j.place : Int) + 1))) := HK4.out.trans (KeepL.set _ _ _ _)
      have hb5 : Bk (w4.setCell ⟨S, 5, none⟩ (.int .i64 ((j.place : Int) + 1))) S (stC kv' { j' with tail := r, place := j.place + 1 } A c) 117 := HB4.out.set 5 (.int .i64 ((j.place : Int) + 1))
      have hj5 := H5.out.setTail hk5 r A c (j.place + 1) (by omega) HF.out.ok HRR3.out hb5
      refine .inl ⟨_, by rw [HQ.out, HJ'.out]; rfl, rfl, ⟨kv', xs', A, c, hj5, fun k hk => ?_, fun k hk => .inr (.inl (HX.out k hk))⟩, ?_⟩
      · rcases H6.out k hk with h | h
        · exact .inl h
        · have := HB2.out.size
          exact .inr (Nat.le_trans this h)
      · refine (KeepL.of_below (bnextK HB2.out (below_drew8 _ _))).trans (H8.out.then hk5 fun b hb => ?_)
        rw [List.mem_singleton] at hb
        subst hb
        exact .inl (by simp [fpJ])
    -- REGION>
end
end Go.Proofs.YtdgmjedkhjeadaaGreat
