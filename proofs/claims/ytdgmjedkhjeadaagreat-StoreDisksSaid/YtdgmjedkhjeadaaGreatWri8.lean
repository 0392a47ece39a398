/- The contract of a store's write. Conditions: as the statement says. -/
import Derived.Test.YtdgmjedkhjeadaaGreatJou8
import Derived.Test.YtdgmjedkhjeadaaGreatGua8
import Derived.Test.YtdgmjedkhjeadaaGreatSecW8
namespace Go.Proofs.YtdgmjedkhjeadaaGreat
open List (setIfInBounds_toArray set_cons_zero set_cons_succ)
open Go.RowKit
set_option linter.unusedVariables false
/-- A record of the store's own epoch. -/
def Rc.at' (r : Rc) (e : Nat) : Rc := { r with epoch := e }
/-- A record is written: whether the disk crashes in it, the disk and the store behind it. -/
def StM.write (d : Dk) (s : StM) (r : Rc) : Bool × Dk × StM :=
  let q := d.put s.j.place (secR (r.at' s.epoch) s.j.place)
  if q.1 = true then (true, q.2, s) else (false, q.2, { s with j := (s.j.follow (r.at' s.epoch)).getD s.j })
section
variable {w w' : World} {S D : Nat} {d : Dk} {s : StM} {bs bm cp : Nat} {p : Option Addr} {F B : List Nat}
def WrP (D S bs bm cp : Nat) (p : Option Addr) (F B X : List Nat) (q : Bool × Dk × StM) (w : World) (e : Ending) (w' : World) : Prop :=
  (q.1 = true → e = .panicked crashP) ∧ (q.1 = false → e = .returned (.tuple #[])) ∧ SysM w w' D S bs bm cp p F B X q.2.1 q.2.2
theorem step_keep {T : Nat} {kv : Value} {xs : List KB} {tb : Option Addr} {X : List Nat} {q : Option Jn} {e : Ending} (h : StepP T kv xs tb X q w e w') : KeepL (fpJ T kv xs) w w' := by
  rcases h with ⟨_, _, _, h⟩ | ⟨_, _, h⟩
  · exact h.2
  · exact KeepL.of_below h
theorem JnAt.fpN {T : Nat} {j : Jn} {kv : Value} {xs : List KB} {tb : Option Addr} {tc : Nat} (h : JnAt w T j kv xs tb tc) {b : Nat} {cs : Array Value} {t : TypeId} (hb : Bk w b cs t) (h1 : t ≠ 117) (h2 : t ≠ 121) (h3 : t ≠ 123) (h4 : t ≠ 4) : b ∉ fpJ T kv xs := fun hm => by
  obtain ⟨cs', t', e1, e2⟩ := h.fpT b hm
  rcases e2 with rfl | rfl | rfl | rfl
  · exact hb.ne e1 h1 rfl
  · exact hb.ne e1 h2 rfl
  · exact hb.ne e1 h3 rfl
  · exact hb.ne e1 h4 rfl
theorem StAt.disk {T : Nat} {kv : Value} {xs : List KB} {tb : Option Addr} {tc : Nat} (h : StAt w S D s T kv xs tb tc) (hd : DkAt w D d bs bm cp p) (hk : KeepL (fpL D bs bm p) w w') : StAt w' S D s T kv xs tb tc := by
  have hi : StIn w S D s (S :: fpJ T kv xs) (obT tb) := ⟨T, kv, xs, tb, tc, h, rfl, rfl⟩
  obtain ⟨t1, t2⟩ := hi.types
  have n1 : ∀ k ∈ S :: fpJ T kv xs, k ∉ fpL D bs bm p := fun k hk2 => by
    obtain ⟨cs, t, h1, h2⟩ := t1 k hk2
    exact hd.fpN h1 (by rcases h2 with rfl | rfl | rfl | rfl | rfl <;> decide) (by rcases h2 with rfl | rfl | rfl | rfl | rfl <;> decide) (by rcases h2 with rfl | rfl | rfl | rfl | rfl <;> decide)
  have n2 : ∀ k ∈ obT tb, k ∉ fpL D bs bm p := fun k hk2 => by
    obtain ⟨cs, h1⟩ := t2 k hk2
    exact hd.fpN h1 (by decide) (by decide) (by decide)
  exact ⟨h.blk.keepL hk (n1 _ (by simp)), h.js.keepL hk (fun k hk => n1 k (by simp [hk])) n2, h.ok⟩
theorem wr_bad {X : List Nat} {r' r : Rc} {w6 : World} (hw : s.write d r = if (d.put s.j.place (secR r' s.j.place)).1 = true then (true, (d.put s.j.place (secR r' s.j.place)).2, s) else (false, (d.put s.j.place (secR r' s.j.place)).2, { s with j := (s.j.follow r').getD s.j })) (hc : (d.put s.j.place (secR r' s.j.place)).1 = true)
    (h : SysM w w6 D S bs bm cp p F B X (d.put s.j.place (secR r' s.j.place)).2 s) : WrP D S bs bm cp p F B X (s.write d r) w (.panicked crashP) w6 := by
  rw [hw, if_pos hc]
  unfold WrP
  exact ⟨fun _ => rfl, fun h => Bool.noConfusion h, h⟩
theorem wr_ok {X : List Nat} {r' r : Rc} {w6 w8 : World} {e : Ending} {A : Option Addr} {T : Nat} {kv : Value} {xs : List KB} {tb : Option Addr} {tc : Nat}
    (hw : s.write d r = if (d.put s.j.place (secR r' s.j.place)).1 = true then (true, (d.put s.j.place (secR r' s.j.place)).2, s) else (false, (d.put s.j.place (secR r' s.j.place)).2, { s with j := (s.j.follow r').getD s.j })) (hc : ¬ (d.put s.j.place (secR r' s.j.place)).1 = true)
    (h : SysM w w6 D S bs bm cp p F B X (d.put s.j.place (secR r' s.j.place)).2 s) (h6 : StAt w6 S D s T kv xs tb tc) (hF : F = S :: fpJ T kv xs) (hB : B = obT tb) (hX : ∀ k ∈ obT A, k ∈ X) (hg : RcG r') (hp : StepP T kv xs tb (obT A) (s.j.follow r') w6.drew e w8) :
    WrP D S bs bm cp p F B X (s.write d r) w (.returned (.tuple #[])) w8 := by
  rw [hw, if_neg hc]
  unfold WrP
  refine ⟨fun h => Bool.noConfusion h, fun _ => rfl, ?_⟩
  have k1 := h.k
  obtain ⟨p1, d1, d2⟩ := h.d
  have hi6 : StIn w6 S D s F B := ⟨T, kv, xs, tb, tc, h6, hF, hB⟩
  rcases hp with ⟨j', hj, _, ⟨⟨kv', xs', tb', tc', j1, j2, j3⟩, j4⟩⟩ | ⟨hj, _, hb⟩
  · have hKF : KeepL (fpJ T kv xs) w6 w8 := (KeepL.of_below (below_drew8 w6 _)).trans j4
    have hS : S ∉ fpJ T kv xs := fun hm => by
      obtain ⟨cs, t, h1, h2⟩ := h6.js.fpT S hm
      exact h1.ne h6.blk (by rcases h2 with rfl | rfl | rfl | rfl <;> decide) rfl
    have hjr := (h6.ok.jr.next hg hj).1
    rw [hj]
    refine ⟨⟨p1, d1.store hi6 (hKF.sub fun k hk => by rw [hF]; simp [hk]), d2⟩, ⟨S :: fpJ T kv' xs', obT tb', ⟨T, kv', xs', tb', tc', ⟨h6.blk.keepL hKF hS, j1, ⟨h6.ok.area, h6.ok.epoch, hjr⟩⟩, rfl, rfl⟩, fun k hk => ?_, fun k hk => ?_⟩, k1.then hKF fun b hb => ?_⟩
    · have hs := k1.size
      rw [hF]
      rcases List.mem_cons.1 hk with rfl | hk
      · exact .inl (by simp)
      · rcases j2 k hk with h | h
        · exact .inl (by simp [h])
        · exact .inr (Nat.le_trans hs h)
    · have hs := k1.size
      rcases j3 k hk with h | h | h
      · exact .inl (by rw [hB]; exact h)
      · exact .inr (.inl (hX k h))
      · exact .inr (.inr (Nat.le_trans hs h))
    · exact .inl (List.mem_append.2 (.inr (by rw [hF]; simp [hb])))
  · rw [hj]
    exact ⟨⟨p1, d1.far ((below_drew8 _ _).trans hb), d2⟩, ⟨F, B, hi6.far ((below_drew8 _ _).trans hb), fun k hk => .inl hk, fun k hk => .inl hk⟩, k1.trans (.of_below ((below_drew8 _ _).trans hb))⟩
/-- What a write must find. -/
structure WrOK (d : Dk) (s : StM) (r : Rc) : Prop where
  age : AgeOK d
  g : RcG (r.at' s.epoch)
  p : s.j.place < d.dur.length
set_option maxRecDepth 100000 in
set_option maxHeartbeats 2000000 in
theorem swrite_any (hd : DkAt w D d bs bm cp p) (hs : StIn w S D s F B) (r : Rc) (A : Option Addr) (c : Nat) (hr : BytR w A c r.bits) (ho : WrOK d s r) (X : List Nat) (hX : ∀ k ∈ obT A, k ∈ X) :
    Calls Tryz.prog 69 #[.pointer (some ⟨S, 0, none⟩), recV r A c] w (WrP D S bs bm cp p F B X (s.write d r) w) := by
  have HSI := Lib.hid hs
  obtain ⟨T, kv, xs, tb, tc, h1, hF, hB⟩ := hs
  have hn := hd.ok.n256
  have HD := Lib.hid hd; have H1 := Lib.hid h1; have HR := Lib.hid hr; have HO := Lib.hid ho; have HX := Lib.hid hX; have HFE := Lib.hid hF; have HBE := Lib.hid hB
  obtain ⟨r', hr'⟩ : ∃ q, q = r.at' s.epoch := ⟨_, rfl⟩
  have HRE := Lib.hid hr'
  have hs0 : w.cell? ⟨S, 0, none⟩ = some (.pointer (some ⟨D, 0, none⟩)) := h1.blk.cell 0
  have hs3 : w.cell? ⟨S, 3, none⟩ = some (.int .i64 (s.epoch : Int)) := h1.blk.cell 3
  have hs4 : w.cell? ⟨S, 4, none⟩ = some (.pointer (some ⟨T, 0, none⟩)) := h1.blk.cell 4
  have ht5 : w.cell? ⟨T, 5, none⟩ = some (.int .i64 (s.j.place : Int)) := h1.js.blk.cell 5
  have HLT : Hid (S < w.heap.size ∧ T < w.heap.size) := Lib.hid ⟨h1.blk.lt, h1.js.blk.lt⟩
  have HCF : Hid (∀ W, Below w.heap.size w W → W.cell? ⟨S, 0, none⟩ = some (.pointer (some ⟨D, 0, none⟩)) ∧ W.cell? ⟨S, 4, none⟩ = some (.pointer (some ⟨T, 0, none⟩)) ∧ W.cell? ⟨T, 5, none⟩ = some (.int .i64 (s.j.place : Int))) := Lib.hid fun W hW =>
    ⟨(hW.cell (p := ⟨S, 0, none⟩) HLT.out.1).trans hs0, (hW.cell (p := ⟨S, 4, none⟩) HLT.out.1).trans hs4, (hW.cell (p := ⟨T, 5, none⟩) HLT.out.2).trans ht5⟩
  obtain ⟨w1, hw1⟩ : ∃ z, z = w.alloc (.cells (recC r A c) 115) := ⟨_, rfl⟩
  obtain ⟨g, hg⟩ : ∃ g, g = w.heap.size := ⟨_, rfl⟩
  have hb1 : Below w.heap.size w w1 := by rw [hw1]; exact balloc _ _
  have hg1 : Bk w1 g (recC r A c) 115 := by rw [hw1, hg]; exact Bk.new _ _ _
  have a0 : w1.cell? ⟨g, 0, none⟩ = some (.int .i64 (r.epoch : Int)) := hg1.cell 0
  have f0 := hg1.froz 0
  have b3 : w1.cell? ⟨S, 3, none⟩ = some (.int .i64 (s.epoch : Int)) := (hb1.cell (p := ⟨S, 3, none⟩) h1.blk.lt).trans hs3
  obtain ⟨w2, hw2⟩ : ∃ z, z = w1.setCell ⟨g, 0, none⟩ (.int .i64 (s.epoch : Int)) := ⟨_, rfl⟩
  have hg2 : Bk w2 g (recC r' A c) 115 := by rw [hw2, hr']; exact hg1.set 0 (.int .i64 (s.epoch : Int))
  have hb2 : Below w.heap.size w w2 := by rw [hw2]; exact hb1.trans (below_set8 _ _ (by rw [hg]; exact Nat.le_refl _))
  have HW1 := Lib.hid hw1; have HW2 := Lib.hid hw2; have HG := Lib.hid hg; have HG2 := Lib.hid hg2; have HB2 := Lib.hid hb2
  obtain ⟨c0, c4, c5⟩ := HCF.out w2 hb2
  have HC2 : Hid (w2.cell? ⟨S, 0, none⟩ = some (.pointer (some ⟨D, 0, none⟩)) ∧ w2.cell? ⟨S, 4, none⟩ = some (.pointer (some ⟨T, 0, none⟩)) ∧ w2.cell? ⟨T, 5, none⟩ = some (.int .i64 (s.j.place : Int)) ∧ Bk w2 g (recC r' A c) 115) := Lib.hid ⟨c0, c4, c5, hg2⟩
  have HRG : Hid (RcG r') := Lib.hid (by rw [hr']; exact ho.g)
  have HRB : Hid (r'.bits = r.bits) := Lib.hid (by rw [hr']; rfl)
  have HRR2 : Hid (BytR w2 A c r'.bits) := Lib.hid (by rw [HRB.out]; exact ownsRow_keepB (L := []) hr (.of_below hb2) (by simp))
  have hpl : s.j.place < d.dur.length := ho.p
  have HSEC : Hid (Calls Tryz.prog 95 #[recV r' A c, .int .i64 (s.j.place : Int)] w2.drew (RetV (secV (secR r' s.j.place)) w2.drew)) := Lib.hid (sector_any r' A c _ s.j.place w2.drew HRG.out.ok (by omega) (Nat.le_refl _) (Rd.own (HRR2.out.far (below_drew8 _ _))))
  have HSO : Hid (SecOK (secR r' s.j.place)) := Lib.hid (secR_ok _ _ HRG.out.bits)
  have HWR : Hid (s.write d r = if (d.put s.j.place (secR r' s.j.place)).1 = true then (true, (d.put s.j.place (secR r' s.j.place)).2, s) else (false, (d.put s.j.place (secR r' s.j.place)).2, { s with j := (s.j.follow r').getD s.j })) := Lib.hid (by unfold StM.write; rw [hr'])
  have HFO : Hid (FolOK s.j r') := Lib.hid (HSI.out.ok.jr.fol HRG.out (by omega))
  clear hd hs0 hs3 hs4 ht5 hw1 hw2 hg hg1 hg2 hb1 hb2 hr ho hX hF hB h1 c0 c4 c5 hr'
  unfold recV
  unfold secV at HSEC
  go_enter Tryz.func69, Tryz.ntmps69
  go_upto_region 1 with fail
  rw [rc_lit, ← HW1.out, ← HG.out]
  go_upto_region 2 with fail
  rw [← HW2.out]
  clear a0 f0 b3
  obtain ⟨bc, hbc⟩ : ∃ b, b = (d.put s.j.place (secR r' s.j.place)).1 := ⟨_, rfl⟩
  cases bc with
  | true =>
    have HCQ := Lib.hid hbc.symm
    clear hbc
    -- <REGION bad
    refine wp_region_held_drew (S := (fun W => W.cell? ⟨S, 0, none⟩ = some (.pointer (some ⟨D, 0, none⟩)) ∧ W.cell? ⟨S, 4, none⟩ = some (.pointer (some ⟨T, 0, none⟩)) ∧ W.cell? ⟨T, 5, none⟩ = some (.int .i64 (s.j.place : Int)) ∧ Bk W g (recC r' A c) 115)) (by kernel_rfl) ?_ (fun hHeld => ?_)
    · (try dsimp only); first | exact HC2.out | exact HC5.out | exact HC6.out
    refine wpAnyH_take (i := 0) (oi := ⟨some 9, _, _, _, _, _⟩) (v := ?_) rfl (by kernel_rfl) (by kernel_rfl) (by kernel_rfl) (fun _ _ _ h => h) (Or.inl ⟨by rfl, ?_⟩) (by assumption) ?_; rotate_left
    · intro w hSw; (try dsimp only at hSw); go_simp; try with_reducible rfl
    try simp only [Act.put, setIfInBounds_toArray, set_cons_zero, set_cons_succ]
    refine wpAnyH_take (i := 1) (oi := ⟨some 10, _, _, _, _, _⟩) (v := ?_) rfl (by kernel_rfl) (by kernel_rfl) (by kernel_rfl) (fun _ _ _ h => h) (Or.inl ⟨by rfl, ?_⟩) (by assumption) ?_; rotate_left
    · intro w hSw; (try dsimp only at hSw); go_simp; try with_reducible rfl
    try simp only [Act.put, setIfInBounds_toArray, set_cons_zero, set_cons_succ]
    refine wpAnyH_take (i := 2) (oi := ⟨some 11, _, _, _, _, _⟩) (v := ?_) rfl (by kernel_rfl) (by kernel_rfl) (by kernel_rfl) (fun _ _ _ h => h) (Or.inl ⟨by rfl, ?_⟩) (by assumption) ?_; rotate_left
    · intro w hSw; (try dsimp only at hSw); go_simp; try with_reducible rfl
    try simp only [Act.put, setIfInBounds_toArray, set_cons_zero, set_cons_succ]
    refine wpAnyH_take (i := 3) (oi := ⟨some 12, _, _, _, _, _⟩) (v := ?_) rfl (by kernel_rfl) (by kernel_rfl) (by kernel_rfl) (fun _ _ _ h => h) (Or.inl ⟨by rfl, ?_⟩) (by assumption) ?_; rotate_left
    · intro w hSw; (try dsimp only at hSw); go_simp; try with_reducible rfl
    try simp only [Act.put, setIfInBounds_toArray, set_cons_zero, set_cons_succ]
    refine wpAnyH_take (i := 4) (oi := ⟨some 13, _, _, _, _, _⟩) (v := ?_) rfl (by kernel_rfl) (by kernel_rfl) (by kernel_rfl) (fun _ _ _ h => h) (Or.inl ⟨by rfl, ?_⟩) (by assumption) ?_; rotate_left
    · intro w hSw; (try dsimp only at hSw); go_simp; try with_reducible rfl
    try simp only [Act.put, setIfInBounds_toArray, set_cons_zero, set_cons_succ]
    refine wpAnyH_take (i := 5) (oi := ⟨some 14, _, _, _, _, _⟩) (v := ?_) rfl (by kernel_rfl) (by kernel_rfl) (by kernel_rfl) (fun _ _ _ h => h) (Or.inl ⟨by rfl, ?_⟩) (by assumption) ?_; rotate_left
    · intro w hSw; (try dsimp only at hSw); go_simp; try with_reducible rfl
    try simp only [Act.put, setIfInBounds_toArray, set_cons_zero, set_cons_succ]
    refine wpAnyH_take (i := 6) (oi := ⟨some 15, _, _, _, _, _⟩) (v := ?_) rfl (by kernel_rfl) (by kernel_rfl) (by kernel_rfl) (fun _ _ _ h => h) (Or.inl ⟨by rfl, ?_⟩) (by assumption) ?_; rotate_left
    · intro w hSw; (try dsimp only at hSw); go_simp; try with_reducible rfl
    try simp only [Act.put, setIfInBounds_toArray, set_cons_zero, set_cons_succ]
    refine wpAnyH_take (i := 7) (oi := ⟨some 16, _, _, _, _, _⟩) (v := ?_) rfl (by kernel_rfl) (by kernel_rfl) (by kernel_rfl) (fun _ _ _ h => h) (Or.inl ⟨by rfl, ?_⟩) (by assumption) ?_; rotate_left
    · intro w hSw; (try dsimp only at hSw); go_simp; try with_reducible rfl
    try simp only [Act.put, setIfInBounds_toArray, set_cons_zero, set_cons_succ]
    refine wpAnyH_take (i := 8) (oi := ⟨some 17, _, _, _, _, _⟩) (v := ?_) rfl (by kernel_rfl) (by kernel_rfl) (by kernel_rfl) (fun _ _ _ h => h) (Or.inl ⟨by rfl, ?_⟩) (by assumption) ?_; rotate_left
    · intro w hSw; (try dsimp only at hSw); go_simp; try with_reducible rfl
    try simp only [Act.put, setIfInBounds_toArray, set_cons_zero, set_cons_succ]
    refine wpAnyH_take (i := 9) (oi := ⟨some 18, _, _, _, _, _⟩) (v := ?_) rfl (by kernel_rfl) (by kernel_rfl) (by kernel_rfl) (fun _ _ _ h => h) (Or.inl ⟨by rfl, ?_⟩) (by assumption) ?_; rotate_left
    · intro w hSw; (try dsimp only at hSw); go_simp; try with_reducible rfl
    try simp only [Act.put, setIfInBounds_toArray, set_cons_zero, set_cons_succ]
    refine wpAnyH_take (i := 10) (oi := ⟨some 19, _, _, _, _, _⟩) (v := ?_) rfl (by kernel_rfl) (by kernel_rfl) (by kernel_rfl) (fun _ _ _ h => h) (Or.inl ⟨by rfl, ?_⟩) (by assumption) ?_; rotate_left
    · intro w hSw; (try dsimp only at hSw); go_simp; try with_reducible rfl
    try simp only [Act.put, setIfInBounds_toArray, set_cons_zero, set_cons_succ]
    refine wpAnyH_take (i := 11) (oi := ⟨some 20, _, _, _, _, _⟩) (v := recV r' A c) rfl (by kernel_rfl) (by kernel_rfl) (by kernel_rfl) (fun _ _ _ h => h) (Or.inl ⟨by rfl, ?_⟩) (by assumption) ?_
    · (intro w hSw; (try dsimp only at hSw); exact run_load_rec _ rfl g rfl r' A c hSw.2.2.2)
    try simp only [Act.put, setIfInBounds_toArray, set_cons_zero, set_cons_succ]
    refine wpAnyH_take (i := 12) (oi := ⟨some 21, _, _, _, _, _⟩) (v := ?_) rfl (by kernel_rfl) (by kernel_rfl) (by kernel_rfl) (fun _ _ _ h => h) (Or.inl ⟨by rfl, ?_⟩) (by assumption) ?_; rotate_left
    · intro w hSw; (try dsimp only at hSw); go_simp; try with_reducible rfl
    try simp only [Act.put, setIfInBounds_toArray, set_cons_zero, set_cons_succ]
    refine wpAnyH_take (i := 13) (oi := ⟨some 22, _, _, _, _, _⟩) (v := ?_) rfl (by kernel_rfl) (by kernel_rfl) (by kernel_rfl) (fun _ _ _ h => h) (Or.inl ⟨by rfl, ?_⟩) (by assumption) ?_; rotate_left
    · intro w hSw; (try dsimp only at hSw); go_simp; try with_reducible rfl
    try simp only [Act.put, setIfInBounds_toArray, set_cons_zero, set_cons_succ]
    refine wpAnyH_take (i := 14) (oi := ⟨some 23, _, _, _, _, _⟩) (v := ?_) rfl (by kernel_rfl) (by kernel_rfl) (by kernel_rfl) (fun _ _ _ h => h) (Or.inl ⟨by rfl, ?_⟩) (by assumption) ?_; rotate_left
    · intro w hSw; (try dsimp only at hSw); go_simp; try with_reducible rfl
    try simp only [Act.put, setIfInBounds_toArray, set_cons_zero, set_cons_succ]
    refine wpAnyH_take (i := 15) (oi := ⟨some 24, _, _, _, _, _⟩) (v := ?_) rfl (by kernel_rfl) (by kernel_rfl) (by kernel_rfl) (fun _ _ _ h => h) (Or.inl ⟨by rfl, ?_⟩) (by assumption) ?_; rotate_left
    · intro w hSw; (try dsimp only at hSw); go_simp; try with_reducible rfl
    try simp only [Act.put, setIfInBounds_toArray, set_cons_zero, set_cons_succ]
    refine wpAnyH_take (i := 16) (oi := ⟨some 25, _, _, _, _, _⟩) (v := ?_) rfl (by kernel_rfl) (by kernel_rfl) (by kernel_rfl) (fun _ _ _ h => h) (Or.inl ⟨by rfl, ?_⟩) (by assumption) ?_; rotate_left
    · intro w hSw; (try dsimp only at hSw); go_simp; try with_reducible rfl
    try simp only [Act.put, setIfInBounds_toArray, set_cons_zero, set_cons_succ]
    refine wpAnyH_take (i := 17) (oi := ⟨some 26, _, _, _, _, _⟩) (v := ?_) rfl (by kernel_rfl) (by kernel_rfl) (by kernel_rfl) (fun _ _ _ h => h) (Or.inl ⟨by rfl, ?_⟩) (by assumption) ?_; rotate_left
    · intro w hSw; (try dsimp only at hSw); go_simp; try with_reducible rfl
    try simp only [Act.put, setIfInBounds_toArray, set_cons_zero, set_cons_succ]
    refine wpAnyH_take (i := 18) (oi := ⟨some 27, _, _, _, _, _⟩) (v := ?_) rfl (by kernel_rfl) (by kernel_rfl) (by kernel_rfl) (fun _ _ _ h => h) (Or.inl ⟨by rfl, ?_⟩) (by assumption) ?_; rotate_left
    · intro w hSw; (try dsimp only at hSw); go_simp; try with_reducible rfl
    try simp only [Act.put, setIfInBounds_toArray, set_cons_zero, set_cons_succ]
    refine wpAnyH_ready (rs := [19]) (by kernel_rfl) (by simp) ?_
    refine AllReadyH.cons (o := ⟨some 28, _, _, _, _, _⟩) rfl (fun K hK => ?_) AllReadyH.nil
    go_simp
    refine HSEC.out.mono ?_
    rintro e' w5 ⟨rfl, hb5⟩
    have HB5 := Lib.hid (HB2.out.trans ((below_drew8 _ _).trans (hb5.mono (by show w.heap.size ≤ w2.heap.size; exact HB2.out.size))))
    have hgx := HC2.out.2.2.2.past (B := w2.heap.size) ((below_drew8 _ _).trans (hb5.mono (Nat.le_refl _))) HC2.out.2.2.2.lt
    have HC5 := Lib.hid (And.intro (HCF.out w5 HB5.out).1 (And.intro (HCF.out w5 HB5.out).2.1 (And.intro (HCF.out w5 HB5.out).2.2 hgx)))
    have HD5 := Lib.hid (HD.out.far HB5.out)
    have HS5 := Lib.hid (H1.out.far HB5.out)
    have HRR5 := Lib.hid (HRR2.out.far (w' := w5) ((below_drew8 _ _).trans (hb5.mono (Nat.le_refl _))))
    clear hb5 hgx
    go_wp2_with fail
    refine hK.out _ _ ?_ (fun hHeld => ?_)
    · (try dsimp only); first | exact HC2.out | exact HC5.out | exact HC6.out
    clear hK K
    try simp only [Act.put, setIfInBounds_toArray, set_cons_zero, set_cons_succ]
    refine wpAnyH_ready (rs := [20]) (by kernel_rfl) (by simp) ?_
    refine AllReadyH.cons (o := ⟨some 29, _, _, _, _, _⟩) rfl (fun K hK => ?_) AllReadyH.nil
    go_simp
    refine ((put_any HD5.out HO.out.age HO.out.p HSO.out).mono (fun e w' h => (⟨h.1.trans (by rw [if_pos HCQ.out]), h.2⟩ : e = .returned (.int .i64 13) ∧ _))).mono ?_
    rintro e' w6 ⟨rfl, hm6⟩
    have HM6 := Lib.hid hm6
    have HS6 := Lib.hid (HS5.out.disk HD5.out hm6.2)
    have hg6 := HC5.out.2.2.2.keepL hm6.2 (HD5.out.fpN HC5.out.2.2.2 (by decide) (by decide) (by decide))
    have HC6 := Lib.hid (And.intro (show w6.cell? ⟨S, 0, none⟩ = some (.pointer (some ⟨D, 0, none⟩)) from HS6.out.blk.cell 0) (And.intro (show w6.cell? ⟨S, 4, none⟩ = some (.pointer (some ⟨T, 0, none⟩)) from HS6.out.blk.cell 4) (And.intro (show w6.cell? ⟨T, 5, none⟩ = some (.int .i64 (s.j.place : Int)) from HS6.out.js.blk.cell 5) hg6)))
    have HRR6 : Hid (BytR w6 A c r'.bits) := Lib.hid (ownsRow_keepB HRR5.out hm6.2 (fun k hk => by obtain ⟨cs, h⟩ := own_bk HRR5.out k hk; exact HD5.out.fpN h (by decide) (by decide) (by decide)))
    have HSY : Hid (SysM w w6 D S bs bm cp p F B X (d.put s.j.place (secR r' s.j.place)).2 s) := Lib.hid (SysM.trans (NewP.refl w p) (fun k hk => .inl hk) (fun k hk => .inl hk) (.of_below HB5.out) (SysM.ofDisk HD5.out (HSI.out.far HB5.out) hm6 X) (fun k hk => .inl hk))
    clear hm6 hg6
    go_wp2_with fail
    refine hK.out _ _ ?_ (fun hHeld => ?_)
    · (try dsimp only); first | exact HC2.out | exact HC5.out | exact HC6.out
    clear hK K
    try simp only [Act.put, setIfInBounds_toArray, set_cons_zero, set_cons_succ]
    refine wpAnyH_ready (rs := [21]) (by kernel_rfl) (by simp) ?_
    refine AllReadyH.cons (o := ⟨some 30, _, _, _, _, _⟩) rfl (fun K hK => ?_) AllReadyH.nil
    go_simp
    refine (must_bad _).mono ?_
    rintro e' w7 ⟨rfl, rfl⟩
    refine ⟨rfl, ?_⟩
    exact wr_bad HWR.out HCQ.out HSY.out
    -- REGION>
  | false =>
    have HCQ : Hid (¬ (d.put s.j.place (secR r' s.j.place)).1 = true) := Lib.hid (by rw [← hbc]; simp)
    clear hbc
    -- <REGION ok
    refine wp_region_held_drew (S := (fun W => W.cell? ⟨S, 0, none⟩ = some (.pointer (some ⟨D, 0, none⟩)) ∧ W.cell? ⟨S, 4, none⟩ = some (.pointer (some ⟨T, 0, none⟩)) ∧ W.cell? ⟨T, 5, none⟩ = some (.int .i64 (s.j.place : Int)) ∧ Bk W g (recC r' A c) 115)) (by kernel_rfl) ?_ (fun hHeld => ?_)
    · (try dsimp only); first | exact HC2.out | exact HC5.out | exact HC6.out
    refine wpAnyH_take (i := 0) (oi := ⟨some 9, _, _, _, _, _⟩) (v := ?_) rfl (by kernel_rfl) (by kernel_rfl) (by kernel_rfl) (fun _ _ _ h => h) (Or.inl ⟨by rfl, ?_⟩) (by assumption) ?_; rotate_left
    · intro w hSw; (try dsimp only at hSw); go_simp; try with_reducible rfl
    try simp only [Act.put, setIfInBounds_toArray, set_cons_zero, set_cons_succ]
    refine wpAnyH_take (i := 1) (oi := ⟨some 10, _, _, _, _, _⟩) (v := ?_) rfl (by kernel_rfl) (by kernel_rfl) (by kernel_rfl) (fun _ _ _ h => h) (Or.inl ⟨by rfl, ?_⟩) (by assumption) ?_; rotate_left
    · intro w hSw; (try dsimp only at hSw); go_simp; try with_reducible rfl
    try simp only [Act.put, setIfInBounds_toArray, set_cons_zero, set_cons_succ]
    refine wpAnyH_take (i := 2) (oi := ⟨some 11, _, _, _, _, _⟩) (v := ?_) rfl (by kernel_rfl) (by kernel_rfl) (by kernel_rfl) (fun _ _ _ h => h) (Or.inl ⟨by rfl, ?_⟩) (by assumption) ?_; rotate_left
    · intro w hSw; (try dsimp only at hSw); go_simp; try with_reducible rfl
    try simp only [Act.put, setIfInBounds_toArray, set_cons_zero, set_cons_succ]
    refine wpAnyH_take (i := 3) (oi := ⟨some 12, _, _, _, _, _⟩) (v := ?_) rfl (by kernel_rfl) (by kernel_rfl) (by kernel_rfl) (fun _ _ _ h => h) (Or.inl ⟨by rfl, ?_⟩) (by assumption) ?_; rotate_left
    · intro w hSw; (try dsimp only at hSw); go_simp; try with_reducible rfl
    try simp only [Act.put, setIfInBounds_toArray, set_cons_zero, set_cons_succ]
    refine wpAnyH_take (i := 4) (oi := ⟨some 13, _, _, _, _, _⟩) (v := ?_) rfl (by kernel_rfl) (by kernel_rfl) (by kernel_rfl) (fun _ _ _ h => h) (Or.inl ⟨by rfl, ?_⟩) (by assumption) ?_; rotate_left
    · intro w hSw; (try dsimp only at hSw); go_simp; try with_reducible rfl
    try simp only [Act.put, setIfInBounds_toArray, set_cons_zero, set_cons_succ]
    refine wpAnyH_take (i := 5) (oi := ⟨some 14, _, _, _, _, _⟩) (v := ?_) rfl (by kernel_rfl) (by kernel_rfl) (by kernel_rfl) (fun _ _ _ h => h) (Or.inl ⟨by rfl, ?_⟩) (by assumption) ?_; rotate_left
    · intro w hSw; (try dsimp only at hSw); go_simp; try with_reducible rfl
    try simp only [Act.put, setIfInBounds_toArray, set_cons_zero, set_cons_succ]
    refine wpAnyH_take (i := 6) (oi := ⟨some 15, _, _, _, _, _⟩) (v := ?_) rfl (by kernel_rfl) (by kernel_rfl) (by kernel_rfl) (fun _ _ _ h => h) (Or.inl ⟨by rfl, ?_⟩) (by assumption) ?_; rotate_left
    · intro w hSw; (try dsimp only at hSw); go_simp; try with_reducible rfl
    try simp only [Act.put, setIfInBounds_toArray, set_cons_zero, set_cons_succ]
    refine wpAnyH_take (i := 7) (oi := ⟨some 16, _, _, _, _, _⟩) (v := ?_) rfl (by kernel_rfl) (by kernel_rfl) (by kernel_rfl) (fun _ _ _ h => h) (Or.inl ⟨by rfl, ?_⟩) (by assumption) ?_; rotate_left
    · intro w hSw; (try dsimp only at hSw); go_simp; try with_reducible rfl
    try simp only [Act.put, setIfInBounds_toArray, set_cons_zero, set_cons_succ]
    refine wpAnyH_take (i := 8) (oi := ⟨some 17, _, _, _, _, _⟩) (v := ?_) rfl (by kernel_rfl) (by kernel_rfl) (by kernel_rfl) (fun _ _ _ h => h) (Or.inl ⟨by rfl, ?_⟩) (by assumption) ?_; rotate_left
    · intro w hSw; (try dsimp only at hSw); go_simp; try with_reducible rfl
    try simp only [Act.put, setIfInBounds_toArray, set_cons_zero, set_cons_succ]
    refine wpAnyH_take (i := 9) (oi := ⟨some 18, _, _, _, _, _⟩) (v := ?_) rfl (by kernel_rfl) (by kernel_rfl) (by kernel_rfl) (fun _ _ _ h => h) (Or.inl ⟨by rfl, ?_⟩) (by assumption) ?_; rotate_left
    · intro w hSw; (try dsimp only at hSw); go_simp; try with_reducible rfl
    try simp only [Act.put, setIfInBounds_toArray, set_cons_zero, set_cons_succ]
    refine wpAnyH_take (i := 10) (oi := ⟨some 19, _, _, _, _, _⟩) (v := ?_) rfl (by kernel_rfl) (by kernel_rfl) (by kernel_rfl) (fun _ _ _ h => h) (Or.inl ⟨by rfl, ?_⟩) (by assumption) ?_; rotate_left
    · intro w hSw; (try dsimp only at hSw); go_simp; try with_reducible rfl
    try simp only [Act.put, setIfInBounds_toArray, set_cons_zero, set_cons_succ]
    refine wpAnyH_take (i := 11) (oi := ⟨some 20, _, _, _, _, _⟩) (v := recV r' A c) rfl (by kernel_rfl) (by kernel_rfl) (by kernel_rfl) (fun _ _ _ h => h) (Or.inl ⟨by rfl, ?_⟩) (by assumption) ?_
    · (intro w hSw; (try dsimp only at hSw); exact run_load_rec _ rfl g rfl r' A c hSw.2.2.2)
    try simp only [Act.put, setIfInBounds_toArray, set_cons_zero, set_cons_succ]
    refine wpAnyH_take (i := 12) (oi := ⟨some 21, _, _, _, _, _⟩) (v := ?_) rfl (by kernel_rfl) (by kernel_rfl) (by kernel_rfl) (fun _ _ _ h => h) (Or.inl ⟨by rfl, ?_⟩) (by assumption) ?_; rotate_left
    · intro w hSw; (try dsimp only at hSw); go_simp; try with_reducible rfl
    try simp only [Act.put, setIfInBounds_toArray, set_cons_zero, set_cons_succ]
    refine wpAnyH_take (i := 13) (oi := ⟨some 22, _, _, _, _, _⟩) (v := ?_) rfl (by kernel_rfl) (by kernel_rfl) (by kernel_rfl) (fun _ _ _ h => h) (Or.inl ⟨by rfl, ?_⟩) (by assumption) ?_; rotate_left
    · intro w hSw; (try dsimp only at hSw); go_simp; try with_reducible rfl
    try simp only [Act.put, setIfInBounds_toArray, set_cons_zero, set_cons_succ]
    refine wpAnyH_take (i := 14) (oi := ⟨some 23, _, _, _, _, _⟩) (v := ?_) rfl (by kernel_rfl) (by kernel_rfl) (by kernel_rfl) (fun _ _ _ h => h) (Or.inl ⟨by rfl, ?_⟩) (by assumption) ?_; rotate_left
    · intro w hSw; (try dsimp only at hSw); go_simp; try with_reducible rfl
    try simp only [Act.put, setIfInBounds_toArray, set_cons_zero, set_cons_succ]
    refine wpAnyH_take (i := 15) (oi := ⟨some 24, _, _, _, _, _⟩) (v := ?_) rfl (by kernel_rfl) (by kernel_rfl) (by kernel_rfl) (fun _ _ _ h => h) (Or.inl ⟨by rfl, ?_⟩) (by assumption) ?_; rotate_left
    · intro w hSw; (try dsimp only at hSw); go_simp; try with_reducible rfl
    try simp only [Act.put, setIfInBounds_toArray, set_cons_zero, set_cons_succ]
    refine wpAnyH_take (i := 16) (oi := ⟨some 25, _, _, _, _, _⟩) (v := ?_) rfl (by kernel_rfl) (by kernel_rfl) (by kernel_rfl) (fun _ _ _ h => h) (Or.inl ⟨by rfl, ?_⟩) (by assumption) ?_; rotate_left
    · intro w hSw; (try dsimp only at hSw); go_simp; try with_reducible rfl
    try simp only [Act.put, setIfInBounds_toArray, set_cons_zero, set_cons_succ]
    refine wpAnyH_take (i := 17) (oi := ⟨some 26, _, _, _, _, _⟩) (v := ?_) rfl (by kernel_rfl) (by kernel_rfl) (by kernel_rfl) (fun _ _ _ h => h) (Or.inl ⟨by rfl, ?_⟩) (by assumption) ?_; rotate_left
    · intro w hSw; (try dsimp only at hSw); go_simp; try with_reducible rfl
    try simp only [Act.put, setIfInBounds_toArray, set_cons_zero, set_cons_succ]
    refine wpAnyH_take (i := 18) (oi := ⟨some 27, _, _, _, _, _⟩) (v := ?_) rfl (by kernel_rfl) (by kernel_rfl) (by kernel_rfl) (fun _ _ _ h => h) (Or.inl ⟨by rfl, ?_⟩) (by assumption) ?_; rotate_left
    · intro w hSw; (try dsimp only at hSw); go_simp; try with_reducible rfl
    try simp only [Act.put, setIfInBounds_toArray, set_cons_zero, set_cons_succ]
    refine wpAnyH_ready (rs := [19]) (by kernel_rfl) (by simp) ?_
    refine AllReadyH.cons (o := ⟨some 28, _, _, _, _, _⟩) rfl (fun K hK => ?_) AllReadyH.nil
    go_simp
    refine HSEC.out.mono ?_
    rintro e' w5 ⟨rfl, hb5⟩
    have HB5 := Lib.hid (HB2.out.trans ((below_drew8 _ _).trans (hb5.mono (by show w.heap.size ≤ w2.heap.size; exact HB2.out.size))))
    have hgx := HC2.out.2.2.2.past (B := w2.heap.size) ((below_drew8 _ _).trans (hb5.mono (Nat.le_refl _))) HC2.out.2.2.2.lt
    have HC5 := Lib.hid (And.intro (HCF.out w5 HB5.out).1 (And.intro (HCF.out w5 HB5.out).2.1 (And.intro (HCF.out w5 HB5.out).2.2 hgx)))
    have HD5 := Lib.hid (HD.out.far HB5.out)
    have HS5 := Lib.hid (H1.out.far HB5.out)
    have HRR5 := Lib.hid (HRR2.out.far (w' := w5) ((below_drew8 _ _).trans (hb5.mono (Nat.le_refl _))))
    clear hb5 hgx
    go_wp2_with fail
    refine hK.out _ _ ?_ (fun hHeld => ?_)
    · (try dsimp only); first | exact HC2.out | exact HC5.out | exact HC6.out
    clear hK K
    try simp only [Act.put, setIfInBounds_toArray, set_cons_zero, set_cons_succ]
    refine wpAnyH_ready (rs := [20]) (by kernel_rfl) (by simp) ?_
    refine AllReadyH.cons (o := ⟨some 29, _, _, _, _, _⟩) rfl (fun K hK => ?_) AllReadyH.nil
    go_simp
    refine ((put_any HD5.out HO.out.age HO.out.p HSO.out).mono (fun e w' h => (⟨h.1.trans (by rw [if_neg HCQ.out]), h.2⟩ : e = .returned (.int .i64 0) ∧ _))).mono ?_
    rintro e' w6 ⟨rfl, hm6⟩
    have HM6 := Lib.hid hm6
    have HS6 := Lib.hid (HS5.out.disk HD5.out hm6.2)
    have hg6 := HC5.out.2.2.2.keepL hm6.2 (HD5.out.fpN HC5.out.2.2.2 (by decide) (by decide) (by decide))
    have HC6 := Lib.hid (And.intro (show w6.cell? ⟨S, 0, none⟩ = some (.pointer (some ⟨D, 0, none⟩)) from HS6.out.blk.cell 0) (And.intro (show w6.cell? ⟨S, 4, none⟩ = some (.pointer (some ⟨T, 0, none⟩)) from HS6.out.blk.cell 4) (And.intro (show w6.cell? ⟨T, 5, none⟩ = some (.int .i64 (s.j.place : Int)) from HS6.out.js.blk.cell 5) hg6)))
    have HRR6 : Hid (BytR w6 A c r'.bits) := Lib.hid (ownsRow_keepB HRR5.out hm6.2 (fun k hk => by obtain ⟨cs, h⟩ := own_bk HRR5.out k hk; exact HD5.out.fpN h (by decide) (by decide) (by decide)))
    have HSY : Hid (SysM w w6 D S bs bm cp p F B X (d.put s.j.place (secR r' s.j.place)).2 s) := Lib.hid (SysM.trans (NewP.refl w p) (fun k hk => .inl hk) (fun k hk => .inl hk) (.of_below HB5.out) (SysM.ofDisk HD5.out (HSI.out.far HB5.out) hm6 X) (fun k hk => .inl hk))
    clear hm6 hg6
    go_wp2_with fail
    refine hK.out _ _ ?_ (fun hHeld => ?_)
    · (try dsimp only); first | exact HC2.out | exact HC5.out | exact HC6.out
    clear hK K
    try simp only [Act.put, setIfInBounds_toArray, set_cons_zero, set_cons_succ]
    refine wpAnyH_ready (rs := [21]) (by kernel_rfl) (by simp) ?_
    refine AllReadyH.cons (o := ⟨some 30, _, _, _, _, _⟩) rfl (fun K hK => ?_) AllReadyH.nil
    go_simp
    refine (must_ok _).mono ?_
    rintro e' w7 ⟨rfl, rfl⟩
    go_wp2_with fail
    refine hK.out _ _ ?_ (fun hHeld => ?_)
    · (try dsimp only); first | exact HC2.out | exact HC5.out | exact HC6.out
    clear hK K
    try simp only [Act.put, setIfInBounds_toArray, set_cons_zero, set_cons_succ]
    refine wpAnyH_done (by kernel_rfl) ?_ _
    go_upto_region 3 with fail
    refine wp_region_held_drew (S := (fun W => W.cell? ⟨S, 4, none⟩ = some (.pointer (some ⟨T, 0, none⟩)) ∧ Bk W g (recC r' A c) 115)) (by kernel_rfl) ?_ (fun hHeld => ?_)
    · (try dsimp only); first | exact ⟨HC6.out.2.1, HC6.out.2.2.2⟩ | exact HC8.out
    refine wpAnyH_take (i := 0) (oi := ⟨some 31, _, _, _, _, _⟩) (v := ?_) rfl (by kernel_rfl) (by kernel_rfl) (by kernel_rfl) (fun _ _ _ h => h) (Or.inl ⟨by rfl, ?_⟩) (by assumption) ?_; rotate_left
    · intro w hSw; (try dsimp only at hSw); go_simp; try with_reducible rfl
    try simp only [Act.put, setIfInBounds_toArray, set_cons_zero, set_cons_succ]
    refine wpAnyH_take (i := 1) (oi := ⟨some 32, _, _, _, _, _⟩) (v := ?_) rfl (by kernel_rfl) (by kernel_rfl) (by kernel_rfl) (fun _ _ _ h => h) (Or.inl ⟨by rfl, ?_⟩) (by assumption) ?_; rotate_left
    · intro w hSw; (try dsimp only at hSw); go_simp; try with_reducible rfl
    try simp only [Act.put, setIfInBounds_toArray, set_cons_zero, set_cons_succ]
    refine wpAnyH_take (i := 2) (oi := ⟨some 33, _, _, _, _, _⟩) (v := ?_) rfl (by kernel_rfl) (by kernel_rfl) (by kernel_rfl) (fun _ _ _ h => h) (Or.inl ⟨by rfl, ?_⟩) (by assumption) ?_; rotate_left
    · intro w hSw; (try dsimp only at hSw); go_simp; try with_reducible rfl
    try simp only [Act.put, setIfInBounds_toArray, set_cons_zero, set_cons_succ]
    refine wpAnyH_take (i := 3) (oi := ⟨some 34, _, _, _, _, _⟩) (v := ?_) rfl (by kernel_rfl) (by kernel_rfl) (by kernel_rfl) (fun _ _ _ h => h) (Or.inl ⟨by rfl, ?_⟩) (by assumption) ?_; rotate_left
    · intro w hSw; (try dsimp only at hSw); go_simp; try with_reducible rfl
    try simp only [Act.put, setIfInBounds_toArray, set_cons_zero, set_cons_succ]
    refine wpAnyH_take (i := 4) (oi := ⟨some 35, _, _, _, _, _⟩) (v := recV r' A c) rfl (by kernel_rfl) (by kernel_rfl) (by kernel_rfl) (fun _ _ _ h => h) (Or.inl ⟨by rfl, ?_⟩) (by assumption) ?_
    · (intro w hSw; (try dsimp only at hSw); exact run_load_rec _ rfl g rfl r' A c hSw.2)
    try simp only [Act.put, setIfInBounds_toArray, set_cons_zero, set_cons_succ]
    refine wpAnyH_ready (rs := [5]) (by kernel_rfl) (by simp) ?_
    refine AllReadyH.cons (o := ⟨some 36, _, _, _, _, _⟩) rfl (fun K hK => ?_) AllReadyH.nil
    go_simp
    refine (follow_any (HS6.out.js.far (below_drew8 _ _)) r' A c (obT A) (fun k hk => hk) HFO.out (HRR6.out.far (below_drew8 _ _))).mono ?_
    intro e' w8 hp8
    have HSY8 := Lib.hid (wr_ok HWR.out HCQ.out HSY.out HS6.out HFE.out HBE.out HX.out HRG.out hp8)
    have hkl : KeepL (fpJ T kv xs) w6 w8 := (KeepL.of_below (below_drew8 w6 _)).trans (step_keep hp8)
    have HC8 : Hid (w8.cell? ⟨S, 4, none⟩ = some (.pointer (some ⟨T, 0, none⟩)) ∧ Bk w8 g (recC r' A c) 115) := Lib.hid ⟨by rw [(HS6.out.blk.keepL hkl (HS6.out.js.fpN (HS6.out.blk) (by decide) (by decide) (by decide) (by decide))).cell]; rfl, HC6.out.2.2.2.keepL hkl (HS6.out.js.fpN HC6.out.2.2.2 (by decide) (by decide) (by decide) (by decide))⟩
    obtain ⟨bz, hbz⟩ : ∃ bz, e' = .returned (.bool bz) := by rcases hp8 with ⟨_, _, h, _⟩ | ⟨_, h, _⟩; exact ⟨_, h⟩; exact ⟨_, h⟩
    subst hbz
    clear hp8 hkl
    go_wp2_with fail
    refine hK.out _ _ ?_ (fun hHeld => ?_)
    · (try dsimp only); first | exact ⟨HC6.out.2.1, HC6.out.2.2.2⟩ | exact HC8.out
    clear hK K
    try simp only [Act.put, setIfInBounds_toArray, set_cons_zero, set_cons_succ]
    refine wpAnyH_done (by kernel_rfl) ?_ _
    go_wp2_with fail
    go_end0
    exact HSY8.out
    -- REGION>
end
end Go.Proofs.YtdgmjedkhjeadaaGreat
