/- The contract of journal. Conditions: as the statement says. -/
import Derived.Test.YtdgmjedkhjeadaaGreatStG8
import Derived.Test.YtdgmjedkhjeadaaGreatPack
import Derived.Deep.LoopGhost
import Derived.Test.YtdgmjedkhjeadaaGreatTick3
import Derived.BigQuiet
namespace Go.Proofs.YtdgmjedkhjeadaaGreat
open Go.RowKit
set_option linter.unusedVariables false
theorem RcG.ok {r : Rc} (h : RcG r) : RcOK r := by
  obtain ⟨h1, h2, h3, h4, h5⟩ := h
  refine ⟨by omega, ?_, by omega, ?_, ?_, ?_, h4⟩
  · rcases h5 with h | h | h | h | h <;> omega
  · rcases h5 with h | h | h | h | h <;> omega
  · rcases h5 with h | h | h | h | h
    · omega
    · omega
    · omega
    · omega
    · omega
  · rcases h5 with h | h | h | h | h
    · omega
    · omega
    · rw [h.2.2.2.2]; simp
    · rw [h.2.2.2.2]; simp
    · rw [h.2.2.2]; simp
theorem RcG.len {r : Rc} (h : RcG r) : r.bits.length ≤ 100 := by
  rcases h.form with h | h | h | h | h
  · omega
  · omega
  · rw [h.2.2.2.2]; simp
  · rw [h.2.2.2.2]; simp
  · rw [h.2.2.2]; simp
/-- What holds of a state while a journal is read. -/
structure JrI (j : Jn) : Prop where
  keys : j.keys.length ≤ j.place
  tl : j.tail.bits.length ≤ 100
  ta : j.tail.kind = 1 → j.tail.a ≤ 512
theorem JrI.fol {j : Jn} {r : Rc} (h : JrI j) (hr : RcG r) (hp : j.place < 1000) : FolOK j r := by
  refine ⟨hr.kind.1, hr.kind.2, hr.ok, fun hk => ?_, hr.len, by have := h.keys; omega, h.tl, h.ta, hp⟩
  rcases hr.form with h | h | h | h | h
  · refine ⟨h.2.2.2.1, fun ha => ⟨h.2.2.1, ?_⟩⟩
    have := h.2.2.2.2.2.2
    rwa [show min r.a 320 = r.a by omega] at this
  all_goals omega
theorem step_keys {j j' : Jn} {r : Rc} (h : j.step r = some j') : j'.keys.length ≤ j.keys.length + 1 := by
  unfold Jn.step at h
  split at h
  · split at h
    · cases h
    · split at h
      · injection h with h; subst h; dsimp only; omega
      · unfold Jn.add at h
        rw [Option.map_eq_some_iff] at h
        obtain ⟨_, _, rfl⟩ := h
        simp
  · split at h
    · split at h
      · unfold Jn.add at h
        rw [Option.map_eq_some_iff] at h
        obtain ⟨_, _, rfl⟩ := h
        simp
      · cases h
    · split at h
      · split at h
        · cases h
        · dsimp only at h
          split at h
          · cases h
          · injection h with h; subst h; simp
      · split at h
        · rw [Option.map_eq_some_iff] at h
          obtain ⟨i, _, rfl⟩ := h
          show (j.keys.eraseIdx i).length ≤ _
          have := (List.eraseIdx_sublist j.keys i).length_le
          omega
        · split at h
          · cases h
          · injection h with h; subst h; dsimp only; omega
theorem follow_some {j j' : Jn} {r : Rc} (h : j.follow r = some j') : ∃ j1, j.step r = some j1 ∧ j' = { j1 with tail := r, place := j.place + 1 } := by
  unfold Jn.follow at h
  split at h
  · cases h
  · rw [Option.map_eq_some_iff] at h
    obtain ⟨j1, h1, h2⟩ := h
    exact ⟨j1, h1, h2.symm⟩
theorem JrI.next {j j' : Jn} {r : Rc} (h : JrI j) (hr : RcG r) (hf : j.follow r = some j') : JrI j' ∧ j'.place = j.place + 1 := by
  obtain ⟨j1, h1, rfl⟩ := follow_some hf
  have hk := step_keys h1
  refine ⟨⟨?_, hr.len, fun hk => ?_⟩, rfl⟩
  · show j1.keys.length ≤ j.place + 1
    have := h.keys
    omega
  · rcases hr.form with h | h | h | h | h
    · exact h.2.2.2.1
    all_goals (dsimp only at hk; omega)
theorem JrI.zero (p : Nat) : JrI (Jn.zero p) := ⟨Nat.zero_le _, by simp [Jn.zero, rc0], fun h => by simp [Jn.zero, rc0] at h⟩
/-- A new state in memory. -/
def JouP (j : Jn) (w : World) (e : Ending) (w' : World) : Prop :=
  ∃ S kv xs tb tc, e = .returned (.pointer (some ⟨S, 0, none⟩)) ∧ JnAt w' S j kv xs tb tc ∧ JrI j ∧ (∀ k ∈ fpJ S kv xs, w.heap.size ≤ k) ∧ (∀ k ∈ obT tb, w.heap.size ≤ k) ∧ Below w.heap.size w w'
/-- A store: the disk's age that it knows, its area, its epoch, its state. -/
structure StM where
  age : Int
  area : Nat
  epoch : Nat
  j : Jn
def StM.lim (s : StM) (d : Dk) : Nat := (s.area + 1) * (d.dur.length / 2)
def StM.room (d : Dk) (s : StM) : Nat := if s.age = d.age then s.lim d - s.j.place else 0
def StM.last (d : Dk) (s : StM) : Nat := if s.age = d.age then s.j.last else 0
structure StOK (s : StM) : Prop where
  area : s.area ≤ 1
  epoch : s.epoch < 4294967296
  jr : JrI s.j
structure StAt (w : World) (S D : Nat) (s : StM) (T : Nat) (kv : Value) (xs : List KB) (tb : Option Addr) (tc : Nat) : Prop where
  blk : Bk w S #[.pointer (some ⟨D, 0, none⟩), .int .i64 s.age, .int .i64 (s.area : Int), .int .i64 (s.epoch : Int), .pointer (some ⟨T, 0, none⟩)] 120
  js : JnAt w T s.j kv xs tb tc
  ok : StOK s
/-- A store in memory: F: the blocks that may be written; B: the block of its last record's bytes. -/
def StIn (w : World) (S D : Nat) (s : StM) (F B : List Nat) : Prop := ∃ T kv xs tb tc, StAt w S D s T kv xs tb tc ∧ F = S :: fpJ T kv xs ∧ B = obT tb
section
variable {w w' : World} {S D : Nat} {s : StM} {T : Nat} {kv : Value} {xs : List KB} {tb : Option Addr} {tc : Nat} {F B : List Nat}
theorem StAt.far (h : StAt w S D s T kv xs tb tc) (hb : Below w.heap.size w w') : StAt w' S D s T kv xs tb tc := ⟨h.blk.past hb h.blk.lt, h.js.far hb, h.ok⟩
theorem StIn.far (h : StIn w S D s F B) (hb : Below w.heap.size w w') : StIn w' S D s F B := by
  obtain ⟨T, kv, xs, tb, tc, h1, h2, h3⟩ := h
  exact ⟨T, kv, xs, tb, tc, h1.far hb, h2, h3⟩
theorem StIn.ok (h : StIn w S D s F B) : StOK s := by
  obtain ⟨T, kv, xs, tb, tc, h1, h2, h3⟩ := h
  exact h1.ok
theorem StIn.lt (h : StIn w S D s F B) : (∀ k ∈ F, k < w.heap.size) ∧ ∀ k ∈ B, k < w.heap.size := by
  obtain ⟨T, kv, xs, tb, tc, h1, rfl, rfl⟩ := h
  refine ⟨fun k hk => ?_, h1.js.tbLt⟩
  rcases List.mem_cons.1 hk with rfl | hk
  · exact h1.blk.lt
  · exact h1.js.fpLt k hk
/-- The blocks of a store are of its types. -/
theorem StIn.types (h : StIn w S D s F B) : (∀ b ∈ F, ∃ cs t, Bk w b cs t ∧ (t = 120 ∨ t = 117 ∨ t = 121 ∨ t = 123 ∨ t = 4)) ∧ ∀ b ∈ B, ∃ cs, Bk w b cs 5 := by
  obtain ⟨T, kv, xs, tb, tc, h1, rfl, rfl⟩ := h
  refine ⟨fun b hb => ?_, fun b hb => ?_⟩
  · rcases List.mem_cons.1 hb with rfl | hb
    · exact ⟨_, _, h1.blk, .inl rfl⟩
    · obtain ⟨cs, t, h2, h3⟩ := h1.js.fpT b hb
      exact ⟨cs, t, h2, .inr h3⟩
  · exact own_bk h1.js.tail b (by rw [ob_tb]; exact hb)
theorem StIn.keepL {L : List Nat} (h : StIn w S D s F B) (hk : KeepL L w w') (hF : ∀ k ∈ F, k ∉ L) (hB : ∀ k ∈ B, k ∉ L) : StIn w' S D s F B := by
  obtain ⟨T, kv, xs, tb, tc, h1, rfl, rfl⟩ := h
  exact ⟨T, kv, xs, tb, tc, ⟨h1.blk.keepL hk (hF _ (by simp)), h1.js.keepL hk (fun k hk => hF k (by simp [hk])) hB, h1.ok⟩, rfl, rfl⟩
theorem DkAt.fpN {d : Dk} {bs bm cp : Nat} {p : Option Addr} (h : DkAt w D d bs bm cp p) {b : Nat} {cs : Array Value} {t : TypeId} (hb : Bk w b cs t) (h1 : t ≠ 96) (h2 : t ≠ 101) (h3 : t ≠ 103) : b ∉ fpL D bs bm p := by
  intro hm
  obtain ⟨sp, hsp⟩ := h.dur
  obtain ⟨l, hl⟩ := h.cch
  unfold fpL at hm
  simp only [List.mem_cons] at hm
  rcases hm with e | e | e | e
  · exact hb.ne h.blk h1 e
  · exact hb.ne hsp h2 e
  · exact hb.nemap hl e
  · cases p with
    | none => simp at e
    | some a =>
      simp only [List.mem_singleton] at e
      obtain ⟨cs', hc⟩ := h.plan.bt a rfl
      exact hb.ne hc h3 e
/-- What is done to the disk leaves the store alone. -/
theorem StIn.disk {d : Dk} {bs bm cp : Nat} {p : Option Addr} (h : StIn w S D s F B) (hd : DkAt w D d bs bm cp p) (hk : KeepL (fpL D bs bm p) w w') : StIn w' S D s F B := by
  obtain ⟨t1, t2⟩ := h.types
  refine h.keepL hk (fun k hk2 => ?_) (fun k hk2 => ?_)
  · obtain ⟨cs, t, h1, h2⟩ := t1 k hk2
    exact hd.fpN h1 (by rcases h2 with rfl | rfl | rfl | rfl | rfl <;> decide) (by rcases h2 with rfl | rfl | rfl | rfl | rfl <;> decide) (by rcases h2 with rfl | rfl | rfl | rfl | rfl <;> decide)
  · obtain ⟨cs, h1⟩ := t2 k hk2
    exact hd.fpN h1 (by decide) (by decide) (by decide)
/-- A block of a list of stores' types is none of the disk. -/
theorem DkAt.keepT {d : Dk} {bs bm cp : Nat} {p : Option Addr} {L : List Nat} (h : DkAt w D d bs bm cp p) (hk : KeepL L w w') (hL : ∀ b ∈ L, ∃ cs t, Bk w b cs t ∧ t ≠ 96 ∧ t ≠ 101 ∧ t ≠ 103 ∧ t ≠ 3) : DkAt w' D d bs bm cp p := by
  obtain ⟨o, h2, ⟨sp, h3⟩, ⟨l, h4⟩, h5⟩ := h
  have hd : DkAt w D d bs bm cp p := ⟨o, h2, ⟨sp, h3⟩, ⟨l, h4⟩, h5⟩
  have hn : ∀ b, b ∈ fpL D bs bm p → b ∉ L := fun b hb hm => by
    obtain ⟨cs, t, e1, e2, e3, e4, _⟩ := hL b hm
    exact hd.fpN e1 e2 e3 e4 hb
  refine ⟨o, h2.keepL hk (hn _ (by simp [fpL])), ⟨sp, h3.keepL hk (hn _ (by simp [fpL]))⟩, ⟨l, h4.keep (hk.block _ h4.lt (hn _ (by simp [fpL])))⟩, h5.keepL hk (fun a ha => hn _ (by subst ha; simp [fpL])) fun g C hg hm => ?_⟩
  obtain ⟨cs, t, e1, _, _, _, e5⟩ := hL g hm
  exact e1.ne hg e5 rfl
theorem DkAt.store {d : Dk} {bs bm cp : Nat} {p : Option Addr} (hd : DkAt w D d bs bm cp p) (h : StIn w S D s F B) (hk : KeepL F w w') : DkAt w' D d bs bm cp p :=
  hd.keepT hk fun b hb => by
    obtain ⟨cs, t, h1, h2⟩ := h.types.1 b hb
    exact ⟨cs, t, h1, by rcases h2 with rfl | rfl | rfl | rfl | rfl <;> decide⟩
end
/-- A disk and a store on it are changed, each in its own blocks; X: where the bytes of the last record may lie. -/
structure SysM (w w' : World) (D S : Nat) (bs bm cp : Nat) (p : Option Addr) (F B X : List Nat) (d' : Dk) (s' : StM) : Prop where
  d : ∃ p', DkAt w' D d' bs bm cp p' ∧ NewP w p p'
  s : ∃ F' B', StIn w' S D s' F' B' ∧ (∀ k ∈ F', k ∈ F ∨ w.heap.size ≤ k) ∧ ∀ k ∈ B', k ∈ B ∨ k ∈ X ∨ w.heap.size ≤ k
  k : KeepL (fpL D bs bm p ++ F) w w'
section
variable {w w' : World} {S D : Nat} {d : Dk} {s : StM} {bs bm cp : Nat} {p : Option Addr} {F B : List Nat}
theorem SysM.refl (hd : DkAt w D d bs bm cp p) (hs : StIn w S D s F B) (X : List Nat) (hb : Below w.heap.size w w') : SysM w w' D S bs bm cp p F B X d s :=
  ⟨⟨p, hd.far hb, .refl _ _⟩, ⟨F, B, hs.far hb, fun k hk => .inl hk, fun k hk => .inl hk⟩, .of_below hb⟩
theorem SysM.trans {w1 w2 : World} {p1 : Option Addr} {F1 B1 X X1 : List Nat} {d2 : Dk} {s2 : StM} (hp : NewP w p p1) (hF : ∀ k ∈ F1, k ∈ F ∨ w.heap.size ≤ k) (hB : ∀ k ∈ B1, k ∈ B ∨ k ∈ X ∨ w.heap.size ≤ k) (hk : KeepL (fpL D bs bm p ++ F) w w1)
    (h : SysM w1 w2 D S bs bm cp p1 F1 B1 X1 d2 s2) (hX : ∀ k ∈ X1, k ∈ X ∨ w.heap.size ≤ k) : SysM w w2 D S bs bm cp p F B X d2 s2 := by
  obtain ⟨⟨p2, h1, h2⟩, ⟨F2, B2, h3, h4, h5⟩, h6⟩ := h
  have hs := hk.size
  refine ⟨⟨p2, h1, hp.trans h2 hs⟩, ⟨F2, B2, h3, fun k hk => ?_, fun k hk => ?_⟩, hk.then h6 fun b hb => ?_⟩
  · rcases h4 k hk with h | h
    · exact hF k h
    · exact .inr (by omega)
  · rcases h5 k hk with h | h | h
    · exact hB k h
    · rcases hX k h with h | h
      · exact .inr (.inl h)
      · exact .inr (.inr h)
    · exact .inr (.inr (by omega))
  · rcases List.mem_append.1 hb with hb | hb
    · by_cases hlt : b < w.heap.size
      · exact .inl (List.mem_append.2 (.inl (hp.fp D bs bm b hb hlt)))
      · exact .inr (by omega)
    · rcases hF b hb with h | h
      · exact .inl (List.mem_append.2 (.inr h))
      · exact .inr h
/-- One change behind another one. -/
theorem SysM.then {w1 w2 : World} {X X1 : List Nat} {d1 d2 : Dk} {s1 s2 : StM} (h : SysM w w1 D S bs bm cp p F B X d1 s1) (k : ∀ p1 F1 B1, DkAt w1 D d1 bs bm cp p1 → StIn w1 S D s1 F1 B1 → SysM w1 w2 D S bs bm cp p1 F1 B1 X1 d2 s2) (hX : ∀ k ∈ X1, k ∈ X ∨ w.heap.size ≤ k) : SysM w w2 D S bs bm cp p F B X d2 s2 := by
  obtain ⟨⟨p1, h1, h2⟩, ⟨F1, B1, h3, h4, h5⟩, h6⟩ := h
  exact SysM.trans h2 h4 h5 h6 (k p1 F1 B1 h1 h3) hX
theorem SysM.below {X : List Nat} {w2 : World} {d' : Dk} {s' : StM} (h : SysM w w' D S bs bm cp p F B X d' s') (hb : Below w'.heap.size w' w2) : SysM w w2 D S bs bm cp p F B X d' s' := by
  obtain ⟨⟨p1, h1, h2⟩, ⟨F1, B1, h3, h4, h5⟩, h6⟩ := h
  exact ⟨⟨p1, h1.far hb, h2⟩, ⟨F1, B1, h3.far hb, h4, h5⟩, h6.trans (.of_below hb)⟩
/-- The disk is changed alone. -/
theorem SysM.ofDisk (hd : DkAt w D d bs bm cp p) (hs : StIn w S D s F B) {d' : Dk} (h : DkMut w w' D bs bm cp p d') (X : List Nat) : SysM w w' D S bs bm cp p F B X d' s := by
  obtain ⟨⟨p1, h1, h2⟩, h3⟩ := h
  exact ⟨⟨p1, h1, h2⟩, ⟨F, B, hs.disk hd h3, fun k hk => .inl hk, fun k hk => .inl hk⟩, h3.sub fun k hk => List.mem_append.2 (.inl hk)⟩
set_option maxRecDepth 100000 in
theorem check_any (hd : DkAt w D d bs bm cp p) (hs : StIn w S D s F B) : Calls Tryz.prog 62 #[.pointer (some ⟨S, 0, none⟩)] w fun e w' => e = .returned (.int .i64 (if s.age = d.age then 0 else 13)) ∧ Qw w w' := by
  obtain ⟨T, kv, xs, tb, tc, h1, _, _⟩ := hs
  have c0 : w.cell? ⟨S, 0, none⟩ = some (.pointer (some ⟨D, 0, none⟩)) := h1.blk.cell 0
  have c1 : w.cell? ⟨S, 1, none⟩ = some (.int .i64 s.age) := h1.blk.cell 1
  have c4 := hd.c4
  have q1 : ∀ w, (binOp BinOp.eql 52 (.pointer (some ⟨S, 0, none⟩)) (.pointer none)).run Tryz.prog w = .ok (.bool false) w := fun w => by kernel_rfl
  have q2 : ∀ w, (binOp BinOp.eql 24 (.pointer (some ⟨D, 0, none⟩)) (.pointer none)).run Tryz.prog w = .ok (.bool false) w := fun w => by kernel_rfl
  clear h1 hd
  by_cases he : s.age = d.age
  · rw [if_pos he]
    rw [he] at c1
    have e1 : (d.age != d.age) = false := by simp
    clear he
    generalize d.age = a at *
    go_enter Tryz.func62, Tryz.ntmps62
    go_upto_region 3 with fail
    go_quiet (fail)
    go_wp2_with fail
    go_ret
    exact ⟨rfl, ⟨_, rfl⟩⟩
  · rw [if_neg he]
    have e1 : (s.age != d.age) = true := by simp [he]
    generalize s.age = a at *
    generalize d.age = b at *
    clear he
    go_enter Tryz.func62, Tryz.ntmps62
    go_upto_region 3 with fail
    go_quiet (fail)
    go_wp2_with fail
    go_ret
    exact ⟨rfl, ⟨_, rfl⟩⟩
end
end Go.Proofs.YtdgmjedkhjeadaaGreat
