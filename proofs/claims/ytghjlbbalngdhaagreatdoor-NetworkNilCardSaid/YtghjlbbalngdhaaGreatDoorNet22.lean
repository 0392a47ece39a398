/- A network in memory. Conditions: as each statement says. -/
import Derived.Test.YtghjlbbalngdhaaGreatDoorNet21
import Derived.Test.YtghjlbbalngdhaaGreatDoorNet18
namespace Go.Proofs.YtghjlbbalngdhaaGreatDoor
open Go.RowKit
open Go.Maps (Keyed)
set_option linter.unusedVariables false
theorem pair_keyed : Keyed Tryz.prog 84 := Keyed.of_law (deep_law_laid (m := 5) net_laidOut (by decide) (of_decide_eq_true (by kernel_rfl)) (by kernel_rfl) (by kernel_rfl))
theorem keyOf_pair (x : Nm × Nm) (h : x.1.length ≤ maxLen ∧ x.2.length ≤ maxLen) : ∃ kl, keyOf Tryz.prog 84 (pairV x) = some kl := by
  obtain ⟨a, b⟩ := x
  obtain ⟨ha, hb⟩ := h
  dsimp only at ha hb
  have kt : Tryz.prog.keyType 84 = true := by kernel_rfl
  have c1 : Tryz.prog.cellsOf 84 = 2 := by kernel_rfl
  have c2 : Tryz.prog.cellsOf 9 = 1 := by kernel_rfl
  have hsz : 0 < Tryz.prog.types.size := of_decide_eq_true (by kernel_rfl)
  obtain ⟨d, hd⟩ : ∃ d, Tryz.prog.types.size + 1 = d + 1 + 1 := ⟨Tryz.prog.types.size - 1, by omega⟩
  have hf : (pairV ⟨a, b⟩).formed Tryz.prog 84 = true := by simp [Value.formed, Tryz.underlying84, c1]
  unfold keyOf
  rw [Tryz.underlying84, hd]
  simp only [kt, hf, Bool.and_self, if_true]
  have h0 : Tryz.prog.keyLits (d + 1 + 1) 84 (pairV ⟨a, b⟩).cells.toList = some [.string a, .string b] := by
    have e1 : (ByteArray.mk a.toArray).size ≤ maxLen := by simpa [ByteArray.size] using ha
    have e2 : (ByteArray.mk b.toArray).size ≤ maxLen := by simpa [ByteArray.size] using hb
    simp [Program.keyLits, Tryz.underlying84, Tryz.underlying9, Value.cells, c1, c2, e1, e2, List.range_succ]
  rw [h0]
  exact ⟨_, rfl⟩
def pairK : KeyT 84 (Nm × Nm) where
  kv := pairV
  ok x := x.1.length ≤ maxLen ∧ x.2.length ≤ maxLen
  law := pair_keyed
  key := keyOf_pair
  inj x y h := by
    obtain ⟨a, b⟩ := x; obtain ⟨c, d⟩ := y
    simp only [pairV, Value.agg.injEq, Array.mk.injEq, List.cons.injEq, and_true] at h
    rw [encStr_inj h.1, encStr_inj h.2]
/-- A link: how it is made, and its stock. -/
structure LkV where
  stock : Int
  cap : Int
  gain : Int
  every : Int
  free : Int
  held : Int
  spent : Int
  deriving DecidableEq
def lkV (x : LkV) : Value := .agg #[.int .i64 x.stock, .int .i64 x.cap, .int .i64 x.gain, .int .i64 x.every, .int .i64 x.free, .int .i64 x.held, .int .i64 x.spent]
structure HoldM where
  id : Int
  path : List Nm
  bits : Int
  til : Int
  deriving DecidableEq
structure SentM where
  id : Int
  need : Int
  len : Int
  paths : List (List Nm)
  shares : List (Nat × List Nat)
  deriving DecidableEq
/-- A network. -/
structure NS where
  nodes : List Nm
  fen : Nm → Bool
  pairs : List (Nm × Nm)
  lk : Nm × Nm → LkV
  now : Int
  last : Int
  holds : List HoldM
  sents : List SentM
def nodesF (s : NS) (x : Nm) : Option Value := if x ∈ s.nodes then some (.bool (s.fen x)) else none
def linksF (s : NS) (p : Nm × Nm) : Option Value := if p ∈ s.pairs then some (lkV (s.lk p)) else none
/-- A row of names, in a block known whole. -/
def NmRow (w : World) (v : Value) (l : List Nm) : Prop := ∃ h c cs, v = .slice (some ⟨h, 0, none⟩) l.length c ∧ l.length ≤ c ∧ Bk w h cs 9 ∧ ∀ i, i < l.length → cs[i]? = some (encS (l.getD i []))
/-- Blocks of some types stay. -/
def CK (T : TypeId → Prop) (w w' : World) : Prop := ∀ h cs t, T t → Bk w h cs t → Bk w' h cs t
theorem CK.of_below {T : TypeId → Prop} {w w' : World} (h : Below w.heap.size w w') : CK T w w' := fun x cs t _ hx => hx.past h hx.lt
theorem CK.trans {T : TypeId → Prop} {a b c : World} (h : CK T a b) (k : CK T b c) : CK T a c := fun x cs t ht hx => k x cs t ht (h x cs t ht hx)
theorem CK.sub {T T' : TypeId → Prop} {a b : World} (h : CK T a b) (hT : ∀ t, T' t → T t) : CK T' a b := fun x cs t ht hx => h x cs t (hT t ht) hx
theorem CK.keepL {T : TypeId → Prop} {L : List Nat} {a b : World} (h : KeepL L a b) (hL : ∀ k ∈ L, ∀ cs t, T t → ¬Bk a k cs t) : CK T a b := fun x cs t ht hx => hx.keepL h (fun hm => hL x hm cs t ht hx)
theorem NmRow.ck {T : TypeId → Prop} {w w' : World} {v : Value} {l : List Nm} (h : NmRow w v l) (hb : CK T w w') (h1 : T 9) : NmRow w' v l := by
  obtain ⟨hh, c, cs, e1, e2, e3, e4⟩ := h
  exact ⟨hh, c, cs, e1, e2, hb _ _ _ h1 e3, e4⟩
theorem NmRow.far {w w' : World} {v : Value} {l : List Nm} (h : NmRow w v l) (hb : Below w.heap.size w w') : NmRow w' v l := h.ck (T := fun _ => True) (.of_below hb) trivial
/-- The holds in memory. -/
def HoldsAt (w : World) (v : Value) (l : List HoldM) : Prop := ∃ vals, w.ownsRow 0 92 4 v l.length vals ∧
  ∀ (i : Nat) (x : HoldM), l[i]? = some x → ∃ pv, vals[i * 4]? = some (.int .i64 x.id) ∧ vals[i * 4 + 1]? = some pv ∧ vals[i * 4 + 2]? = some (.int .i64 x.bits) ∧ vals[i * 4 + 3]? = some (.int .i64 x.til) ∧ NmRow w pv x.path
/-- The rows of names of a transfer. -/
def NmRows (w : World) (v : Value) (l : List (List Nm)) : Prop := ∃ h c cs, v = .slice (some ⟨h, 0, none⟩) l.length c ∧ l.length ≤ c ∧ Bk w h cs 35 ∧ ∀ (i : Nat) (x : List Nm), l[i]? = some x → ∃ u, cs[i]? = some u ∧ NmRow w u x
/-- A row of bytes, in a block known whole. -/
def ByRow (w : World) (v : Value) (l : List Nat) : Prop := ∃ h c cs, v = .slice (some ⟨h, 0, none⟩) l.length c ∧ l.length ≤ c ∧ Bk w h cs 5 ∧ ∀ i, i < l.length → cs[i]? = some (.int .u8 (l.getD i 0 : Nat))
/-- The shares of a transfer. -/
def ShRows (w : World) (v : Value) (l : List (Nat × List Nat)) : Prop := ∃ h c cs, v = .slice (some ⟨h, 0, none⟩) l.length c ∧ l.length ≤ c ∧ Bk w h cs 158 ∧ ∀ (i : Nat) (x : Nat × List Nat), l[i]? = some x → ∃ u, cs[i * 2]? = some (.int .u8 (x.1 : Int)) ∧ cs[i * 2 + 1]? = some u ∧ ByRow w u x.2
/-- The transfers in memory: id, need, length, paths, shares. -/
def SentsAt (w : World) (v : Value) (l : List SentM) : Prop := ∃ vals, w.ownsRow 0 106 5 v l.length vals ∧
  ∀ (i : Nat) (x : SentM), l[i]? = some x → ∃ pv sv, vals[i * 5]? = some (.int .i64 x.id) ∧ vals[i * 5 + 1]? = some (.int .i64 x.need) ∧ vals[i * 5 + 2]? = some (.int .i64 x.len) ∧ vals[i * 5 + 3]? = some pv ∧ vals[i * 5 + 4]? = some sv ∧ NmRows w pv x.paths ∧ ShRows w sv x.shares
theorem NmRows.ck {T : TypeId → Prop} {w w' : World} {v : Value} {l : List (List Nm)} (h : NmRows w v l) (hb : CK T w w') (h1 : T 9) (h2 : T 35) : NmRows w' v l := by
  obtain ⟨hh, c, cs, e1, e2, e3, e4⟩ := h
  refine ⟨hh, c, cs, e1, e2, hb _ _ _ h2 e3, fun i x hx => ?_⟩
  obtain ⟨u, q1, q2⟩ := e4 i x hx
  exact ⟨u, q1, q2.ck hb h1⟩
theorem ByRow.ck {T : TypeId → Prop} {w w' : World} {v : Value} {l : List Nat} (h : ByRow w v l) (hb : CK T w w') (h1 : T 5) : ByRow w' v l := by
  obtain ⟨hh, c, cs, e1, e2, e3, e4⟩ := h
  exact ⟨hh, c, cs, e1, e2, hb _ _ _ h1 e3, e4⟩
theorem ShRows.ck {T : TypeId → Prop} {w w' : World} {v : Value} {l : List (Nat × List Nat)} (h : ShRows w v l) (hb : CK T w w') (h1 : T 5) (h2 : T 158) : ShRows w' v l := by
  obtain ⟨hh, c, cs, e1, e2, e3, e4⟩ := h
  refine ⟨hh, c, cs, e1, e2, hb _ _ _ h2 e3, fun i x hx => ?_⟩
  obtain ⟨u, q1, q2, q3⟩ := e4 i x hx
  exact ⟨u, q1, q2, q3.ck hb h1⟩
theorem ownsRow_ck {T : TypeId → Prop} {w w' : World} {base : Nat} {t : TypeId} {sz n : Nat} {v : Value} {xs : List Value} (h : w.ownsRow base t sz v n xs) (hb : CK T w w') (ht : T t) : w'.ownsRow base t sz v n xs := by
  refine ⟨h.1, ?_⟩
  rcases h.2 with h1 | ⟨g, cap, cur, rfl, hg1, hh, rest⟩
  · exact .inl h1
  · exact .inr ⟨g, cap, cur, rfl, hg1, hb _ _ _ ht hh, rest⟩
theorem HoldsAt.ck {T : TypeId → Prop} {w w' : World} {v : Value} {l : List HoldM} (h : HoldsAt w v l) (hb : CK T w w') (h1 : T 9) (h2 : T 92) : HoldsAt w' v l := by
  obtain ⟨vals, e1, e2⟩ := h
  refine ⟨vals, ownsRow_ck e1 hb h2, fun i x hx => ?_⟩
  obtain ⟨pv, q1, q2, q3, q4, q5⟩ := e2 i x hx
  exact ⟨pv, q1, q2, q3, q4, q5.ck hb h1⟩
theorem SentsAt.ck {T : TypeId → Prop} {w w' : World} {v : Value} {l : List SentM} (h : SentsAt w v l) (hb : CK T w w') (h1 : T 9) (h2 : T 35) (h3 : T 5) (h4 : T 158) (h5 : T 106) : SentsAt w' v l := by
  obtain ⟨vals, e1, e2⟩ := h
  refine ⟨vals, ownsRow_ck e1 hb h5, fun i x hx => ?_⟩
  obtain ⟨pv, sv, q1, q2, q3, q4, q5, q6, q7⟩ := e2 i x hx
  exact ⟨pv, sv, q1, q2, q3, q4, q5, q6.ck hb h1 h2, q7.ck hb h3 h4⟩
/-- What holds of each network. -/
structure NSOK (s : NS) : Prop where
  nod : s.nodes.Nodup
  nn : s.nodes.length ≤ 16
  named : ∀ x ∈ s.nodes, namedB x = true
  pod : s.pairs.Nodup
  pn : s.pairs.length ≤ 40
  pin : ∀ p ∈ s.pairs, p.1 ∈ s.nodes ∧ p.2 ∈ s.nodes ∧ p.1 < p.2
  lk : ∀ p ∈ s.pairs, 1 ≤ (s.lk p).cap ∧ (s.lk p).cap ≤ 65536 ∧ 0 ≤ (s.lk p).gain ∧ (s.lk p).gain ≤ (s.lk p).cap ∧ (1 ≤ (s.lk p).every ∧ (s.lk p).every ≤ 1048576 ∨ (s.lk p).every = 0 ∧ (s.lk p).gain = 0) ∧
    0 ≤ (s.lk p).free ∧ 0 ≤ (s.lk p).held ∧ (s.lk p).free + (s.lk p).held ≤ (s.lk p).cap ∧ 0 ≤ (s.lk p).spent ∧ (s.lk p).free + (s.lk p).held + (s.lk p).spent ≤ 65536 * (s.now + 1)
  now : 0 ≤ s.now ∧ s.now ≤ 1099511627776
/-- A network in memory. -/
structure NetAt (w : World) (N : Nat) (s : NS) (bn bl : Nat) (vh vs : Value) : Prop where
  blk : Bk w N #[.map (some bn), .map (some bl), .int .i64 s.now, vh, .int .i64 s.last, vs] 28
  nodes : MapL strK w bn s.nodes (nodesF s)
  links : MapL pairK w bl s.pairs (linksF s)
  holds : HoldsAt w vh s.holds
  sents : SentsAt w vs s.sents
  ok : NSOK s
  ne : bn ≠ bl
theorem NetAt.far {w w' : World} {N : Nat} {s : NS} {bn bl : Nat} {vh vs : Value} (h : NetAt w N s bn bl vh vs) (hb : Below w.heap.size w w') : NetAt w' N s bn bl vh vs :=
  ⟨h.blk.past hb h.blk.lt, h.nodes.keep (hb.block _ h.nodes.lt), h.links.keep (hb.block _ h.links.lt), h.holds.ck (T := fun _ => True) (.of_below hb) trivial trivial, h.sents.ck (T := fun _ => True) (.of_below hb) trivial trivial trivial trivial trivial, h.ok, h.ne⟩
theorem named_len {x : Nm} (h : namedB x = true) : 1 ≤ x.length ∧ x.length ≤ 16 := by
  unfold namedB at h
  simp only [Bool.and_eq_true, decide_eq_true_eq] at h
  exact ⟨h.1.1.1, h.1.1.2⟩
theorem mapB_zero (w : World) : (zeroValue 4).run Tryz.prog w = .ok (.bool false) w := by kernel_rfl
theorem nodes_look {w : World} {N : Nat} {s : NS} {bn bl : Nat} {vh vs : Value} (h : NetAt w N s bn bl vh vs) (x : Nm) (hx : x.length ≤ maxLen) (em : Bool) : (Instr.lookup 23 (.map (some bn)) (encS x) em).run Tryz.prog w = .ok (if em then .tuple #[.bool (decide (x ∈ s.nodes) && s.fen x), .bool (decide (x ∈ s.nodes))] else .bool (decide (x ∈ s.nodes) && s.fen x)) w := by
  have e1 : (nodesF s x).getD (.bool false) = .bool (decide (x ∈ s.nodes) && s.fen x) := by
    unfold nodesF; by_cases hm : x ∈ s.nodes <;> simp [hm]
  have e2 : (nodesF s x).isSome = decide (x ∈ s.nodes) := by
    unfold nodesF; by_cases hm : x ∈ s.nodes <;> simp [hm]
  cases em
  · have := h.nodes.at'.look Tryz.underlying23 mapB_zero (x := x) hx
    rw [e1] at this
    exact this
  · have := h.nodes.at'.look_ok Tryz.underlying23 mapB_zero (x := x) hx
    rw [e1, e2] at this
    exact this
def lk0 : LkV := ⟨0, 0, 0, 0, 0, 0, 0⟩
theorem mapL_zero (w : World) : (zeroValue 81).run Tryz.prog w = .ok (lkV lk0) w := by kernel_rfl
theorem links_look {w : World} {N : Nat} {s : NS} {bn bl : Nat} {vh vs : Value} (h : NetAt w N s bn bl vh vs) (p : Nm × Nm) (hx : p.1.length ≤ maxLen ∧ p.2.length ≤ maxLen) (em : Bool) : (Instr.lookup 24 (.map (some bl)) (pairV p) em).run Tryz.prog w =
    .ok (if em then .tuple #[lkV (if p ∈ s.pairs then s.lk p else lk0), .bool (decide (p ∈ s.pairs))] else lkV (if p ∈ s.pairs then s.lk p else lk0)) w := by
  have e1 : (linksF s p).getD (lkV lk0) = lkV (if p ∈ s.pairs then s.lk p else lk0) := by
    unfold linksF; by_cases hm : p ∈ s.pairs <;> simp [hm]
  have e2 : (linksF s p).isSome = decide (p ∈ s.pairs) := by
    unfold linksF; by_cases hm : p ∈ s.pairs <;> simp [hm]
  cases em
  · have := h.links.at'.look Tryz.underlying24 mapL_zero (x := p) hx
    rw [e1] at this
    exact this
  · have := h.links.at'.look_ok Tryz.underlying24 mapL_zero (x := p) hx
    rw [e1, e2] at this
    exact this
#print axioms links_look
end Go.Proofs.YtghjlbbalngdhaaGreatDoor
/- The conditions of the calls of a network. Conditions: as each statement says. -/
namespace Go.Proofs.YtghjlbbalngdhaaGreatDoor
open Go.RowKit
set_option linter.unusedVariables false
set_option maxHeartbeats 1000000 in
theorem hasN_any {w : World} {N : Nat} {s : NS} {bn bl : Nat} {vh vs : Value} (h : NetAt w N s bn bl vh vs) (x : Nm) (hx : x.length ≤ maxLen) :
    Calls Tryz.prog 78 #[.pointer (some ⟨N, 0, none⟩), encS x] w fun e w' => e = .returned (.bool (decide (x ∈ s.nodes))) ∧ w = w' := by
  have c0 := h.blk.cell 0
  simp only [List.getElem?_toArray, List.getElem?_cons_zero] at c0
  have hl := nodes_look h x hx true
  simp only [if_true] at hl
  clear h
  generalize decide (x ∈ s.nodes) = q at *
  go_enter Tryz.func78, Tryz.ntmps78
  go_wp2_with fail
  go_ret
  exact ⟨rfl, rfl⟩
/-- A call that hands back a condition. -/
def CondP (e : Int) (w : World) (r : Ending) (w' : World) : Prop := ∃ f, r = .returned f ∧ CondOK w' f e ∧ Below w.heap.size w w'
theorem unlW_below (w : World) (bad : Bool) (e : Int) : Below w.heap.size w (unlW w bad e) := ((Below.refl _ w).alloc (Nat.le_refl _) _).alloc (by simp) _
theorem unless_P (bad : Bool) (e e' : Int) (w : World) (he : (if bad then e else 0) = e') : Calls Tryz.prog 29 #[.bool bad, .int .i64 e] w (CondP e' w) := by
  subst he
  refine (unless_any bad e w).mono ?_
  rintro r w' ⟨rfl, rfl⟩
  exact ⟨_, rfl, unless_cond bad e w, unlW_below w bad e⟩
def twoE (a b : Nm) : Int := if namedB a = true ∧ namedB b = true ∧ a ≠ b then 0 else 2
set_option maxHeartbeats 1000000 in
theorem twoNames_any (a b : Nm) (w : World) : Calls Tryz.prog 32 #[encS a, encS b] w (CondP (twoE a b) w) := by
  have HA := fun w => Lib.hid (named_any a w)
  have HB := fun w => Lib.hid (named_any b w)
  have hq := eq_str a b
  have hq0 : (a == b) = decide (a = b) := by by_cases h : a = b <;> simp [h]
  have HU : Hid (∀ w, Calls Tryz.prog 29 #[.bool (!namedB a || !namedB b || decide (a = b)), .int .i64 2] w (CondP (twoE a b) w)) := Lib.hid fun w => unless_P _ 2 _ w (by
    unfold twoE
    cases namedB a <;> cases namedB b <;> by_cases h : a = b <;> simp [h])
  generalize decide (a = b) = z at *
  generalize namedB a = x at *
  generalize namedB b = y at *
  generalize twoE a b = ev at *
  go_enter Tryz.func32, Tryz.ntmps32
  go_wp2_with fail
  refine (HA _).out.mono ?_
  rintro e w' ⟨rfl, rfl⟩
  cases x with
  | false =>
    go_wp2_with fail
    refine (HU.out _).mono ?_
    rintro e w' ⟨f, rfl, h1, h2⟩
    have H1 := Lib.hid h1; have H2 := Lib.hid h2; clear h1 h2
    go_wp2_with fail
    go_ret
    exact ⟨f, rfl, H1.out, H2.out⟩
  | true =>
    go_wp2_with fail
    refine (HB _).out.mono ?_
    rintro e w' ⟨rfl, rfl⟩
    cases y with
    | false =>
      go_wp2_with fail
      refine (HU.out _).mono ?_
      rintro e w' ⟨f, rfl, h1, h2⟩
      have H1 := Lib.hid h1; have H2 := Lib.hid h2; clear h1 h2
      go_wp2_with fail
      go_ret
      exact ⟨f, rfl, H1.out, H2.out⟩
    | true =>
      go_wp2_with fail
      refine (HU.out _).mono ?_
      rintro e w' ⟨f, rfl, h1, h2⟩
      have H1 := Lib.hid h1; have H2 := Lib.hid h2; clear h1 h2
      go_wp2_with fail
      go_ret
      exact ⟨f, rfl, H1.out, H2.out⟩
def amtE (n : Int) : Int := if 1 ≤ n ∧ n ≤ 65536 then 0 else 3
set_option maxHeartbeats 1000000 in
theorem amount_any (n : Int) (w : World) : Calls Tryz.prog 64 #[.int .i64 n] w (CondP (amtE n) w) := by
  have HU : Hid (∀ (z : Bool) (w : World), z = decide (n < 1 ∨ 65536 < n) → Calls Tryz.prog 29 #[.bool z, .int .i64 3] w (CondP (amtE n) w)) := Lib.hid fun z w hz => unless_P _ 3 _ w (by
    subst hz
    unfold amtE
    by_cases h : 1 ≤ n ∧ n ≤ 65536
    · rw [if_pos h, if_neg (by simp; omega)]
    · rw [if_neg h, if_pos (by simp; omega)])
  generalize amtE n = ev at *
  by_cases h1 : n < 1
  · go_enter Tryz.func64, Tryz.ntmps64
    go_wp2_with fail
    refine (HU.out _ _ (by simp [h1])).mono ?_
    rintro e w' ⟨f, rfl, h1, h2⟩
    have H1 := Lib.hid h1; have H2 := Lib.hid h2; clear h1 h2
    go_wp2_with fail
    go_ret
    exact ⟨f, rfl, H1.out, H2.out⟩
  · by_cases h3 : 65536 < n
    · go_enter Tryz.func64, Tryz.ntmps64
      go_wp2_with fail
      refine (HU.out _ _ (by simp [h3])).mono ?_
      rintro e w' ⟨f, rfl, h1, h2⟩
      have H1 := Lib.hid h1; have H2 := Lib.hid h2; clear h1 h2
      go_wp2_with fail
      go_ret
      exact ⟨f, rfl, H1.out, H2.out⟩
    · go_enter Tryz.func64, Tryz.ntmps64
      go_wp2_with fail
      refine (HU.out _ _ (by simp [h1, h3])).mono ?_
      rintro e w' ⟨f, rfl, h1, h2⟩
      have H1 := Lib.hid h1; have H2 := Lib.hid h2; clear h1 h2
      go_wp2_with fail
      go_ret
      exact ⟨f, rfl, H1.out, H2.out⟩
#print axioms amount_any
end Go.Proofs.YtghjlbbalngdhaaGreatDoor
/- The contract of possible. Conditions: as the statement says. -/
namespace Go.Proofs.YtghjlbbalngdhaaGreatDoor
open Go.RowKit
set_option linter.unusedVariables false
def possL (st cp gn ev : Int) : Bool := decide ((1 ≤ ev ∧ ev ≤ 1048576 ∨ ev = 0 ∧ gn = 0) ∧ 1 ≤ cp ∧ cp ≤ 65536 ∧ 0 ≤ st ∧ st ≤ cp ∧ 0 ≤ gn ∧ gn ≤ cp)
set_option maxHeartbeats 4000000 in
theorem possible_any (st cp gn ev : Int) (w : World) : Calls Tryz.prog 33 #[.agg #[.int .i64 st, .int .i64 cp, .int .i64 gn, .int .i64 ev]] w fun e w' => e = .returned (.bool (possL st cp gn ev)) ∧ Below w.heap.size w w' := by
  by_cases c1 : 1 ≤ ev
  · by_cases c2 : ev ≤ 1048576
    · skip
      by_cases k0 : 1 ≤ cp
      case neg =>
        have HF : Hid (possL st cp gn ev = false) := Lib.hid (by unfold possL; rw [decide_eq_false]; omega)
        go_enter Tryz.func33, Tryz.ntmps33
        go_wp2_with fail
        go_ret
        exact ⟨by rw [HF.out]; rfl, (Below.refl _ w).alloc (Nat.le_refl _) _⟩
      by_cases k1 : cp ≤ 65536
      case neg =>
        have HF : Hid (possL st cp gn ev = false) := Lib.hid (by unfold possL; rw [decide_eq_false]; omega)
        go_enter Tryz.func33, Tryz.ntmps33
        go_wp2_with fail
        go_ret
        exact ⟨by rw [HF.out]; rfl, (Below.refl _ w).alloc (Nat.le_refl _) _⟩
      by_cases k2 : 0 ≤ st
      case neg =>
        have HF : Hid (possL st cp gn ev = false) := Lib.hid (by unfold possL; rw [decide_eq_false]; omega)
        go_enter Tryz.func33, Tryz.ntmps33
        go_wp2_with fail
        go_ret
        exact ⟨by rw [HF.out]; rfl, (Below.refl _ w).alloc (Nat.le_refl _) _⟩
      by_cases k3 : st ≤ cp
      case neg =>
        have HF : Hid (possL st cp gn ev = false) := Lib.hid (by unfold possL; rw [decide_eq_false]; omega)
        go_enter Tryz.func33, Tryz.ntmps33
        go_wp2_with fail
        go_ret
        exact ⟨by rw [HF.out]; rfl, (Below.refl _ w).alloc (Nat.le_refl _) _⟩
      by_cases k4 : 0 ≤ gn
      case neg =>
        have HF : Hid (possL st cp gn ev = false) := Lib.hid (by unfold possL; rw [decide_eq_false]; omega)
        go_enter Tryz.func33, Tryz.ntmps33
        go_wp2_with fail
        go_ret
        exact ⟨by rw [HF.out]; rfl, (Below.refl _ w).alloc (Nat.le_refl _) _⟩
      by_cases k5 : gn ≤ cp
      case neg =>
        have HF : Hid (possL st cp gn ev = false) := Lib.hid (by unfold possL; rw [decide_eq_false]; omega)
        go_enter Tryz.func33, Tryz.ntmps33
        go_wp2_with fail
        go_ret
        exact ⟨by rw [HF.out]; rfl, (Below.refl _ w).alloc (Nat.le_refl _) _⟩
      have HF : Hid (possL st cp gn ev = true) := Lib.hid (by unfold possL; rw [decide_eq_true]; omega)
      go_enter Tryz.func33, Tryz.ntmps33
      go_wp2_with fail
      go_ret
      exact ⟨by rw [HF.out]; rfl, (Below.refl _ w).alloc (Nat.le_refl _) _⟩
    · have c3 : ¬ ev = 0 := by omega
      have c3b : (ev == 0) = false := by simpa using c3
      have HF : Hid (possL st cp gn ev = false) := Lib.hid (by unfold possL; rw [decide_eq_false]; omega)
      go_enter Tryz.func33, Tryz.ntmps33
      go_wp2_with fail
      go_ret
      exact ⟨by rw [HF.out]; rfl, (Below.refl _ w).alloc (Nat.le_refl _) _⟩
  · by_cases c3 : ev = 0
    · by_cases c4 : gn = 0
      · subst c3; subst c4
        by_cases k0 : 1 ≤ cp
        case neg =>
          have HF : Hid (possL st cp 0 0 = false) := Lib.hid (by unfold possL; rw [decide_eq_false]; omega)
          go_enter Tryz.func33, Tryz.ntmps33
          go_wp2_with fail
          go_ret
          exact ⟨by rw [HF.out]; rfl, (Below.refl _ w).alloc (Nat.le_refl _) _⟩
        by_cases k1 : cp ≤ 65536
        case neg =>
          have HF : Hid (possL st cp 0 0 = false) := Lib.hid (by unfold possL; rw [decide_eq_false]; omega)
          go_enter Tryz.func33, Tryz.ntmps33
          go_wp2_with fail
          go_ret
          exact ⟨by rw [HF.out]; rfl, (Below.refl _ w).alloc (Nat.le_refl _) _⟩
        by_cases k2 : 0 ≤ st
        case neg =>
          have HF : Hid (possL st cp 0 0 = false) := Lib.hid (by unfold possL; rw [decide_eq_false]; omega)
          go_enter Tryz.func33, Tryz.ntmps33
          go_wp2_with fail
          go_ret
          exact ⟨by rw [HF.out]; rfl, (Below.refl _ w).alloc (Nat.le_refl _) _⟩
        by_cases k3 : st ≤ cp
        case neg =>
          have HF : Hid (possL st cp 0 0 = false) := Lib.hid (by unfold possL; rw [decide_eq_false]; omega)
          go_enter Tryz.func33, Tryz.ntmps33
          go_wp2_with fail
          go_ret
          exact ⟨by rw [HF.out]; rfl, (Below.refl _ w).alloc (Nat.le_refl _) _⟩
        have k5 : (0 : Int) ≤ cp := by omega
        have HF : Hid (possL st cp 0 0 = true) := Lib.hid (by unfold possL; rw [decide_eq_true]; omega)
        go_enter Tryz.func33, Tryz.ntmps33
        go_wp2_with fail
        go_ret
        exact ⟨by rw [HF.out]; rfl, (Below.refl _ w).alloc (Nat.le_refl _) _⟩
      · subst c3
        have c4b : (gn == 0) = false := by simpa using c4
        have HF : Hid (possL st cp gn 0 = false) := Lib.hid (by unfold possL; rw [decide_eq_false]; omega)
        go_enter Tryz.func33, Tryz.ntmps33
        go_wp2_with fail
        go_ret
        exact ⟨by rw [HF.out]; rfl, (Below.refl _ w).alloc (Nat.le_refl _) _⟩
    · skip
      have c3b : (ev == 0) = false := by simpa using c3
      have HF : Hid (possL st cp gn ev = false) := Lib.hid (by unfold possL; rw [decide_eq_false]; omega)
      go_enter Tryz.func33, Tryz.ntmps33
      go_wp2_with fail
      go_ret
      exact ⟨by rw [HF.out]; rfl, (Below.refl _ w).alloc (Nat.le_refl _) _⟩
#print axioms possible_any
end Go.Proofs.YtghjlbbalngdhaaGreatDoor
/- The conditions on two nodes. Conditions: as each statement says. -/
namespace Go.Proofs.YtghjlbbalngdhaaGreatDoor
open Go.RowKit
set_option linter.unusedVariables false
def bothE (s : NS) (a b : Nm) : Int := if a ∈ s.nodes ∧ b ∈ s.nodes then 0 else 9
/-- What a condition answers. -/
def AnsN (e : Int) (w : World) (r : Ending) (w' : World) : Prop := r = .returned (.int .i64 e) ∧ Below w.heap.size w w'
set_option maxHeartbeats 1000000 in
theorem both1_any {w : World} {N : Nat} {s : NS} {bn bl : Nat} {vh vs : Value} (h : NetAt w N s bn bl vh vs) (a b : Nm) (ha : a.length ≤ maxLen) (hb : b.length ≤ maxLen) (p0 p1 p2 : Nat)
    (h0 : w.cell? ⟨p0, 0, none⟩ = some (.pointer (some ⟨N, 0, none⟩))) (h1 : w.cell? ⟨p1, 0, none⟩ = some (encS a)) (h2 : w.cell? ⟨p2, 0, none⟩ = some (encS b)) :
    Calls Tryz.prog 77 #[.pointer (some ⟨p0, 0, none⟩), .pointer (some ⟨p1, 0, none⟩), .pointer (some ⟨p2, 0, none⟩)] w (AnsN (bothE s a b) w) := by
  have HA := Lib.hid (hasN_any h a ha)
  have HB := Lib.hid (hasN_any h b hb)
  have HU : Hid (∀ w, Calls Tryz.prog 29 #[.bool (!decide (a ∈ s.nodes) || !decide (b ∈ s.nodes)), .int .i64 9] w (CondP (bothE s a b) w)) := Lib.hid fun w => unless_P _ 9 _ w (by
    unfold bothE
    by_cases h1 : a ∈ s.nodes <;> by_cases h2 : b ∈ s.nodes <;> simp [h1, h2])
  generalize decide (a ∈ s.nodes) = x at *
  generalize decide (b ∈ s.nodes) = y at *
  generalize bothE s a b = ev at *
  clear h
  go_enter Tryz.func77, Tryz.ntmps77
  go_wp2_with fail
  refine HA.out.mono ?_
  rintro e w' ⟨rfl, rfl⟩
  cases x with
  | false =>
    go_wp2_with fail
    refine (HU.out _).mono ?_
    rintro e w1 ⟨f, rfl, ⟨fn, cap, rfl, hen, hcl⟩, hb1⟩
    have HC := Lib.hid (hcl w1 (Below.refl _ _)); have HB1 := Lib.hid hb1
    have hen1 := hen w1
    clear hen hcl hb1
    go_wp2_with fail
    refine HC.out.mono ?_
    clear HC hen1
    rintro e w2 ⟨rfl, hb2⟩
    have HB2 := Lib.hid hb2; clear hb2
    go_wp2_with fail
    go_ret
    exact ⟨rfl, bnextK HB1.out HB2.out⟩
  | true =>
    go_wp2_with fail
    refine HB.out.mono ?_
    rintro e w' ⟨rfl, rfl⟩
    cases y with
    | _ =>
      go_wp2_with fail
      refine (HU.out _).mono ?_
      rintro e w1 ⟨f, rfl, ⟨fn, cap, rfl, hen, hcl⟩, hb1⟩
      have HC := Lib.hid (hcl w1 (Below.refl _ _)); have HB1 := Lib.hid hb1
      have hen1 := hen w1
      clear hen hcl hb1
      go_wp2_with fail
      refine HC.out.mono ?_
      clear HC hen1
      rintro e w2 ⟨rfl, hb2⟩
      have HB2 := Lib.hid hb2; clear hb2
      go_wp2_with fail
      go_ret
      exact ⟨rfl, bnextK HB1.out HB2.out⟩
theorem alloc3_below (w : World) (o1 o2 o3 : Obj) : Below w.heap.size w (((w.alloc o1).alloc o2).alloc o3) := (((Below.refl _ w).alloc (Nat.le_refl _) _).alloc (by simp) _).alloc (by simp; omega) _
/-- Three boxes. -/
theorem boxes3 (w : World) (c0 c1 c2 : Array Value) (t0 t1 t2 : TypeId) : Bk (((w.alloc (.cells c0 t0)).alloc (.cells c1 t1)).alloc (.cells c2 t2)) w.heap.size c0 t0 ∧ Bk (((w.alloc (.cells c0 t0)).alloc (.cells c1 t1)).alloc (.cells c2 t2)) (w.heap.size + 1) c1 t1 ∧ Bk (((w.alloc (.cells c0 t0)).alloc (.cells c1 t1)).alloc (.cells c2 t2)) (w.heap.size + 1 + 1) c2 t2 := by
  have h0 := Bk.new w c0 t0
  have h1 := Bk.new (w.alloc (.cells c0 t0)) c1 t1
  have h2 := Bk.new ((w.alloc (.cells c0 t0)).alloc (.cells c1 t1)) c2 t2
  rw [World.size_alloc] at h1
  rw [World.size_alloc, World.size_alloc] at h2
  exact ⟨h0.keepL ((KeepL.alloc [] _ _).trans (KeepL.alloc [] _ _)) (by simp), h1.keepL (KeepL.alloc [] _ _) (by simp), h2⟩
set_option maxHeartbeats 1000000 in
theorem both_any {w : World} {N : Nat} {s : NS} {bn bl : Nat} {vh vs : Value} (h : NetAt w N s bn bl vh vs) (a b : Nm) (ha : a.length ≤ maxLen) (hb : b.length ≤ maxLen) :
    Calls Tryz.prog 34 #[.pointer (some ⟨N, 0, none⟩), encS a, encS b] w (CondP (bothE s a b) w) := by
  have hmf : ∀ (fn : Fn) (first cap : Array Value) (w : World), (Instr.makeFunc fn first cap).run Tryz.prog w = .ok (.func fn first cap) w := fun _ _ _ _ => rfl
  have HF : Hid (CondOK (((w.alloc (.cells #[.pointer (some ⟨N, 0, none⟩)] 22)).alloc (.cells #[encS a] 9)).alloc (.cells #[encS b] 9)) (.func (.func 77) #[] #[.pointer (some ⟨w.heap.size, 0, none⟩), .pointer (some ⟨w.heap.size + 1, 0, none⟩), .pointer (some ⟨w.heap.size + 1 + 1, 0, none⟩)]) (bothE s a b)) := Lib.hid (by
    refine ⟨_, _, rfl, enters_of Tryz.func77 (by kernel_rfl) rfl _, fun W hW => ?_⟩
    obtain ⟨k0, k1, k2⟩ := boxes3 w #[.pointer (some ⟨N, 0, none⟩)] #[encS a] #[encS b] 22 9 9
    have hN := (h.far (alloc3_below w (.cells #[.pointer (some ⟨N, 0, none⟩)] 22) (.cells #[encS a] 9) (.cells #[encS b] 9))).far hW
    exact both1_any hN a b ha hb _ _ _ (by rw [(k0.past hW k0.lt).cell]; rfl) (by rw [(k1.past hW k1.lt).cell]; rfl) (by rw [(k2.past hW k2.lt).cell]; rfl))
  clear h
  go_enter Tryz.func34, Tryz.ntmps34
  go_wp2_with fail
  go_ret
  exact ⟨_, rfl, HF.out, alloc3_below _ _ _ _⟩
#print axioms both_any
end Go.Proofs.YtghjlbbalngdhaaGreatDoor
