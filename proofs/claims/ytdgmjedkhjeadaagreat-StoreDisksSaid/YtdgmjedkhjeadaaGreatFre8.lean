/- The free pieces of a lane: plainly, and the iterator. Conditions: as each statement says. -/
import Derived.Test.YtdgmjedkhjeadaaGreatRun8
import Derived.Test.YtdgmjedkhjeadaaGreatJou9
import Derived.Stop.RegionWithIn
import Derived.Sort.CutIn
import Derived.Shelf.Abstract
import Derived.Test.YtdgmjedkhjeadaaGreatTick3
import Derived.Test.YtdgmjedkhjeadaaGreatBase
namespace Go.Proofs.YtdgmjedkhjeadaaGreat
open List (setIfInBounds_toArray set_cons_zero set_cons_succ)
open Go.RowKit
set_option linter.unusedVariables false
set_option linter.unusedSimpArgs false
attribute [local go_sem] Oper.semAt_some
/-- A piece. -/
structure Pc where
  id : Nat
  f : Nat
  t : Nat
deriving DecidableEq
def laneN (n : Nat) (side : Int) : Nat × Nat := if side = 0 then (0, n / 2) else (n / 2, n)
def freeK (side : Int) (k : Ky) : List Pc := (runsL k.used false (laneN k.used.length side).1 (laneN k.used.length side).2).map fun x => ⟨k.id, x.1, x.2⟩
def freeL (keys : List Ky) (side : Int) : List Pc := keys.flatMap (freeK side)
def pcV (p : Pc) : Value := .agg #[.int .i64 (p.id : Int), .int .i64 (p.f : Int), .int .i64 (p.t : Int)]
theorem laneN_le (n : Nat) (side : Int) : (laneN n side).1 ≤ (laneN n side).2 ∧ (laneN n side).2 ≤ n := by
  unfold laneN; split <;> (dsimp only; omega)
set_option maxRecDepth 100000 in
theorem lane_any (n : Nat) (hn : n ≤ 1000000) (side : Int) (w : World) : Calls Tryz.prog 101 #[.int .i64 (n : Int), .int .i64 side] w fun e w' => e = .returned (.tuple #[.int .i64 ((laneN n side).1 : Nat), .int .i64 ((laneN n side).2 : Nat)]) ∧ w = w' := by
  have q1 : Int.tdiv (n : Int) 2 = ((n / 2 : Nat) : Int) := half8 _
  have q2 : wrap64 ((n / 2 : Nat) : Int) = ((n / 2 : Nat) : Int) := by unfold wrap64; omega
  by_cases hs : side = 0
  · have hl : laneN n side = (0, n / 2) := by unfold laneN; rw [if_pos hs]
    rw [hl]
    subst hs
    clear hl
    generalize n / 2 = h at q1 q2 ⊢
    go_enter Tryz.func101, Tryz.ntmps101
    go_wp2_with fail
    refine bodyPost_ret (results_tmp2 rfl _ _ _) rfl ?_
    refine ⟨?_, rfl⟩
    show Ending.returned (.tuple #[.int .i64 0, .int .i64 (wrap64 (h : Int))]) = _
    rw [q2]; rfl
  · have e1 : (side == 0) = false := by simpa using hs
    have hl : laneN n side = (n / 2, n) := by unfold laneN; rw [if_neg hs]
    rw [hl]
    clear hl hs
    generalize n / 2 = h at q1 q2 ⊢
    go_enter Tryz.func101, Tryz.ntmps101
    go_wp2_with fail
    refine bodyPost_ret (results_tmp2 rfl _ _ _) rfl ?_
    refine ⟨?_, rfl⟩
    show Ending.returned (.tuple #[.int .i64 (wrap64 (h : Int)), .int .i64 (n : Int)]) = _
    rw [q2]
theorem JnAt.kp {L : List Nat} {w w' : World} {S : Nat} {j : Jn} {kv : Value} {xs : List KB} {tb : Option Addr} {tc : Nat} (h : JnAt w S j kv xs tb tc) (k : KpS L w w') : JnAt w' S j kv xs tb tc := by
  have ok : ∀ b cs t, Bk w b cs t → (t = 117 ∨ t = 121 ∨ t = 123 ∨ t = 4 ∨ t = 5) → Bk w' b cs t := fun b cs t hb ht =>
    k.bk b cs t hb (by rcases ht with rfl | rfl | rfl | rfl | rfl <;> decide) (by rcases ht with rfl | rfl | rfl | rfl | rfl <;> decide) (by rcases ht with rfl | rfl | rfl | rfl | rfl <;> decide) (by rcases ht with rfl | rfl | rfl | rfl | rfl <;> decide) (fun e => absurd e (by rcases ht with rfl | rfl | rfl | rfl | rfl <;> decide))
  have ow : ∀ {B : Nat} {t : TypeId} {sz n : Nat} {v : Value} {ys : List Value}, w.ownsRow B t sz v n ys → (t = 121 ∨ t = 5) → w'.ownsRow B t sz v n ys := fun h ht => by
    refine ⟨h.1, ?_⟩
    rcases h.2 with h1 | ⟨g, cap, cur, h1, h2, h3, h4⟩
    · exact .inl h1
    · exact .inr ⟨g, cap, cur, h1, h2, ok g cur _ h3 (by rcases ht with rfl | rfl <;> simp), h4⟩
  refine ⟨h.ok, ok _ _ _ h.blk (.inl rfl), ow h.row (.inl rfl), fun i x q hx hq => ?_, ow h.tail (.inr rfl), h.nodup⟩
  obtain ⟨h1, ⟨s, h2⟩, ⟨u, h3⟩, h4, h5, h6, h7, h8⟩ := h.keys i x q hx hq
  exact ⟨ok _ _ _ h1 (by simp), ⟨s, ok _ _ _ h2 (by simp)⟩, ⟨u, ok _ _ _ h3 (by simp)⟩, h4, h5, h6, h7, h8⟩
/-- The marks that range statements have left. -/
def Marks8 (n₀ : Nat) : List Deferred → World → Prop
  | [], _ => True
  | d :: ds, W => (∃ D, d = { target := .collected D, args := #[] } ∧ n₀ ≤ D ∧ W.heap[D]? = some (.deferred (some [])) ∧ ∀ d' ∈ ds, d'.target ≠ .collected D) ∧ Marks8 n₀ ds W
theorem Marks8.keep {n₀ : Nat} {W W' : World} (hk : ∀ (k : Nat) (o : Obj), W.heap[k]? = some o → o.isCells = false → W'.heap[k]? = some o) : ∀ {ds : List Deferred}, Marks8 n₀ ds W → Marks8 n₀ ds W'
  | [], _ => trivial
  | d :: ds, ⟨⟨D, h1, h0, h2, h3⟩, h4⟩ => ⟨⟨D, h1, h0, hk _ _ h2 rfl, h3⟩, Marks8.keep hk h4⟩
theorem Marks8.put {n₀ : Nat} {W : World} {D : Nat} (o : Obj) : ∀ {ds : List Deferred}, (∀ d' ∈ ds, d'.target ≠ .collected D) → Marks8 n₀ ds W → Marks8 n₀ ds (W.putObj D o)
  | [], _, _ => trivial
  | d :: ds, hd, ⟨⟨D', h1, h0, h2, h3⟩, h4⟩ => ⟨⟨D', h1, h0, (World.putObj_heap_other (fun e => hd d (by simp) (by rw [h1, e]))).trans h2, h3⟩, Marks8.put o (fun d' hd' => hd d' (by simp [hd'])) h4⟩
theorem Marks8.lt {n₀ : Nat} {W : World} : ∀ {ds : List Deferred}, Marks8 n₀ ds W → ∀ d ∈ ds, ∀ D, d.target = .collected D → D < W.heap.size
  | [], _, d, hd, _, _ => by simp at hd
  | d :: ds, ⟨⟨D', h1, h0, h2, h3⟩, h4⟩, d', hd, D, hD => by
    rcases List.mem_cons.1 hd with rfl | hd
    · rw [h1] at hD
      simp at hD
      subst hD
      exact (Array.getElem?_eq_some_iff.1 h2).1
    · exact Marks8.lt h4 d' hd D hD
theorem Marks8.iter {n₀ n₁ : Nat} {A B : World} {row : Option Nat} : ∀ {ds : List Deferred}, Marks8 n₀ ds A → (∀ d ∈ ds, ∀ D, d.target = .collected D → D < n₁) → A.grownBy B row → (∀ r, row = some r → n₁ ≤ r) → Marks8 n₀ ds B
  | [], _, _, _, _ => trivial
  | d :: ds, ⟨⟨D', h1, h0, h2, h3⟩, h4⟩, hb, hg, hr => ⟨⟨D', h1, h0, (hg.block D' (Array.getElem?_eq_some_iff.1 h2).1 (fun e => by
      have := hb d (by simp) D' (by rw [h1])
      have := hr D' e.symm
      omega)).trans h2, h3⟩, Marks8.iter h4 (fun d' hd' => hb d' (by simp [hd'])) hg hr⟩
theorem Marks8.keepF {n₀ B : Nat} {W W' : World} (hB : B ≤ n₀) (hk : KeepsFrom B W W') : ∀ {ds : List Deferred}, Marks8 n₀ ds W → Marks8 n₀ ds W'
  | [], _ => trivial
  | d :: ds, ⟨⟨D, h1, h0, h2, h3⟩, h4⟩ => ⟨⟨D, h1, h0, hk.same _ _ (Nat.le_trans hB h0) h2 rfl, h3⟩, Marks8.keepF hB hk h4⟩
theorem keepsFrom_le {B B' : Nat} {W W' : World} (h : KeepsFrom B W W') (hB : B ≤ B') : KeepsFrom B' W W' := ⟨h.size, fun k o h1 h2 h3 => h.same k o (Nat.le_trans hB h1) h2 h3⟩
/-- A function that ranged leaves: its marks are taken. -/
theorem leaves8 {F : Fence} {m : Nat} {P : Program} {fn : Func} {tmps : Array Value} {R : Ending → World → Prop} {n₀ : Nat} {I : World → Prop} (hI : ∀ (W : World) (D : Nat) (o : Obj), I W → n₀ ≤ D → W.heap[D]? = some o → o.isCells = false → ∀ o', I (W.putObj D o')) :
    ∀ (ds : List Deferred) (W : World), Marks8 n₀ ds W → I W → (∀ W', I W' → LeavesInM F m P fn tmps R [] .returning W') → LeavesInM F m P fn tmps R ds .returning W
  | [], W, _, hs, hf => hf W hs
  | d :: ds, W, ⟨⟨D, h1, h0, h2, h3⟩, h4⟩, hs, hf => by
    refine ⟨by simp, .inl ⟨D, _, by rw [h1], run_takeDeferred h2, ?_⟩⟩
    exact leaves8 hI ds _ (Marks8.put _ h3 h4) (hI W D _ hs h0 h2 rfl _) hf
/-- What the iterator over the free pieces has captured. -/
structure FCaps (w : World) (L : List Nat) (b1 b2 S D : Nat) (s : StM) (T : Nat) (kv : Value) (xs : List KB) (tb : Option Addr) (tc : Nat) (side : Int) : Prop where
  c1 : Bk w b1 #[.pointer (some ⟨S, 0, none⟩)] 52
  c2 : Bk w b2 #[.int .i64 side] 3
  n2 : b2 ∉ L
  st : StAt w S D s T kv xs tb tc
theorem FCaps.kp {w w' : World} {L : List Nat} {b1 b2 S D : Nat} {s : StM} {T : Nat} {kv : Value} {xs : List KB} {tb : Option Addr} {tc : Nat} {side : Int} (h : FCaps w L b1 b2 S D s T kv xs tb tc side) (k : KpS L w w') : FCaps w' L b1 b2 S D s T kv xs tb tc side :=
  ⟨k.bk _ _ _ h.c1 (by decide) (by decide) (by decide) (by decide) (fun e => absurd e (by decide)), k.bk _ _ _ h.c2 (by decide) (by decide) (by decide) (by decide) (fun _ => h.n2), h.n2,
   ⟨k.bk _ _ _ h.st.blk (by decide) (by decide) (by decide) (by decide) (fun e => absurd e (by decide)), h.st.js.kp k, h.st.ok⟩⟩
abbrev freeLb (b1 b2 : Nat) : Array Value := #[.pointer (some ⟨b1, 0, none⟩), .pointer (some ⟨b2, 0, none⟩)]
theorem KpS.grown {L : List Nat} {A B : World} {row : Option Nat} (hg : A.grownBy B row) (hr : ∀ r, row = some r → ∃ o : Obj, A.heap[r]? = some o ∧ o.isCells = false) : KpS L A B :=
  ⟨hg.size, fun b cs t hb _ _ _ _ _ => (hg.block b hb.lt (fun e => by
    obtain ⟨o, h1, h2⟩ := hr b e.symm
    unfold Bk at hb
    rw [hb] at h1; cases h1; cases h2)).trans hb⟩
theorem freeL_split {side : Int} {keys : List Ky} {i : Nat} {k : Ky} (h : keys[i]? = some k) : freeL keys side = (keys.take i).flatMap (freeK side) ++ (freeK side k ++ (keys.drop (i + 1)).flatMap (freeK side)) := by
  obtain ⟨hi, rfl⟩ := List.getElem?_eq_some_iff.1 h
  have e : keys = keys.take i ++ keys[i] :: keys.drop (i + 1) := by rw [← List.drop_eq_getElem_cons hi, List.take_append_drop]
  have h2 := congrArg (fun z => z.flatMap (freeK side)) e
  rw [List.flatMap_append, List.flatMap_cons] at h2
  exact h2
set_option maxRecDepth 100000 in
set_option maxHeartbeats 4000000 in
theorem free1_any {L : List Nat} {b1 b2 S D : Nat} {s : StM} {T : Nat} {kv : Value} {xs : List KB} {tb : Option Addr} {tc : Nat} {side : Int} {w : World} (n : Nat) (hcp : FCaps w L b1 b2 S D s T kv xs tb tc side) (hL : ∀ k ∈ L, k < w.heap.size) :
    SeqVals Fence.wide n Tryz.prog 100 (freeLb b1 b2) (fun (x : Pc) a W => a = #[pcV x]) (KpS L) (freeL s.j.keys side) w := by
  intro l J Jx W hbw hAJ hAX hY hJ0
  have hJ : ∀ pre A B, J pre A → Below A.heap.size A B → J pre B := fun pre A B h hb => hAJ pre A B none h (grown_of_below8 hb) (fun r e => by cases e)
  have HAJ := Lib.hid hAJ; have HAX := Lib.hid hAX
  have hY2 : ∀ m pre x W1, pre ++ [x] <+: freeL s.j.keys side → J pre W1 → YieldAt Fence.wide m Tryz.prog l #[pcV x] W1 fun e W' => KeepsFrom W.heap.size W1 W' ∧ ((e = .returned (.bool true) ∧ J (pre ++ [x]) W' ∧ KpS L W1 W') ∨ (e = .returned (.bool false) ∧ Jx (pre ++ [x]) W')) :=
    fun m pre x W1 h1 h3 => yieldAt_any8 m (hY pre x #[pcV x] W1 h1 rfl h3)
  have HC0 := Lib.hid (hcp.kp (KpS.of_below hbw)); have HJ0 := Lib.hid hJ0; have HJ := Lib.hid hJ; have HY := Lib.hid hY2
  have HL : Hid (∀ k ∈ L, k < W.heap.size) := Lib.hid fun k hk => Nat.lt_of_lt_of_le (hL k hk) hbw.size
  clear hY hAJ hAX hbw hcp hJ0 hJ hY2 hL
  refine callsIn_wide.2 ?_
  show Calls Tryz.prog _ _ W (SeqE J Jx (freeL s.j.keys side))
  obtain ⟨kA, kc, hkv⟩ := HC0.out.st.js.form
  obtain ⟨W1, hW1⟩ : ∃ z, z = W.alloc (.cells #[.func (.yield l) #[] #[]] 163) := ⟨_, rfl⟩
  have hb1 : Below W.heap.size W W1 := by rw [hW1]; exact balloc _ _
  obtain ⟨b3, hb3⟩ : ∃ b, b = W.heap.size := ⟨_, rfl⟩
  have HC1 := Lib.hid (HC0.out.kp (KpS.of_below hb1))
  have HJ1 := Lib.hid (HJ.out _ _ _ HJ0.out hb1)
  have HY3 : Hid (Bk W1 b3 #[.func (.yield l) #[] #[]] 163) := Lib.hid (by rw [hW1, hb3]; exact Bk.new _ _ _)
  have HL1 : Hid (∀ k ∈ L, k < W1.heap.size) := Lib.hid fun k hk => Nat.lt_of_lt_of_le (HL.out k hk) hb1.size
  have c1 : W1.cell? ⟨b1, 0, none⟩ = some (.pointer (some ⟨S, 0, none⟩)) := HC1.out.c1.cell 0
  have c4 : W1.cell? ⟨S, 4, none⟩ = some (.pointer (some ⟨T, 0, none⟩)) := HC1.out.st.blk.cell 4
  have t0 : W1.cell? ⟨T, 0, none⟩ = some kv := HC1.out.st.js.blk.cell 0
  rw [hkv] at t0
  have HKV := Lib.hid hkv
  have hkl := HC0.out.st.js.ok.keys
  obtain ⟨kn, hkn⟩ : ∃ n, n = s.j.keys.length := ⟨_, rfl⟩
  have HKN := Lib.hid hkn
  rw [← hkn] at t0 hkl
  have HALL : Hid (freeL s.j.keys side = s.j.keys.flatMap (freeK side)) := Lib.hid rfl
  generalize freeL s.j.keys side = all at HALL HY ⊢
  clear hkv hkn
  simp only [freeLb, List.append_toArray, List.cons_append, List.nil_append]
  refine (callsIn_wide (n := 6)).1 ?_
  refine callsIn_of_wp_marks Tryz.func100 rfl trivial ?_ rfl
  simp only [Tryz.ntmps100, List.size_toArray, List.length_cons, List.length_nil, Nat.reduceAdd, Nat.reduceSub, Array.replicate_succ, Array.replicate_zero, List.push_toArray, List.append_toArray, List.nil_append, List.cons_append]
  refine wpIn_wide.2 ?_
  go_upto_region 1 with fail
  rw [← hW1, ← hb3]
  have HSW : Hid (W.heap.size ≤ W1.heap.size) := Lib.hid hb1.size
  clear hW1 hb1 hb3 HC0 HJ0 HL
  go_wp2_with fail
  refine wp_loop_ghost (fun r a' w' => ∃ (i : Nat) (pre : List Pc) (ds : List Deferred) (u5 u6 u7 u8 u9 u19 u20 u21 u22 u23 u24 u25 u26 u27 u28 u29 u30 u31 u32 u33 u34 u35 u36 u37 u38 u39 u40 u41 u42 u43 u44 u45 u46 u47 u48 u49 u50 u51 : Value), a' = { tmps := #[.func (.yield l) #[] #[], .pointer (some ⟨b1, 0, none⟩), .pointer (some ⟨b2, 0, none⟩), .pointer (some ⟨b3, 0, none⟩), undef, u5, u6, u7, u8, u9, .pointer (some ⟨S, 0, none⟩), .pointer (some ⟨S, 0, none⟩), .pointer (some ⟨S, 4, none⟩), .pointer (some ⟨T, 0, none⟩), .pointer (some ⟨T, 0, none⟩), .pointer (some ⟨T, 0, none⟩), .slice kA kn kc, .int .i64 (kn : Int), .int .i64 (i : Int), u19, u20, u21, u22, u23, u24, u25, u26, u27, u28, u29, u30, u31, u32, u33, u34, u35, u36, u37, u38, u39, u40, u41, u42, u43, u44, u45, u46, u47, u48, u49, u50, u51], defers := ds } ∧ i + r = kn ∧ pre = (s.j.keys.take i).flatMap (freeK side) ∧ J pre w' ∧ KpS L W1 w' ∧ Marks8 W1.heap.size ds w') kn ?_ ?_
  · exact ⟨0, [], [], _, _, _, _, _, _, _, _, _, _, _, _, _, _, _, _, _, _, _, _, _, _, _, _, _, _, _, _, _, _, _, _, _, _, _, _, _, _, rfl, by omega, rfl, HJ1.out, KpS.refl _ _, trivial⟩
  · rintro r a' wa ⟨i, pre, ds, u5, u6, u7, u8, u9, u19, u20, u21, u22, u23, u24, u25, u26, u27, u28, u29, u30, u31, u32, u33, u34, u35, u36, u37, u38, u39, u40, u41, u42, u43, u44, u45, u46, u47, u48, u49, u50, u51, rfl, hir, rfl, hj, hk, hm⟩
    have HJA := Lib.hid hj; have HKA := Lib.hid hk; have HMA := Lib.hid hm
    clear hj hk hm c1 c4 t0 HJ1
    cases r with
    | zero =>
      obtain rfl : i = kn := by omega
      have hki : ¬ (i : Int) < (i : Int) := by omega
      have HR : Hid ((s.j.keys.take i).flatMap (freeK side) = all) := Lib.hid (by rw [HALL.out, List.take_of_length_le (by rw [HKN.out]; exact Nat.le_refl _)])
      go_wp2_with fail
      refine leaves8 (n₀ := W1.heap.size) (I := fun W' => J all W') (fun W' D o h h0 ho hc o' => HAJ.out _ _ _ (some D) h (grownBy_putObj' W' D o') (fun r e => by cases e; exact ⟨Nat.le_trans HSW.out h0, o, ho, hc⟩)) _ _ HMA.out (by rw [← HR.out]; exact HJA.out) (fun W' hs' => ?_)
      refine ⟨_, results_none (by rfl) _ _ _, ?_⟩
      exact ⟨⟨_, rfl⟩, .inl hs'⟩
    | succ r =>
      have hki : (i : Int) < (kn : Int) := by omega
      have hil : i < s.j.keys.length := by have := HKN.out; omega
      have HCA := Lib.hid (HC1.out.kp HKA.out)
      obtain ⟨kg, kc', x, k, hkv, hcap, hx, hkk, ci, hat⟩ := HCA.out.st.js.ptr hil
      rw [HKV.out] at hkv
      injection hkv with hkv1 _ hkv2
      subst hkv1
      subst hkv2
      have HAT := Lib.hid hat; have HKK := Lib.hid hkk
      unfold KB.pv at ci
      have hsp := freeL_split (side := side) HKK.out
      have HSP : Hid (all = (s.j.keys.take i).flatMap (freeK side) ++ (freeK side k ++ (s.j.keys.drop (i + 1)).flatMap (freeK side))) := Lib.hid (HALL.out.trans hsp)
      have hlen : k.used.length ≤ 1000 := HAT.out.big
      obtain ⟨lo, hi, hlh⟩ : ∃ lo hi, (lo, hi) = laneN k.used.length side := ⟨_, _, rfl⟩
      have hle := laneN_le k.used.length side
      have HFK : Hid (freeK side k = (runsL k.used false lo hi).map fun x => (⟨k.id, x.1, x.2⟩ : Pc)) := Lib.hid (by unfold freeK; rw [← hlh])
      have HLN : Hid (∀ W : World, Calls Tryz.prog 101 #[.int .i64 (k.used.length : Int), .int .i64 side] W fun e w' => e = .returned (.tuple #[.int .i64 (lo : Int), .int .i64 (hi : Int)]) ∧ W = w') := Lib.hid (fun W => by have h := lane_any k.used.length (by omega) side W; rw [← hlh] at h; exact h)
      rw [← hlh] at hle
      dsimp only at hle
      have HLE := Lib.hid hle
      clear hx hkk hat hcap hsp hle hlh
      go_upto_region 4 with fail
      obtain ⟨W2, hW2⟩ : ∃ z, z = wa.alloc (.cells #[.pointer (some ⟨x.kb, 0, none⟩)] 121) := ⟨_, rfl⟩
      obtain ⟨bk, hbk⟩ : ∃ z, z = wa.heap.size := ⟨_, rfl⟩
      have hb2 : Below wa.heap.size wa W2 := by rw [hW2]; exact balloc _ _
      have hk2 : Bk W2 bk #[.pointer (some ⟨x.kb, 0, none⟩)] 121 := by rw [hW2, hbk]; exact Bk.new _ _ _
      rw [← hW2, ← hbk]
      have HB2 := Lib.hid hb2; have HBK := Lib.hid hk2
      have hcb : Below W2.heap.size W2 W2 := Below.refl _ _
      have HC2 := Lib.hid (HCA.out.kp (KpS.of_below hb2))
      have HK2 : Hid (Bk W2 x.kb #[.int .i64 (k.id : Int), .slice (some ⟨x.bb, 0, none⟩) k.bits.length x.cb, .slice (some ⟨x.ub, 0, none⟩) k.used.length x.cu] 123) := Lib.hid (HAT.out.blk.past hb2 HAT.out.blk.lt)
      have l1 : W2.cell? ⟨bk, 0, none⟩ = some (.pointer (some ⟨x.kb, 0, none⟩)) := hk2.cell 0
      have l2 : W2.cell? ⟨x.kb, 1, none⟩ = some (.slice (some ⟨x.bb, 0, none⟩) k.used.length x.cb) := by have h := HK2.out.cell 1; rw [HAT.out.len] at h; exact h
      have l3 : W2.cell? ⟨b2, 0, none⟩ = some (.int .i64 side) := HC2.out.c2.cell 0
      clear hW2 hbk hb2 hk2 ci hcb
      go_quiet ((go_at_call 101; exact quiet_e (HLN.out _)))
      obtain ⟨W3, hW3⟩ : ∃ z, z = W2.drewN nq := ⟨_, rfl⟩
      have hb3 : Below W2.heap.size W2 W3 := by rw [hW3]; exact Qw.below ⟨nq, rfl⟩ _
      rw [← hW3]
      have HB3 := Lib.hid (bnextK HB2.out hb3); have HBQ := Lib.hid hb3
      have m1 : W3.cell? ⟨bk, 0, none⟩ = some (.pointer (some ⟨x.kb, 0, none⟩)) := (HBK.out.past hb3 HBK.out.lt).cell 0
      have m2 : W3.cell? ⟨x.kb, 2, none⟩ = some (.slice (some ⟨x.ub, 0, none⟩) k.used.length x.cu) := (HK2.out.past hb3 HK2.out.lt).cell 2
      obtain ⟨su, hsu⟩ := HAT.out.used
      have HUB : Hid (Bk W3 x.ub (k.used.map Value.bool ++ su).toArray 4) := Lib.hid (by
        have h := hsu.past HB2.out hsu.lt
        exact h.past hb3 h.lt)
      have HLL : Hid (∀ n ∈ L, n < W3.heap.size) := Lib.hid fun n hn => Nat.lt_of_lt_of_le (HL1.out n hn) (Nat.le_trans HKA.out.size HB3.out.size)
      clear hsu hW3 hb3 l1 l2 l3
      go_upto_region 5 with fail
      go_wp2_with (refine (runs_any (L := L) (lo := lo) (hi := hi) false HUB.out (by have := HLE.out; omega) hlen HLL.out).mono ?_; rintro e w4 ⟨rfl, hcap, hb4⟩; have HCAP := Lib.hid hcap; have HB4 := Lib.hid hb4; clear hcap hb4)
      have HSQ := Lib.hid (runs1_any 5 HCAP.out)
      have HB5 := Lib.hid (bnextK HB3.out HB4.out)
      have HK4 := Lib.hid (HKA.out.trans (KpS.of_below HB5.out))
      have HJ4 := Lib.hid (HJ.out _ _ _ HJA.out HB5.out)
      have HM4 : Hid (Marks8 W1.heap.size ds w4) := Lib.hid (HMA.out.keep (fun k o ho _ => (HB5.out.block k (Array.getElem?_eq_some_iff.1 ho).1).trans ho))
      have HMB : Hid (∀ d ∈ ds, ∀ D, d.target = .collected D → D < w4.heap.size) := Lib.hid fun d hd D hD => HM4.out.lt d hd D hD
      have HSZ : Hid (W.heap.size ≤ w4.heap.size) := Lib.hid (Nat.le_trans HSW.out HK4.out.size)
      have HY4 : Hid (Bk w4 b3 #[.func (.yield l) #[] #[]] 163) := Lib.hid (HK4.out.bk _ _ _ HY3.out (by decide) (by decide) (by decide) (by decide) (fun e => absurd e (by decide)))
      have HBK4 : Hid (Bk w4 bk #[.pointer (some ⟨x.kb, 0, none⟩)] 121) := Lib.hid (by
        have h := HBK.out.past HBQ.out HBK.out.lt
        exact h.past HB4.out h.lt)
      have HKK4 : Hid (Bk w4 x.kb #[.int .i64 (k.id : Int), .slice (some ⟨x.bb, 0, none⟩) k.bits.length x.cb, .slice (some ⟨x.ub, 0, none⟩) k.used.length x.cu] 123) := Lib.hid (HAT.out.blk.past HB5.out HAT.out.blk.lt)
      refine (wpIn_wide (n := 6)).1 ?_
      refine wpIn_rangeFunc_ownV rfl (by decide) (gf := 93) (lb := runLb (W3.heap.size + 1) (W3.heap.size + 1 + 1) W3.heap.size (W3.heap.size + 1 + 1 + 1)) rfl trivial (enters_of Tryz.func93 (by kernel_rfl) rfl) HSQ.out (fun _ _ _ _ _ _ h _ _ _ => h) (fun h1 h2 => h1.trans h2) (fun W l o o' _ ho hc _ => KpS.putObj L W l o o' ho hc) (Below.refl _ _) (fun x v W h => by subst h; rfl)
        (fun pre WW => J ((s.j.keys.take i).flatMap (freeK side) ++ pre.map fun x => (⟨k.id, x.1, x.2⟩ : Pc)) WW ∧ KpS L w4 WW ∧ Marks8 W1.heap.size ds WW)
        (fun c pre WW => c = .ret ∧ ∃ q, q <+: all ∧ Jx q WW ∧ Marks8 W1.heap.size ds WW)
        ?hI ?hIx ⟨by simpa using HJ4.out, KpS.refl _ _, HM4.out⟩ (fun pv => { tmps := #[.func (.yield l) #[] #[], .pointer (some ⟨b1, 0, none⟩), .pointer (some ⟨b2, 0, none⟩), .pointer (some ⟨b3, 0, none⟩), undef, .pointer (some ⟨bk, 0, none⟩), .int .i64 (lo : Int), .int .i64 (hi : Int), pv.getD 0 undef, pv.getD 1 undef, .pointer (some ⟨S, 0, none⟩), .pointer (some ⟨S, 0, none⟩), .pointer (some ⟨S, 4, none⟩), .pointer (some ⟨T, 0, none⟩), .pointer (some ⟨T, 0, none⟩), .pointer (some ⟨T, 0, none⟩), .slice (some ⟨kg, 0, none⟩) kn kc, .int .i64 (kn : Int), .int .i64 (i : Int), .bool true, .pointer (some ⟨kg, i, none⟩), .pointer (some ⟨x.kb, 0, none⟩), .tuple #[.int .i64 (lo : Int), .int .i64 (hi : Int)], .pointer (some ⟨x.kb, 0, none⟩), .pointer (some ⟨x.kb, 0, none⟩), .pointer (some ⟨x.kb, 1, none⟩), .slice (some ⟨x.bb, 0, none⟩) k.used.length x.cb, .int .i64 (k.used.length : Int), .int .i64 side, .tuple #[.int .i64 (lo : Int), .int .i64 (hi : Int)], .int .i64 (lo : Int), .int .i64 (hi : Int), .pointer (some ⟨x.kb, 0, none⟩), .pointer (some ⟨x.kb, 0, none⟩), .pointer (some ⟨x.kb, 2, none⟩), .slice (some ⟨x.ub, 0, none⟩) k.used.length x.cu, .int .i64 (lo : Int), .int .i64 (hi : Int), .func (.func 93) #[] (runLb (W3.heap.size + 1) (W3.heap.size + 1 + 1) W3.heap.size (W3.heap.size + 1 + 1 + 1)), pv.getD 0 undef, pv.getD 1 undef, u41, u42, u43, u44, u45, u46, u47, u48, u49, u50, u51], defers := [] }) ?assign ?body ?done ?stop
      case hI =>
        rintro pre A B row ⟨h1, h2, h3⟩ hg hr
        exact ⟨HAJ.out _ A B row h1 hg (fun r e => ⟨Nat.le_trans HSZ.out (hr r e).1, (hr r e).2⟩), h2.trans (KpS.grown hg (fun r e => (hr r e).2)), h3.iter HMB.out hg (fun r e => (hr r e).1)⟩
      case hIx =>
        rintro c pre A B row ⟨h0, q, h1, h2, h3⟩ hg hr
        exact ⟨h0, q, h1, HAX.out _ A B row h2 hg (fun r e => ⟨Nat.le_trans HSZ.out (hr r e).1, (hr r e).2⟩), h3.iter HMB.out hg (fun r e => (hr r e).1)⟩
      case assign =>
        rintro l2 y v WW K rfl hK
        unfold runV at hK ⊢
        gi_wp2_with fail
        exact hK
      case body =>
        rintro l2 pre y v WW hpre rfl ⟨hj, hk, hm⟩
        dsimp only
        rw [show (runV y).getD 0 undef = .int .i64 (y.1 : Int) from rfl, show (runV y).getD 1 undef = .int .i64 (y.2 : Int) from rfl]
        have c41 : WW.cell? ⟨b3, 0, none⟩ = some (.func (.yield l) #[] #[]) := (hk.bk _ _ _ HY4.out (by decide) (by decide) (by decide) (by decide) (fun e => absurd e (by decide))).cell 0
        have c42 : WW.cell? ⟨bk, 0, none⟩ = some (.pointer (some ⟨x.kb, 0, none⟩)) := (hk.bk _ _ _ HBK4.out (by decide) (by decide) (by decide) (by decide) (fun e => absurd e (by decide))).cell 0
        have c45 : WW.cell? ⟨x.kb, 0, none⟩ = some (.int .i64 (k.id : Int)) := (hk.bk _ _ _ HKK4.out (by decide) (by decide) (by decide) (by decide) (fun e => absurd e (by decide))).cell 0
        have hqw : Below WW.heap.size WW WW.drew := Qw.below ⟨1, rfl⟩ _
        have hpp : ((s.j.keys.take i).flatMap (freeK side) ++ pre.map fun x => (⟨k.id, x.1, x.2⟩ : Pc)) ++ [⟨k.id, y.1, y.2⟩] <+: all := by
          obtain ⟨tl, htl⟩ := hpre
          rw [HSP.out, HFK.out, ← htl]
          exact ⟨(tl.map fun x => (⟨k.id, x.1, x.2⟩ : Pc)) ++ (s.j.keys.drop (i + 1)).flatMap (freeK side), by simp⟩
        have hyy := yieldAt_any8 3 (HY.out 0 _ _ WW.drew hpp (HJ.out _ _ _ hj hqw))
        have HK := Lib.hid hk; have HM := Lib.hid hm; have HPP := Lib.hid hpp; have HQW := Lib.hid hqw
        clear hk hm hpp hqw hj hpre
        unfold pcV at hyy
        dsimp only at hyy
        obtain ⟨fn, tmps, assign, body, hy, hRR⟩ := hyy
        have HKD : Hid (∀ w', KeepsFrom W.heap.size WW.drew w' → KeepsFrom W.heap.size WW w') := Lib.hid fun w' h => KeepsFrom.trans ⟨HQW.out.size, fun k o _ ho _ => (HQW.out.block k (Array.getElem?_eq_some_iff.1 ho).1).trans ho⟩ h
        have HPD : Hid (∀ w', KpS L WW.drew w' → KpS L WW w') := Lib.hid fun w' h => (KpS.of_below HQW.out).trans h
        replace hRR := hRR.mono (fun e w' h => show ∃ b : Bool, e = .returned (.bool (!b)) ∧ KeepsFrom W.heap.size WW w' ∧ ((b = false ∧ J (((s.j.keys.take i).flatMap (freeK side) ++ pre.map fun x => (⟨k.id, x.1, x.2⟩ : Pc)) ++ [⟨k.id, y.1, y.2⟩]) w' ∧ KpS L WW w') ∨ (b = true ∧ Jx (((s.j.keys.take i).flatMap (freeK side) ++ pre.map fun x => (⟨k.id, x.1, x.2⟩ : Pc)) ++ [⟨k.id, y.1, y.2⟩]) w')) by
          obtain ⟨h1, ⟨h2, h3⟩ | ⟨h2, h3⟩⟩ := h
          · exact ⟨false, h2, HKD.out _ h1, .inl ⟨rfl, h3.1, HPD.out _ h3.2⟩⟩
          · exact ⟨true, h2, HKD.out _ h1, .inr ⟨rfl, h3⟩⟩)
        gi_upto_region 8 with fail
        refine wpIn_mono (Q := fun e a w' => e = .normal ∧ ∃ b : Bool, a = { tmps := #[.func (.yield l) #[] #[], .pointer (some ⟨b1, 0, none⟩), .pointer (some ⟨b2, 0, none⟩), .pointer (some ⟨b3, 0, none⟩), undef, .pointer (some ⟨bk, 0, none⟩), .int .i64 (lo : Int), .int .i64 (hi : Int), .int .i64 (y.1 : Int), .int .i64 (y.2 : Int), .pointer (some ⟨S, 0, none⟩), .pointer (some ⟨S, 0, none⟩), .pointer (some ⟨S, 4, none⟩), .pointer (some ⟨T, 0, none⟩), .pointer (some ⟨T, 0, none⟩), .pointer (some ⟨T, 0, none⟩), .slice (some ⟨kg, 0, none⟩) kn kc, .int .i64 (kn : Int), .int .i64 (i : Int), .bool true, .pointer (some ⟨kg, i, none⟩), .pointer (some ⟨x.kb, 0, none⟩), .tuple #[.int .i64 (lo : Int), .int .i64 (hi : Int)], .pointer (some ⟨x.kb, 0, none⟩), .pointer (some ⟨x.kb, 0, none⟩), .pointer (some ⟨x.kb, 1, none⟩), .slice (some ⟨x.bb, 0, none⟩) k.used.length x.cb, .int .i64 (k.used.length : Int), .int .i64 side, .tuple #[.int .i64 (lo : Int), .int .i64 (hi : Int)], .int .i64 (lo : Int), .int .i64 (hi : Int), .pointer (some ⟨x.kb, 0, none⟩), .pointer (some ⟨x.kb, 0, none⟩), .pointer (some ⟨x.kb, 2, none⟩), .slice (some ⟨x.ub, 0, none⟩) k.used.length x.cu, .int .i64 (lo : Int), .int .i64 (hi : Int), .func (.func 93) #[] (runLb (W3.heap.size + 1) (W3.heap.size + 1 + 1) W3.heap.size (W3.heap.size + 1 + 1 + 1)), .int .i64 (y.1 : Int), .int .i64 (y.2 : Int), .func (.yield l) #[] #[], .pointer (some ⟨x.kb, 0, none⟩), .pointer (some ⟨x.kb, 0, none⟩), .pointer (some ⟨x.kb, 0, none⟩), .int .i64 (k.id : Int), .int .i64 (y.1 : Int), .int .i64 (y.2 : Int), .agg #[.int .i64 (k.id : Int), .int .i64 (y.1 : Int), .int .i64 (y.2 : Int)], .bool (!b), .bool b, u51], defers := [] } ∧ KeepsFrom W.heap.size WW w' ∧ ((b = false ∧ J (((s.j.keys.take i).flatMap (freeK side) ++ pre.map fun x => (⟨k.id, x.1, x.2⟩ : Pc)) ++ [⟨k.id, y.1, y.2⟩]) w' ∧ KpS L WW w') ∨ (b = true ∧ Jx (((s.j.keys.take i).flatMap (freeK side) ++ pre.map fun x => (⟨k.id, x.1, x.2⟩ : Pc)) ++ [⟨k.id, y.1, y.2⟩]) w'))) ?reg ?cont
        case reg =>
          refine wpIn_region_round8 (by kernel_rfl) (by kernel_rfl) ?_
          refine wpAnyIn_take (i := 5) (v := ?_) rfl rfl (by kernel_rfl) (by kernel_rfl) (by kernel_rfl) (fun _ _ _ h => absurd h.1 (by simp)) ⟨Or.inl ⟨by rfl, ?_⟩, fun _ => rfl⟩ ?_
          rotate_left
          · (intro w; go_simp; try with_reducible rfl)
          try simp only [Act.put, setIfInBounds_toArray, set_cons_zero, set_cons_succ]
          refine wpAnyIn_take (i := 6) (v := ?_) rfl rfl (by kernel_rfl) (by kernel_rfl) (by kernel_rfl) (fun _ _ _ h => absurd h.1 (by simp)) ⟨Or.inl ⟨by rfl, ?_⟩, fun _ => rfl⟩ ?_
          rotate_left
          · (intro w; go_simp; try with_reducible rfl)
          try simp only [Act.put, setIfInBounds_toArray, set_cons_zero, set_cons_succ]
          refine wpAnyIn_ready (rs := [0, 1]) (by kernel_rfl) (by simp) ?_
          refine AllReadyIn.cons rfl (fun K hK => ?_) ?_
          · skip
            go_simp
            refine hK _ _ ?_
            clear hK K
            try simp only [Act.put, setIfInBounds_toArray, set_cons_zero, set_cons_succ]
            refine wpAnyIn_ready (rs := [1]) (by kernel_rfl) (by simp) ?_
            refine AllReadyIn.cons rfl (fun K hK => ?_) AllReadyIn.nil
            go_simp
            refine hK _ _ ?_
            clear hK K
            try simp only [Act.put, setIfInBounds_toArray, set_cons_zero, set_cons_succ]
            refine wpAnyIn_take (i := 2) (v := ?_) rfl rfl (by kernel_rfl) (by kernel_rfl) (by kernel_rfl) (fun _ _ _ h => absurd h.1 (by simp)) ⟨Or.inl ⟨by rfl, ?_⟩, fun _ => rfl⟩ ?_
            rotate_left
            · (intro w; go_simp; try with_reducible rfl)
            try simp only [Act.put, setIfInBounds_toArray, set_cons_zero, set_cons_succ]
            refine wpAnyIn_take (i := 3) (v := ?_) rfl rfl (by kernel_rfl) (by kernel_rfl) (by kernel_rfl) (fun _ _ _ h => absurd h.1 (by simp)) ⟨Or.inl ⟨by rfl, ?_⟩, fun _ => rfl⟩ ?_
            rotate_left
            · (intro w; go_simp; try with_reducible rfl)
            try simp only [Act.put, setIfInBounds_toArray, set_cons_zero, set_cons_succ]
            refine wpAnyIn_ready (rs := [4]) (by kernel_rfl) (by simp) ?_
            refine AllReadyIn.cons rfl (fun K hK => ?_) AllReadyIn.nil
            go_simp
            refine hK _ _ ?_
            clear hK K
            try simp only [Act.put, setIfInBounds_toArray, set_cons_zero, set_cons_succ]
            refine wpAnyIn_take (i := 7) (v := ?_) rfl rfl (by kernel_rfl) (by kernel_rfl) (by kernel_rfl) (fun _ _ _ h => absurd h.1 (by simp)) ⟨Or.inl ⟨by rfl, ?_⟩, fun _ => rfl⟩ ?_
            rotate_left
            · (intro w; go_simp; try with_reducible rfl)
            try simp only [Act.put, setIfInBounds_toArray, set_cons_zero, set_cons_succ]
            refine wpAnyIn_ready (rs := [8]) (by kernel_rfl) (by simp) ?_
            refine AllReadyIn.cons rfl (fun K hK => ?_) AllReadyIn.nil
            go_simp
            refine hRR.mono ?_
            rintro e w9 ⟨b, rfl, hres⟩
            have HRES := Lib.hid hres
            clear hres
            dsimp only
            refine hK _ _ ?_
            clear hK K
            try simp only [Act.put, setIfInBounds_toArray, set_cons_zero, set_cons_succ]
            refine wpAnyIn_take (i := 9) (v := ?_) rfl rfl (by kernel_rfl) (by kernel_rfl) (by kernel_rfl) (fun _ _ _ h => absurd h.1 (by simp)) ⟨Or.inl ⟨by rfl, ?_⟩, fun _ => rfl⟩ ?_
            rotate_left
            · (intro w; go_simp; try with_reducible rfl)
            try simp only [Act.put, setIfInBounds_toArray, set_cons_zero, set_cons_succ]
            refine wpAnyIn_done (by kernel_rfl) ?_ _
            exact ⟨rfl, b, rfl, HRES.out⟩
          refine AllReadyIn.cons rfl (fun K hK => ?_) AllReadyIn.nil
          go_simp
          refine hK _ _ ?_
          clear hK K
          try simp only [Act.put, setIfInBounds_toArray, set_cons_zero, set_cons_succ]
          refine wpAnyIn_take (i := 2) (v := ?_) rfl rfl (by kernel_rfl) (by kernel_rfl) (by kernel_rfl) (fun _ _ _ h => absurd h.1 (by simp)) ⟨Or.inl ⟨by rfl, ?_⟩, fun _ => rfl⟩ ?_
          rotate_left
          · (intro w; go_simp; try with_reducible rfl)
          try simp only [Act.put, setIfInBounds_toArray, set_cons_zero, set_cons_succ]
          refine wpAnyIn_take (i := 3) (v := ?_) rfl rfl (by kernel_rfl) (by kernel_rfl) (by kernel_rfl) (fun _ _ _ h => absurd h.1 (by simp)) ⟨Or.inl ⟨by rfl, ?_⟩, fun _ => rfl⟩ ?_
          rotate_left
          · (intro w; go_simp; try with_reducible rfl)
          try simp only [Act.put, setIfInBounds_toArray, set_cons_zero, set_cons_succ]
          refine wpAnyIn_ready (rs := [0, 4]) (by kernel_rfl) (by simp) ?_
          refine AllReadyIn.cons rfl (fun K hK => ?_) ?_
          · skip
            go_simp
            refine hK _ _ ?_
            clear hK K
            try simp only [Act.put, setIfInBounds_toArray, set_cons_zero, set_cons_succ]
            refine wpAnyIn_ready (rs := [4]) (by kernel_rfl) (by simp) ?_
            refine AllReadyIn.cons rfl (fun K hK => ?_) AllReadyIn.nil
            go_simp
            refine hK _ _ ?_
            clear hK K
            try simp only [Act.put, setIfInBounds_toArray, set_cons_zero, set_cons_succ]
            refine wpAnyIn_take (i := 7) (v := ?_) rfl rfl (by kernel_rfl) (by kernel_rfl) (by kernel_rfl) (fun _ _ _ h => absurd h.1 (by simp)) ⟨Or.inl ⟨by rfl, ?_⟩, fun _ => rfl⟩ ?_
            rotate_left
            · (intro w; go_simp; try with_reducible rfl)
            try simp only [Act.put, setIfInBounds_toArray, set_cons_zero, set_cons_succ]
            refine wpAnyIn_ready (rs := [8]) (by kernel_rfl) (by simp) ?_
            refine AllReadyIn.cons rfl (fun K hK => ?_) AllReadyIn.nil
            go_simp
            refine hRR.mono ?_
            rintro e w9 ⟨b, rfl, hres⟩
            have HRES := Lib.hid hres
            clear hres
            dsimp only
            refine hK _ _ ?_
            clear hK K
            try simp only [Act.put, setIfInBounds_toArray, set_cons_zero, set_cons_succ]
            refine wpAnyIn_take (i := 9) (v := ?_) rfl rfl (by kernel_rfl) (by kernel_rfl) (by kernel_rfl) (fun _ _ _ h => absurd h.1 (by simp)) ⟨Or.inl ⟨by rfl, ?_⟩, fun _ => rfl⟩ ?_
            rotate_left
            · (intro w; go_simp; try with_reducible rfl)
            try simp only [Act.put, setIfInBounds_toArray, set_cons_zero, set_cons_succ]
            refine wpAnyIn_done (by kernel_rfl) ?_ _
            exact ⟨rfl, b, rfl, HRES.out⟩
          refine AllReadyIn.cons rfl (fun K hK => ?_) AllReadyIn.nil
          go_simp
          refine hK _ _ ?_
          clear hK K
          try simp only [Act.put, setIfInBounds_toArray, set_cons_zero, set_cons_succ]
          refine wpAnyIn_take (i := 7) (v := ?_) rfl rfl (by kernel_rfl) (by kernel_rfl) (by kernel_rfl) (fun _ _ _ h => absurd h.1 (by simp)) ⟨Or.inl ⟨by rfl, ?_⟩, fun _ => rfl⟩ ?_
          rotate_left
          · (intro w; go_simp; try with_reducible rfl)
          try simp only [Act.put, setIfInBounds_toArray, set_cons_zero, set_cons_succ]
          refine wpAnyIn_ready (rs := [0]) (by kernel_rfl) (by simp) ?_
          refine AllReadyIn.cons rfl (fun K hK => ?_) AllReadyIn.nil
          go_simp
          refine hK _ _ ?_
          clear hK K
          try simp only [Act.put, setIfInBounds_toArray, set_cons_zero, set_cons_succ]
          refine wpAnyIn_ready (rs := [8]) (by kernel_rfl) (by simp) ?_
          refine AllReadyIn.cons rfl (fun K hK => ?_) AllReadyIn.nil
          go_simp
          refine hRR.mono ?_
          rintro e w9 ⟨b, rfl, hres⟩
          have HRES := Lib.hid hres
          clear hres
          dsimp only
          refine hK _ _ ?_
          clear hK K
          try simp only [Act.put, setIfInBounds_toArray, set_cons_zero, set_cons_succ]
          refine wpAnyIn_take (i := 9) (v := ?_) rfl rfl (by kernel_rfl) (by kernel_rfl) (by kernel_rfl) (fun _ _ _ h => absurd h.1 (by simp)) ⟨Or.inl ⟨by rfl, ?_⟩, fun _ => rfl⟩ ?_
          rotate_left
          · (intro w; go_simp; try with_reducible rfl)
          try simp only [Act.put, setIfInBounds_toArray, set_cons_zero, set_cons_succ]
          refine wpAnyIn_done (by kernel_rfl) ?_ _
          exact ⟨rfl, b, rfl, HRES.out⟩
        case cont =>
          rintro e a w5 ⟨rfl, b, rfl, hkf, ⟨rfl, hj5, hk5⟩ | ⟨rfl, hx5⟩⟩
          · have HKF := Lib.hid hkf; have HJ5 := Lib.hid hj5; have HK5 := Lib.hid hk5
            clear hkf hj5 hk5 hy hRR
            gi_wp2_with fail
            exact ⟨keepsFrom_le HKF.out HSZ.out, HK5.out, by rw [List.map_append, List.map_singleton, ← List.append_assoc]; exact HJ5.out, HK.out.trans HK5.out, HM.out.keepF HSW.out HKF.out⟩
          · have HKF := Lib.hid hkf; have HX5 := Lib.hid hx5
            clear hkf hx5 hy hRR
            gi_wp2_with fail
            exact ⟨keepsFrom_le HKF.out HSZ.out, rfl, _, HPP.out, HX5.out, HM.out.keepF HSW.out HKF.out⟩
      case done =>
        rintro D WW hD ⟨hj, hk, hm⟩ hK
        have HTK : Hid ((s.j.keys.take (i + 1)).flatMap (freeK side) = (s.j.keys.take i).flatMap (freeK side) ++ (runsL k.used false lo hi).map fun x => (⟨k.id, x.1, x.2⟩ : Pc)) := Lib.hid (by
          rw [← HFK.out, List.take_add_one, HKK.out]; simp)
        have HJD := Lib.hid hj
        have HKD := Lib.hid (HK4.out.trans hk)
        have HMD : Hid (Marks8 W1.heap.size ({ target := .collected D, args := #[] } :: ds) WW) := Lib.hid ⟨⟨D, rfl, Nat.le_trans (HK4.out.size) hD, hK, fun d' hd' e => by have := HMB.out d' hd' D e; omega⟩, hm⟩
        clear hj hk hm hK
        go_wp2_with fail
        exact ⟨r, by omega, i + 1, _, _, _, _, _, _, _, _, _, _, _, _, _, _, _, _, _, _, _, _, _, _, _, _, _, _, _, _, _, _, _, _, _, _, _, _, _, _, _, _,  rfl, by omega, rfl, by rw [HTK.out]; exact HJD.out, HKD.out, HMD.out⟩
      case stop =>
        rintro D c pre WW hD hpre ⟨rfl, q, hq, hjx, hm⟩ hK
        have HMD : Hid (Marks8 W1.heap.size ({ target := .collected D, args := #[] } :: ds) WW) := Lib.hid ⟨⟨D, rfl, Nat.le_trans (HK4.out.size) hD, hK, fun d' hd' e => by have := HMB.out d' hd' D e; omega⟩, hm⟩
        have HQ := Lib.hid hq; have HX := Lib.hid hjx
        clear hq hjx hm hK hpre
        refine wpIn_wide.2 ?_
        go_wp2_with fail
        refine leaves8 (n₀ := W1.heap.size) (I := fun W' => Jx q W') (fun W' D o h h0 ho hc o' => HAX.out _ _ _ (some D) h (grownBy_putObj' W' D o') (fun r e => by cases e; exact ⟨Nat.le_trans HSW.out h0, o, ho, hc⟩)) _ _ HMD.out HX.out (fun W' hs' => ?_)
        refine ⟨_, results_none (by rfl) _ _ _, ?_⟩
        exact ⟨⟨_, rfl⟩, .inr ⟨_, HQ.out, hs'⟩⟩
end Go.Proofs.YtdgmjedkhjeadaaGreat
namespace Go.Proofs.YtdgmjedkhjeadaaGreat
open List (setIfInBounds_toArray set_cons_zero set_cons_succ)
open Go.RowKit
set_option linter.unusedVariables false
set_option linter.unusedSimpArgs false
theorem elB_rb : ElemB Tryz.prog 31 5 1 1 := ElemB.of Tryz.underlying31 infoB8 rfl (by decide)
theorem slice_tlE {P : Program} {t e : TypeId} {sz : Nat} (ht' : P.underlying t = some (.slice e)) (hz' : ∀ w, (sizeOf e).run P w = .ok sz w)
    {w : World} {B n : Nat} {A : Option Addr} {xs : List Value} (h : Rd w B sz A n xs) (E : Int) (lo c : Nat) (hE : E = (lo : Int)) (hlo : lo ≤ n) (hc : n ≤ c) :
    ∃ A2, (∀ w', (Instr.sliceAt t (.slice A n c) (some (.int .i64 E)) none none).run P w' = .ok (.slice A2 (n - lo) (c - lo)) w') ∧ Rd w B sz A2 (n - lo) ((xs.drop (lo * sz)).take ((n - lo) * sz)) := by
  subst hE
  exact slice_tl ht' hz' h lo c hlo hc
/-- The state in the midst of a crash: so many sectors are done. -/
def crT (r : Rk) (K : List Sec) (a b c : Nat) : Rk := { r with new := mix K r.new a, kept := mix K r.kept b, fresh := mix (List.replicate r.new.length false) r.fresh c }
section
variable {w : World} {R : Nat} {r : Rk} {bn bk bf cn ck cf : Nat} {kv : Value} {K : List Sec}
theorem crT_len (hK : K.length = r.new.length) {a : Nat} (ha : a ≤ r.new.length) (b c : Nat) : (crT r K a b c).new.length = r.new.length := mix_length _ _ hK ha
theorem crT_new {i b c : Nat} (h : RkAt w R (crT r K i b c) bn bk bf cn ck cf kv) (hK : K.length = r.new.length) (hi : i < r.new.length) {X : Sec} (hx : K[i]? = some X) {v : Value} (hv : BrV w X v) (hs : SecOK X) : RkAt (w.setCell ⟨bn, i, none⟩ v) R (crT r K (i + 1) b c) bn bk bf cn ck cf kv := by
  have := h.setNew i hv hs
  unfold crT at this ⊢
  dsimp only at this
  rw [mix_set _ _ hK hi hx] at this
  exact this
theorem crT_kept {i a c : Nat} (h : RkAt w R (crT r K a i c) bn bk bf cn ck cf kv) (ok : RkOK r) (hK : K.length = r.new.length) (hi : i < r.new.length) {X : Sec} (hx : K[i]? = some X) {v : Value} (hv : BrV w X v) (hs : SecOK X) : RkAt (w.setCell ⟨bk, i, none⟩ v) R (crT r K a (i + 1) c) bn bk bf cn ck cf kv := by
  have := h.setKept i hv hs
  unfold crT at this ⊢
  dsimp only at this
  rw [mix_set _ _ (by rw [ok.kl]; exact hK) (by rw [ok.kl]; exact hi) hx] at this
  exact this
theorem crT_same {i a c : Nat} (ok : RkOK r) (hK : K.length = r.new.length) (hi : i < r.new.length) (hx : K[i]? = r.kept[i]?) : crT r K a i c = crT r K a (i + 1) c := by
  unfold crT
  have hl : i < r.kept.length := by rw [ok.kl]; exact hi
  have e := mix_set K r.kept (i := i) (x := r.kept[i]) (by rw [ok.kl]; exact hK) hl (by rw [hx, List.getElem?_eq_getElem hl])
  rw [← e]
  have e2 : (mix K r.kept i).set i r.kept[i] = mix K r.kept i := by
    apply List.ext_getElem?
    intro j
    rw [List.getElem?_set]
    by_cases q : i = j
    · subst q
      rw [if_pos rfl, if_pos (by rw [mix_length _ _ (by rw [ok.kl]; exact hK) (by omega)]; exact hl), mix_get _ _ (by rw [ok.kl]; exact hK) hl, List.getElem?_eq_getElem hl]
    · rw [if_neg q]
  rw [e2]
theorem crT_fr {i a b : Nat} (h : RkAt w R (crT r K a b i) bn bk bf cn ck cf kv) (ok : RkOK r) (hK : K.length = r.new.length) (hi : i < r.new.length) (ha : a ≤ r.new.length) : RkAt (w.setCell ⟨bf, i, none⟩ (.bool false)) R (crT r K a b (i + 1)) bn bk bf cn ck cf kv := by
  have := h.setFr (i := i) (by rw [crT_len hK ha]; exact hi) false
  unfold crT at this ⊢
  dsimp only at this
  rw [mix_set _ _ (by rw [ok.fl]; simp) (by rw [ok.fl]; exact hi) (by rw [List.getElem?_replicate, if_pos hi])] at this
  exact this
theorem mix_getD {α : Type} (K l : List α) {i : Nat} (h : K.length = l.length) (hi : i < l.length) (x : α) : (mix K l i).getD i x = l.getD i x := by
  rw [List.getD_eq_getElem?_getD, mix_get _ _ h hi, ← List.getD_eq_getElem?_getD]
theorem mix_getS {α : Type} (K l : List α) {i : Nat} (h : K.length = l.length) (hi : i < l.length) (x : α) {y : α} (hx : K[i]? = some y) : (mix K l (i + 1)).getD i x = y := by
  rw [← mix_set _ _ h hi hx, List.getD_eq_getElem?_getD, List.getElem?_set_self (by rw [mix_length _ _ h (by omega)]; exact hi)]; rfl
theorem range_newest (d : Dk) (h : ∀ i, i < d.dur.length → d.cch.getD i none = none) : (List.range d.dur.length).map d.newest = d.dur := by
  apply List.ext_getElem?
  intro j
  rw [List.getElem?_map]
  by_cases hj : j < d.dur.length
  · rw [List.getElem?_range hj, List.getElem?_eq_getElem hj]
    simp only [Option.map_some, Dk.newest, h j hj, Option.getD_none]
    rw [List.getD_eq_getElem?_getD, List.getElem?_eq_getElem hj]; rfl
  · rw [List.getElem?_eq_none (by simp; omega), List.getElem?_eq_none (by omega)]; rfl
theorem crash_is {d : Dk} (h : RkIs r d) (hd : DkOK d) (k : List Nat) (kp : List Nat) (cr : Int) : RkIs { crT r (keepS d.dur d.cch k) d.dur.length d.dur.length d.dur.length with after := -1, keep := kp, down := true, cr := cr } (d.crash k) := by
  have hn := (h.ok hd).1
  have hl := keepS_length d.dur d.cch k
  have hkl : r.kept.length = d.dur.length := by rw [h.kept]
  have hfl : r.fresh.length = d.dur.length := by rw [h.fresh, List.length_map, hd.len]
  have hnone : ∀ i, i < (d.crash k).dur.length → (d.crash k).cch.getD i none = none := by
    intro i hi
    show (List.replicate d.cch.length none).getD i none = none
    rw [List.getD_eq_getElem?_getD, List.getElem?_replicate]
    split <;> rfl
  refine ⟨?_, ?_, ?_, rfl, rfl⟩
  · rw [range_newest _ hnone]
    show mix (keepS d.dur d.cch k) r.new d.dur.length = _
    rw [mix_full _ _ hl hn]; rfl
  · show mix (keepS d.dur d.cch k) r.kept d.dur.length = _
    rw [mix_full _ _ hl hkl]; rfl
  · show mix (List.replicate r.new.length false) r.fresh d.dur.length = (List.replicate d.cch.length none).map Option.isSome
    rw [mix_full _ _ (by simp [hn]) hfl, hn, ← hd.len]; simp
theorem rk_end (h : RkAt w R r bn bk bf cn ck cf kv) (z : Int) : RkAt ((((w.setCell ⟨R, 3, none⟩ (.int .i64 (-1))).setCell ⟨R, 4, none⟩ (.slice none 0 0)).setCell ⟨R, 5, none⟩ (.bool true)).setCell ⟨R, 6, none⟩ (.int .i64 z)) R { r with after := -1, keep := [], down := true, cr := z } bn bk bf cn ck cf (.slice none 0 0) := by
  have hk : ∀ W, KpV W (.slice none 0 0) [] := fun W => ⟨none, 0, rfl, fun h => absurd rfl h⟩
  obtain ⟨o1, o2, o3, o4, o5, o6, o7, o8⟩ := h.ok
  have h1 := h.field 3 (.int .i64 (-1)) { r with after := -1 } kv ⟨o1, o2, o3, o4, o5, o6, o7, by constructor <;> (dsimp only; decide)⟩ rfl rfl rfl h.keep rfl
  have h2 := h1.field 4 (.slice none 0 0) { r with after := -1, keep := [] } (.slice none 0 0) ⟨o1, o2, o3, o4, o5, o6, ⟨by simp, by simp⟩, by constructor <;> (dsimp only; decide)⟩ rfl rfl rfl (hk _) rfl
  have h3 := h2.field 5 (.bool true) { r with after := -1, keep := [], down := true } (.slice none 0 0) ⟨o1, o2, o3, o4, o5, o6, ⟨by simp, by simp⟩, by constructor <;> (dsimp only; decide)⟩ rfl rfl rfl (hk _) rfl
  exact h3.field 6 (.int .i64 z) { r with after := -1, keep := [], down := true, cr := z } (.slice none 0 0) ⟨o1, o2, o3, o4, o5, o6, ⟨by simp, by simp⟩, by constructor <;> (dsimp only; decide)⟩ rfl rfl rfl (hk _) rfl
theorem KpV.cells {k : List Nat} (h : KpV w kv k) : ∃ A c, kv = .slice A k.length c ∧ ∀ j, j < k.length → ∃ g, A = some ⟨g, 0, none⟩ ∧ w.cell? ⟨g, j, none⟩ = some (.int .i64 (k.getD j 0 : Nat)) := by
  obtain ⟨A, c, h1, h2⟩ := h
  refine ⟨A, c, h1, fun j hj => ?_⟩
  obtain ⟨g, C, e1, e2, e3⟩ := h2 (by rintro rfl; simp at hj)
  exact ⟨g, e1, by rw [e2.cell]; exact e3 j hj⟩
end
section
variable {w : World} {R : Nat} {d : Dk} {bn bk bf cn ck cf : Nat}
def RcP (R bn bk bf cn ck cf : Nat) (b : Bool) (d' : Dk) (w : World) (e : Ending) (w' : World) : Prop := e = .returned (.bool b) ∧ RdMut w w' R bn bk bf cn ck cf d'
set_option maxRecDepth 100000 in
theorem rcrash_none (h : RdAt w R d bn bk bf cn ck cf) (hp : d.plan = none) : Calls Tryz.prog 89 #[.pointer (some ⟨R, 0, none⟩)] w (RcP R bn bk bf cn ck cf d.tick.1 d.tick.2 w) := by
  have ht : d.tick = (false, d) := by unfold Dk.tick; rw [hp]
  rw [ht]
  have H := Lib.hid h
  obtain ⟨h0, r, kv, h1, h2⟩ := h
  obtain ⟨_, _, _, c3, _⟩ := h2.cR
  have hpl := h1.plan
  rw [hp] at hpl
  rw [show r.after = -1 from hpl] at c3
  clear h0 h1 h2 hpl ht
  go_enter Tryz.func89, Tryz.ntmps89
  go_wp2_with fail
  go_ret
  exact ⟨rfl, H.out, KeepL.refl _ _⟩
set_option maxRecDepth 100000 in
theorem rcrash_some (h : RdAt w R d bn bk bf cn ck cf) (a : Nat) (k : List Nat) (hp : d.plan = some (a + 1, k)) : Calls Tryz.prog 89 #[.pointer (some ⟨R, 0, none⟩)] w (RcP R bn bk bf cn ck cf d.tick.1 d.tick.2 w) := by
  have ht : d.tick = (false, { d with plan := some (a, k) }) := by unfold Dk.tick; rw [hp]
  rw [ht]
  have hok := h.1.tick
  rw [ht] at hok
  obtain ⟨h0, r, kv, h1, h2⟩ := h
  obtain ⟨_, _, _, c3, _⟩ := h2.cR
  have f3 := h2.frz 3
  have hpl := h1.plan
  rw [hp] at hpl
  obtain ⟨p1, p2⟩ := hpl
  have ha : (a : Int) + 1 ≤ 9223372036854775807 := by have := h2.ok.aft.2; rw [p1] at this; omega
  have HE : Hid (RdMut w (w.setCell ⟨R, 3, none⟩ (.int .i64 (a : Int))) R bn bk bf cn ck cf { d with plan := some (a, k) }) := Lib.hid (by
    refine ⟨⟨hok, { r with after := (a : Int) }, kv, ⟨h1.new, h1.kept, h1.fresh, ⟨rfl, p2⟩, h1.down⟩, h2.field 3 _ _ kv ⟨h2.ok.n2, h2.ok.n256, h2.ok.kl, h2.ok.fl, h2.ok.new, h2.ok.kept, h2.ok.keep, by constructor <;> (dsimp only; omega)⟩ rfl rfl rfl h2.keep rfl⟩, (KeepL.set _ _ _ _).sub (by simp [fpR])⟩)
  rw [p1] at c3
  have n1 : ¬ ((a + 1 : Nat) : Int) = 0 := by omega
  have n2 : (0 : Int) < ((a + 1 : Nat) : Int) := by omega
  have n3 : IntKind.i64.wrap (((a + 1 : Nat) : Int) - 1) = (a : Int) := by rw [show ((a + 1 : Nat) : Int) - 1 = (a : Int) by omega]; exact IntWalk.i64_in _ ⟨by omega, by omega⟩
  have b1 : (((a + 1 : Nat) : Int) != 0) = true := bne_iff_ne.2 n1
  have b2 : decide ((0 : Int) < ((a + 1 : Nat) : Int)) = true := decide_eq_true n2
  clear h0 h1 h2 p1 p2 ht ha hok
  generalize ((a + 1 : Nat) : Int) = z at *
  go_enter Tryz.func89, Tryz.ntmps89
  go_wp2_with fail
  go_ret
  exact ⟨rfl, HE.out⟩
set_option maxRecDepth 100000 in
set_option maxHeartbeats 2000000 in
theorem rcrash_zero (h : RdAt w R d bn bk bf cn ck cf) (k : List Nat) (hp : d.plan = some (0, k)) : Calls Tryz.prog 89 #[.pointer (some ⟨R, 0, none⟩)] w (RcP R bn bk bf cn ck cf d.tick.1 d.tick.2 w) := by
  have ht : d.tick = (true, d.crash k) := by unfold Dk.tick; rw [hp]
  rw [ht]
  obtain ⟨h0, r, kv, h1, h2⟩ := h
  have hpl := h1.plan
  rw [hp] at hpl
  obtain ⟨p1, p2⟩ := hpl
  have hn := (h1.ok h0).1
  obtain ⟨n, hnn⟩ : ∃ n, n = r.new.length := ⟨_, rfl⟩
  obtain ⟨K, hKK⟩ : ∃ K, K = keepS d.dur d.cch k := ⟨_, rfl⟩
  have hKl : K.length = r.new.length := by rw [hKK, keepS_length, hn]
  have HKX : Hid (∀ i, i < n → K[i]? = some (keep1 (d.dur.getD i []) (d.cch.getD i none) (k.getD (frN d.cch i) 0))) := Lib.hid fun i hi => by
    rw [hKK]; exact keepS_get _ _ _ _ h0.len (by omega)
  have HKS : Hid (∀ s ∈ K, SecOK s) := Lib.hid (by rw [hKK]; exact keepS_ok _ _ _ h0.dur h0.cch)
  have HK64 : Hid (k.length ≤ 256 ∧ ∀ j, k.getD j 0 ≤ 64) := Lib.hid ⟨(h0.keep _ _ hp).1, fun j => by
    rw [List.getD_eq_getElem?_getD]
    cases e : k[j]? with
    | none => exact Nat.zero_le _
    | some x => exact (h0.keep _ _ hp).2.1 x (List.mem_of_getElem? e)⟩
  have HIS := Lib.hid h1; have HD := Lib.hid h0; have HOK := Lib.hid h2.ok
  have HKL := Lib.hid hKl; have HNN : Hid (n = r.new.length) := Lib.hid hnn
  have HN2 : Hid (d.dur.length = n) := Lib.hid (by omega)
  have hkeep := h2.keep
  rw [p2] at hkeep
  obtain ⟨A, c, rfl, hkc⟩ := hkeep.cells
  have HKC : Hid (∀ W, KeepL (fpR R bn bk bf) w W → ∀ j, j < k.length → ∃ g, A = some ⟨g, 0, none⟩ ∧ W.cell? ⟨g, j, none⟩ = some (.int .i64 (k.getD j 0 : Nat))) := Lib.hid fun W hW j hj => by
    have hnn : ∀ g C, Bk w g C 3 → g ∉ fpR R bn bk bf := fun g C hg hm => by
      obtain ⟨vs, sp, q1, _⟩ := h2.new
      obtain ⟨vs', sp', q2, _⟩ := h2.kept
      obtain ⟨sp'', q3⟩ := h2.fr
      simp only [fpR, List.mem_cons, List.not_mem_nil, or_false] at hm
      rcases hm with hm | hm | hm | hm
      · exact hg.ne h2.blk (by decide) hm
      · exact hg.ne q1 (by decide) hm
      · exact hg.ne q2 (by decide) hm
      · exact hg.ne q3 (by decide) hm
    obtain ⟨A', c', e1, e2⟩ := (hkeep.keepL hW hnn).cells
    injection e1 with e1 _ _
    subst e1
    exact e2 j hj
  have HN256 : Hid (2 ≤ n ∧ n ≤ 256) := Lib.hid (by have := h2.ok.n2; have := h2.ok.n256; omega)
  obtain ⟨_, _, _, c3, _⟩ := h2.cR
  rw [p1] at c3
  have HP2 : Hid (r.keep = k) := Lib.hid p2
  have HNE := Lib.hid h2.ne
  have H0 : Hid (RkAt w R (crT r K 0 0 0) bn bk bf cn ck cf (.slice A k.length c)) := Lib.hid (by unfold crT; rw [mix_zero, mix_zero, mix_zero]; exact h2)
  have HKD : Hid (K = keepS d.dur d.cch k) := Lib.hid hKK
  clear h0 h1 h2 p1 p2 ht hn hnn hKK hKl hkeep hkc
  go_enter Tryz.func89, Tryz.ntmps89
  go_wp2_with fail
  clear c3
  go_loopw [3, 4, 5] (fun v3 v4 _ wr => ∃ i : Nat, i ≤ n ∧ v4 = .int .i64 (i : Nat) ∧ v3 = .int .i64 (frN d.cch i : Nat) ∧ RkAt wr R (crT r K i i i) bn bk bf cn ck cf (.slice A k.length c) ∧ KeepL (fpR R bn bk bf) w wr) (fun _ v4 _ _ => n - (intOf v4).toNat)
  case atStart => exact ⟨0, Nat.zero_le _, rfl, rfl, H0.out, KeepL.refl _ _⟩
  case round =>
    obtain ⟨i, hi, rfl, rfl, hA, hK⟩ := hrel
    obtain ⟨wa, rfl⟩ : ∃ z : World, z = wr := ⟨_, rfl⟩
    have hlen := crT_len (r := r) HKL.out (by have := HNN.out; omega : i ≤ r.new.length) i i
    obtain ⟨c0, c1, c2, c3, c4, c5, c6, _⟩ := hA.cR
    rw [hlen, ← HNN.out] at c0 c1 c2
    have HA := Lib.hid hA; have HK := Lib.hid hK
    obtain ⟨j, hj⟩ : ∃ j, j = frN d.cch i := ⟨_, rfl⟩
    rw [← hj]
    have HJ := Lib.hid hj
    have HJL : Hid (j ≤ i) := Lib.hid (by rw [hj]; exact frN_le _ _)
    have hn256 := HN256.out
    have hjl := HJL.out
    by_cases hlt : i < n
    · have hir : i < r.new.length := by rw [← HNN.out]; exact hlt
      have hcf := hA.fcell (i := i) (by rw [hlen]; exact hir)
      rw [show (crT r K i i i).fresh.getD i false = (d.cch.getD i none).isSome by
        unfold crT
        dsimp only
        rw [mix_getD _ _ (by rw [HOK.out.fl]; simp) (by rw [HOK.out.fl]; exact hir), ((HIS.out.ok HD.out).2 i (by rw [HN2.out]; exact hlt)).2]] at hcf
      have ffr := hA.frzf i
      have HIR := Lib.hid hir
      have hii : 0 ≤ (i : Int) ∧ (i : Int) < (n : Int) := by omega
      clear hA hK hlen hj
      cases hc : d.cch.getD i none with
      | none =>
        rw [hc] at hcf
        have hkx := HKX.out i hlt
        rw [hc] at hkx
        have HX : Hid (K[i]? = some (d.dur.getD i [])) := Lib.hid hkx
        have HA3 : Hid (RkAt wa R (crT r K i (i + 1) i) bn bk bf cn ck cf (.slice A k.length c)) := Lib.hid (by
          rw [← crT_same HOK.out HKL.out HIR.out (by rw [HX.out, HIS.out.kept, List.getD_eq_getElem?_getD, List.getElem?_eq_getElem (by rw [HN2.out]; exact hlt)]; rfl)]
          exact HA.out)
        have HF : Hid (frN d.cch (i + 1) = j) := Lib.hid (by rw [frN_succ _ (by rw [HD.out.len, HN2.out]; exact hlt), hc, HJ.out]; rfl)
        generalize d.dur.getD i [] = X at *
        have HK3 : Hid (KeepL (fpR R bn bk bf) w wa) := Lib.hid HK.out
        clear hkx hc
        -- <REGION a16
        obtain ⟨c0, c1, c2, c3, c4, c5, c6, _⟩ := HA3.out.cR
        rw [crT_len HKL.out (Nat.le_of_lt HIR.out), ← HNN.out] at c0 c1 c2
        obtain ⟨vF, hcf, ffr⟩ : ∃ vF, wa.cell? ⟨bf, i, none⟩ = some vF ∧ wa.frozen? ⟨bf, i, none⟩ = false := ⟨_, HA3.out.fcell (i := i) (by rw [crT_len HKL.out (Nat.le_of_lt HIR.out)]; exact HIR.out), HA3.out.frzf i⟩
        go_wp2_with fail
        have hA4 := crT_fr HA3.out HOK.out HKL.out HIR.out (Nat.le_of_lt HIR.out)
        obtain ⟨w4, hw4⟩ : ∃ z, z = wa.setCell ⟨bf, i, none⟩ (.bool false) := ⟨_, rfl⟩
        rw [← hw4] at hA4 ⊢
        have HK4 : Hid (KeepL (fpR R bn bk bf) w w4) := Lib.hid (by rw [hw4]; exact HK3.out.trans ((KeepL.set _ _ _ _).sub (by simp [fpR])))
        clear hw4 c0 c1 c2 c3 c4 c5 c6 hcf ffr
        obtain ⟨vK, hvk, hbk⟩ := hA4.kept.cell (i := i) (by show i < (mix K r.kept (i + 1)).length; rw [mix_length _ _ (by rw [HOK.out.kl]; exact HKL.out) (by rw [HOK.out.kl]; exact HIR.out), HOK.out.kl]; exact HIR.out)
        rw [show (crT r K i (i + 1) (i + 1)).kept.getD i [] = X from mix_getS _ _ (by rw [HOK.out.kl]; exact HKL.out) (by rw [HOK.out.kl]; exact HIR.out) _ HX.out] at hbk
        have HSX : Hid (SecOK X) := Lib.hid (HKS.out X (List.mem_of_getElem? HX.out))
        have HCL : Hid (∀ W, Below w4.heap.size w4 W → Calls Tryz.prog 84 #[vK] W fun e w' => (∃ v', e = .returned v' ∧ BrV w' X v') ∧ Below w4.heap.size w4 w') := Lib.hid fun W hW => (rclone_sec HSX.out (hbk.far hW)).mono fun e w' ⟨q1, q2⟩ => ⟨q1, hW.trans (q2.mono hW.size)⟩
        obtain ⟨c0, c1, _⟩ := hA4.cR
        rw [crT_len HKL.out (Nat.le_of_lt HIR.out), ← HNN.out] at c0 c1
        have HS16 : Hid (∀ W, Below w4.heap.size w4 W → (W.cell? ⟨R, 0, none⟩ = some (.slice (some ⟨bn, 0, none⟩) n cn) ∧ W.cell? ⟨R, 1, none⟩ = some (.slice (some ⟨bk, 0, none⟩) n ck) ∧ W.cell? ⟨bk, i, none⟩ = some vK)) := Lib.hid fun W hW => ⟨by rw [hW.cell (p := ⟨R, 0, none⟩) hA4.blk.lt]; exact c0, by rw [hW.cell (p := ⟨R, 1, none⟩) hA4.blk.lt]; exact c1, by rw [hW.cell (p := ⟨bk, i, none⟩) hA4.kept.lt]; exact hvk⟩
        have HS16s : Hid (∀ W u, Below w4.heap.size w4 W → ((W.setCell ⟨bn, i, none⟩ u).cell? ⟨R, 0, none⟩ = some (.slice (some ⟨bn, 0, none⟩) n cn) ∧ (W.setCell ⟨bn, i, none⟩ u).cell? ⟨R, 1, none⟩ = some (.slice (some ⟨bk, 0, none⟩) n ck) ∧ (W.setCell ⟨bn, i, none⟩ u).cell? ⟨bk, i, none⟩ = some vK)) := Lib.hid fun W u hW => (by
          obtain ⟨q0, q1, q2⟩ := HS16.out W hW
          have hRb : R ≠ bn := by obtain ⟨vs, sp, q, _⟩ := hA4.new; exact hA4.blk.ne q (by decide)
          refine ⟨?_, ?_, ?_⟩
          · rw [World.cell?_of_block (w := W) (a := ⟨R, 0, none⟩) (Below.heap_setCell _ _ _ _ hRb)]; exact q0
          · rw [World.cell?_of_block (w := W) (a := ⟨R, 1, none⟩) (Below.heap_setCell _ _ _ _ hRb)]; exact q1
          · rw [World.cell?_of_block (w := W) (a := ⟨bk, i, none⟩) (Below.heap_setCell _ _ _ _ (fun e => HNE.out e.symm))]; exact q2)
        obtain ⟨vN, hvn, _⟩ := hA4.new.cell (i := i) (by rw [crT_len HKL.out (Nat.le_of_lt HIR.out)]; exact HIR.out)
        have HNW : Hid (∀ W, Below w4.heap.size w4 W → W.cell? ⟨bn, i, none⟩ = some vN ∧ W.frozen? ⟨bn, i, none⟩ = false) := Lib.hid fun W hW => ⟨by rw [hW.cell (p := ⟨bn, i, none⟩) hA4.new.lt]; exact hvn, (hA4.far hW).frzn i⟩
        have HA4 := Lib.hid hA4
        clear hA4 c0 c1 hvk hbk hvn
        refine wp_region_held_drew (S := (fun W => W.cell? ⟨R, 0, none⟩ = some (.slice (some ⟨bn, 0, none⟩) n cn) ∧ W.cell? ⟨R, 1, none⟩ = some (.slice (some ⟨bk, 0, none⟩) n ck) ∧ W.cell? ⟨bk, i, none⟩ = some vK)) (by kernel_rfl) ?_ (fun hHeld => ?_)
        · (try dsimp only); first | (refine HS16s.out _ _ ?_; (first | exact HB5.out | exact below_drew8 _ _ | exact Below.refl _ _); done) | (refine HS16.out _ ?_; (first | exact HB5.out | exact below_drew8 _ _ | exact Below.refl _ _); done)
        refine wpAnyH_take (i := 0) (oi := ⟨some 87, _, _, _, _, _⟩) (v := ?_) rfl (by kernel_rfl) (by kernel_rfl) (by kernel_rfl) (fun _ _ _ h => h) (Or.inl ⟨by rfl, ?_⟩) (by assumption) ?_; rotate_left
        · intro w hSw; (try dsimp only at hSw); go_simp; try with_reducible rfl
        try simp only [Act.put, setIfInBounds_toArray, set_cons_zero, set_cons_succ]
        refine wpAnyH_take (i := 1) (oi := ⟨some 88, _, _, _, _, _⟩) (v := ?_) rfl (by kernel_rfl) (by kernel_rfl) (by kernel_rfl) (fun _ _ _ h => h) (Or.inl ⟨by rfl, ?_⟩) (by assumption) ?_; rotate_left
        · intro w hSw; (try dsimp only at hSw); go_simp; try with_reducible rfl
        try simp only [Act.put, setIfInBounds_toArray, set_cons_zero, set_cons_succ]
        refine wpAnyH_take (i := 2) (oi := ⟨some 89, _, _, _, _, _⟩) (v := ?_) rfl (by kernel_rfl) (by kernel_rfl) (by kernel_rfl) (fun _ _ _ h => h) (Or.inl ⟨by rfl, ?_⟩) (by assumption) ?_; rotate_left
        · intro w hSw; (try dsimp only at hSw); go_simp; try with_reducible rfl
        try simp only [Act.put, setIfInBounds_toArray, set_cons_zero, set_cons_succ]
        refine wpAnyH_take (i := 3) (oi := ⟨some 90, _, _, _, _, _⟩) (v := ?_) rfl (by kernel_rfl) (by kernel_rfl) (by kernel_rfl) (fun _ _ _ h => h) (Or.inl ⟨by rfl, ?_⟩) (by assumption) ?_; rotate_left
        · intro w hSw; (try dsimp only at hSw); go_simp; try with_reducible rfl
        try simp only [Act.put, setIfInBounds_toArray, set_cons_zero, set_cons_succ]
        refine wpAnyH_take (i := 4) (oi := ⟨some 91, _, _, _, _, _⟩) (v := ?_) rfl (by kernel_rfl) (by kernel_rfl) (by kernel_rfl) (fun _ _ _ h => h) (Or.inl ⟨by rfl, ?_⟩) (by assumption) ?_; rotate_left
        · intro w hSw; (try dsimp only at hSw); go_simp; try with_reducible rfl
        try simp only [Act.put, setIfInBounds_toArray, set_cons_zero, set_cons_succ]
        refine wpAnyH_take (i := 5) (oi := ⟨some 92, _, _, _, _, _⟩) (v := ?_) rfl (by kernel_rfl) (by kernel_rfl) (by kernel_rfl) (fun _ _ _ h => h) (Or.inl ⟨by rfl, ?_⟩) (by assumption) ?_; rotate_left
        · intro w hSw; (try dsimp only at hSw); go_simp; try with_reducible rfl
        try simp only [Act.put, setIfInBounds_toArray, set_cons_zero, set_cons_succ]
        refine wpAnyH_take (i := 6) (oi := ⟨some 93, _, _, _, _, _⟩) (v := ?_) rfl (by kernel_rfl) (by kernel_rfl) (by kernel_rfl) (fun _ _ _ h => h) (Or.inl ⟨by rfl, ?_⟩) (by assumption) ?_; rotate_left
        · intro w hSw; (try dsimp only at hSw); go_simp; try with_reducible rfl
        try simp only [Act.put, setIfInBounds_toArray, set_cons_zero, set_cons_succ]
        refine wpAnyH_take (i := 7) (oi := ⟨some 94, _, _, _, _, _⟩) (v := ?_) rfl (by kernel_rfl) (by kernel_rfl) (by kernel_rfl) (fun _ _ _ h => h) (Or.inl ⟨by rfl, ?_⟩) (by assumption) ?_; rotate_left
        · intro w hSw; (try dsimp only at hSw); go_simp; try with_reducible rfl
        try simp only [Act.put, setIfInBounds_toArray, set_cons_zero, set_cons_succ]
        refine wpAnyH_take (i := 8) (oi := ⟨some 95, _, _, _, _, _⟩) (v := ?_) rfl (by kernel_rfl) (by kernel_rfl) (by kernel_rfl) (fun _ _ _ h => h) (Or.inl ⟨by rfl, ?_⟩) (by assumption) ?_; rotate_left
        · intro w hSw; (try dsimp only at hSw); go_simp; try with_reducible rfl
        try simp only [Act.put, setIfInBounds_toArray, set_cons_zero, set_cons_succ]
        refine wpAnyH_take (i := 9) (oi := ⟨some 96, _, _, _, _, _⟩) (v := ?_) rfl (by kernel_rfl) (by kernel_rfl) (by kernel_rfl) (fun _ _ _ h => h) (Or.inl ⟨by rfl, ?_⟩) (by assumption) ?_; rotate_left
        · intro w hSw; (try dsimp only at hSw); go_simp; try with_reducible rfl
        try simp only [Act.put, setIfInBounds_toArray, set_cons_zero, set_cons_succ]
        refine wpAnyH_take (i := 10) (oi := ⟨some 97, _, _, _, _, _⟩) (v := ?_) rfl (by kernel_rfl) (by kernel_rfl) (by kernel_rfl) (fun _ _ _ h => h) (Or.inl ⟨by rfl, ?_⟩) (by assumption) ?_; rotate_left
        · intro w hSw; (try dsimp only at hSw); go_simp; try with_reducible rfl
        try simp only [Act.put, setIfInBounds_toArray, set_cons_zero, set_cons_succ]
        refine wpAnyH_take (i := 11) (oi := ⟨some 98, _, _, _, _, _⟩) (v := ?_) rfl (by kernel_rfl) (by kernel_rfl) (by kernel_rfl) (fun _ _ _ h => h) (Or.inl ⟨by rfl, ?_⟩) (by assumption) ?_; rotate_left
        · intro w hSw; (try dsimp only at hSw); go_simp; try with_reducible rfl
        try simp only [Act.put, setIfInBounds_toArray, set_cons_zero, set_cons_succ]
        refine wpAnyH_ready (rs := [12]) (by kernel_rfl) (by simp) ?_
        refine AllReadyH.cons (o := ⟨some 99, _, _, _, _, _⟩) rfl (fun K hK => ?_) AllReadyH.nil
        go_simp
        refine (HCL.out _ (by (first | exact HB5.out | exact below_drew8 _ _ | exact Below.refl _ _))).mono ?_
        rintro e' w5 ⟨⟨v5, rfl, hv5⟩, hb5⟩
        have HV5 := Lib.hid hv5; have HB5 := Lib.hid hb5
        obtain ⟨g5, c5, sp5, rfl, _⟩ := hv5
        clear hb5
        go_wp2_with fail
        refine hK.out _ _ ?_ (fun hHeld => ?_)
        · (try dsimp only); first | (refine HS16s.out _ _ ?_; (first | exact HB5.out | exact below_drew8 _ _ | exact Below.refl _ _); done) | (refine HS16.out _ ?_; (first | exact HB5.out | exact below_drew8 _ _ | exact Below.refl _ _); done)
        clear hK K
        try simp only [Act.put, setIfInBounds_toArray, set_cons_zero, set_cons_succ]
        refine wpAnyH_take (i := 13) (oi := ⟨some 100, _, _, _, _, _⟩) (v := ?_) rfl (by kernel_rfl) (by kernel_rfl) (by kernel_rfl) (fun _ _ _ h => h) (Or.inl ⟨by rfl, ?_⟩) (by assumption) ?_; rotate_left
        · intro w hSw; (try dsimp only at hSw); go_simp; try with_reducible rfl
        try simp only [Act.put, setIfInBounds_toArray, set_cons_zero, set_cons_succ]
        refine wpAnyH_ready (rs := [14]) (by kernel_rfl) (by simp) ?_
        refine AllReadyH.cons (o := ⟨none, _, _, _, _, _⟩) rfl (fun K hK => ?_) AllReadyH.nil
        obtain ⟨cn5, fn5⟩ := HNW.out _ HB5.out
        go_simp
        refine hK.out _ _ ?_ (fun hHeld => ?_)
        · (try dsimp only); first | (refine HS16s.out _ _ ?_; (first | exact HB5.out | exact below_drew8 _ _ | exact Below.refl _ _); done) | (refine HS16.out _ ?_; (first | exact HB5.out | exact below_drew8 _ _ | exact Below.refl _ _); done)
        clear hK K
        try simp only [Act.put]
        refine wpAnyH_done (by kernel_rfl) ?_ _
        go_wp2_with fail
        go_roundw
        case rel => exact ⟨i + 1, by omega, by go_num, by rw [HF.out] <;> go_num, crT_new (HA4.out.far HB5.out) HKL.out HIR.out HX.out HV5.out HSX.out, (HK4.out.trans (KeepL.of_below HB5.out)).trans ((KeepL.set _ _ _ _).sub (by simp [fpR]))⟩
        case measure => simp [intOf]; omega
        -- REGION>
      | some s =>
        rw [hc] at hcf
        obtain ⟨kk, hkk⟩ : ∃ kk, kk = k.getD j 0 := ⟨_, rfl⟩
        have hk64 : kk ≤ 64 := by rw [hkk]; exact HK64.out.2 j
        obtain ⟨Y, hY⟩ : ∃ Y, Y = d.dur.getD i [] := ⟨_, rfl⟩
        obtain ⟨X, hX⟩ : ∃ X, X = s.take kk ++ Y.drop kk := ⟨_, rfl⟩
        have HX : Hid (K[i]? = some X) := Lib.hid (by have := HKX.out i hlt; rw [hc, ← HJ.out, ← hkk, ← hY] at this; rw [hX]; exact this)
        have HF : Hid (frN d.cch (i + 1) = j + 1) := Lib.hid (by rw [frN_succ _ (by rw [HD.out.len, HN2.out]; exact hlt), hc, HJ.out]; rfl)
        have HYO : Hid (SecOK Y) := Lib.hid (HD.out.dur _ (by rw [hY, List.getD_eq_getElem?_getD, List.getElem?_eq_getElem (by rw [HN2.out]; exact hlt)]; exact List.getElem_mem _))
        have HSO : Hid (SecOK s) := Lib.hid (HD.out.cch s (by
          have h3 := hc
          rw [List.getD_eq_getElem?_getD] at h3
          cases e : d.cch[i]? with
          | none => rw [e] at h3; cases h3
          | some q => rw [e] at h3; simp only [Option.getD_some] at h3; subst h3; exact List.mem_of_getElem? e))
        obtain ⟨vN, hvn, hbn⟩ := HA.out.new.cell (i := i) (by rw [crT_len HKL.out (Nat.le_of_lt HIR.out)]; exact HIR.out)
        rw [show (crT r K i i i).new.getD i [] = s by
          unfold crT
          dsimp only
          rw [mix_getD _ _ HKL.out HIR.out, ((HIS.out.ok HD.out).2 i (by rw [HN2.out]; exact hlt)).1]
          unfold Dk.newest
          rw [hc]; rfl] at hbn
        obtain ⟨vK, hvk, hbk⟩ := HA.out.kept.cell (i := i) (by show i < (mix K r.kept i).length; rw [mix_length _ _ (by rw [HOK.out.kl]; exact HKL.out) (by rw [HOK.out.kl]; exact Nat.le_of_lt HIR.out), HOK.out.kl]; exact HIR.out)
        rw [show (crT r K i i i).kept.getD i [] = Y by
          unfold crT
          dsimp only
          rw [mix_getD _ _ (by rw [HOK.out.kl]; exact HKL.out) (by rw [HOK.out.kl]; exact HIR.out), HIS.out.kept, hY]] at hbk
        obtain ⟨gN, cN, rfl, q1, q2, rdN⟩ := hbn.rd HSO.out
        obtain ⟨gK, cK, rfl, q3, q4, rdK⟩ := hbk.rd HYO.out
        have HXE : Hid (X = s.take kk ++ Y.drop kk) := Lib.hid hX
        have HBB : Hid (R ≠ bk ∧ bn ≠ bk) := Lib.hid ⟨by obtain ⟨vs, sp, q, _⟩ := HA.out.kept; exact HA.out.blk.ne q (by decide), HNE.out⟩
        have HVK : Hid (∀ W, Below wa.heap.size wa W → W.cell? ⟨bk, i, none⟩ = some (.slice (some ⟨gK, 0, none⟩) 64 cK) ∧ W.frozen? ⟨bk, i, none⟩ = false) := Lib.hid fun W hW => ⟨by rw [hW.cell (p := ⟨bk, i, none⟩) HA.out.kept.lt]; exact hvk, (HA.out.far hW).frzk i⟩
        have HS13 : Hid (∀ W, Below wa.heap.size wa W → (W.cell? ⟨R, 0, none⟩ = some (.slice (some ⟨bn, 0, none⟩) n cn) ∧ W.cell? ⟨R, 1, none⟩ = some (.slice (some ⟨bk, 0, none⟩) n ck) ∧ W.cell? ⟨bn, i, none⟩ = some (.slice (some ⟨gN, 0, none⟩) 64 cN))) := Lib.hid fun W hW => ⟨by rw [hW.cell (p := ⟨R, 0, none⟩) HA.out.blk.lt]; exact c0, by rw [hW.cell (p := ⟨R, 1, none⟩) HA.out.blk.lt]; exact c1, by rw [hW.cell (p := ⟨bn, i, none⟩) HA.out.new.lt]; exact hvn⟩
        have HS13s : Hid (∀ W u, Below wa.heap.size wa W → ((W.setCell ⟨bk, i, none⟩ u).cell? ⟨R, 0, none⟩ = some (.slice (some ⟨bn, 0, none⟩) n cn) ∧ (W.setCell ⟨bk, i, none⟩ u).cell? ⟨R, 1, none⟩ = some (.slice (some ⟨bk, 0, none⟩) n ck) ∧ (W.setCell ⟨bk, i, none⟩ u).cell? ⟨bn, i, none⟩ = some (.slice (some ⟨gN, 0, none⟩) 64 cN))) := Lib.hid fun W u hW => (by
          obtain ⟨z0, z1, z2⟩ := HS13.out W hW
          refine ⟨?_, ?_, ?_⟩
          · rw [World.cell?_of_block (w := W) (a := ⟨R, 0, none⟩) (Below.heap_setCell _ _ _ _ HBB.out.1)]; exact z0
          · rw [World.cell?_of_block (w := W) (a := ⟨R, 1, none⟩) (Below.heap_setCell _ _ _ _ HBB.out.1)]; exact z1
          · rw [World.cell?_of_block (w := W) (a := ⟨bn, i, none⟩) (Below.heap_setCell _ _ _ _ HBB.out.2)]; exact z2)
        have hn1 : ∀ E : Int, E = (kk : Int) → ∃ A2 A3, (∀ w', (Instr.sliceAt 31 (.slice (some ⟨gN, 0, none⟩) 64 cN) none (some (.int .i64 E)) none).run Tryz.prog w' = .ok (.slice A2 kk cN) w') ∧ (∀ w', (Instr.sliceAt 31 (.slice (some ⟨gK, 0, none⟩) 64 cK) (some (.int .i64 E)) none none).run Tryz.prog w' = .ok (.slice A3 (64 - kk) (cK - kk)) w') ∧
            Rd wa wa.heap.size 1 A2 kk ((s.take kk).map (fun x : Nat => Value.int .u8 x)) ∧ Rd wa wa.heap.size 1 A3 (64 - kk) ((Y.drop kk).map (fun x : Nat => Value.int .u8 x)) := fun E hE => by
          obtain ⟨A2, e1, e2⟩ := slice_hd (P := Tryz.prog) (t := 31) (sz := 1) Tryz.underlying31 Tryz.sizeOf5 rdN E kk cN hE hk64 q1
          obtain ⟨A3, e3, e4⟩ := slice_tlE (P := Tryz.prog) (t := 31) (sz := 1) Tryz.underlying31 Tryz.sizeOf5 rdK E kk cK hE hk64 q3
          refine ⟨A2, A3, e1, e3, ?_, ?_⟩
          · rw [Nat.mul_one] at e2
            rw [List.map_take]; exact e2
          · rw [Nat.mul_one, Nat.mul_one, List.take_of_length_le (by rw [List.length_drop, secC_length, HYO.out.1]; exact Nat.le_refl _)] at e4
            rw [List.map_drop]; exact e4
        have HN1 := Lib.hid hn1
        have HK6 : Hid (kk ≤ 64) := Lib.hid hk64
        have HKKE : Hid (kk = k.getD j 0) := Lib.hid hkk
        clear hc hY hX hvn hbn hvk hbk q1 q2 q3 q4 rdN rdK hn1 hk64 hkk
        by_cases hjk : j < k.length
        · obtain ⟨gq, rfl, hkcell⟩ := HKC.out wa HK.out j hjk
          rw [← HKKE.out] at hkcell
          obtain ⟨A2, A3, hs2, hs3, hr2, hr3⟩ := HN1.out (kk : Int) rfl
          have HR2 := Lib.hid hr2; have HR3 := Lib.hid hr3
          have hjk1 : 0 ≤ (j : Int) ∧ (j : Int) < (k.length : Int) := by omega
          clear hr2 hr3
          -- <REGION b13
          have HCL : Hid (∀ W, Below wa.heap.size wa W → Calls Tryz.prog 84 #[.slice A2 kk cN] W fun e w' => ∃ A' c', e = .returned (.slice A' kk c') ∧ w'.ownsRow wa.heap.size 5 1 (.slice A' kk c') kk ((s.take kk).map (fun x : Nat => Value.int .u8 x)) ∧ Below wa.heap.size wa w') := Lib.hid fun W hW => (rclone_any A2 kk cN (s.take kk) W (Nat.le_trans HK6.out (by decide)) ((HR2.out.below hW).mono hW.size)).mono fun e w' ⟨A', c', z1, z2, z3, z4⟩ => ⟨A', c', z1, ownsRow_mono z3 hW.size, hW.trans (z4.mono hW.size)⟩
          go_wp2_with fail
          refine wp_region_held_drew (S := (fun W => W.cell? ⟨R, 0, none⟩ = some (.slice (some ⟨bn, 0, none⟩) n cn) ∧ W.cell? ⟨R, 1, none⟩ = some (.slice (some ⟨bk, 0, none⟩) n ck) ∧ W.cell? ⟨bn, i, none⟩ = some (.slice (some ⟨gN, 0, none⟩) 64 cN))) (by kernel_rfl) ?_ (fun hHeld => ?_)
          · (try dsimp only); first | (refine HS13s.out _ _ ?_; (first | exact HB2.out | exact HB1.out | exact below_drew8 _ _ | exact Below.refl _ _); done) | (refine HS13.out _ ?_; (first | exact HB2.out | exact HB1.out | exact below_drew8 _ _ | exact Below.refl _ _); done)
          refine wpAnyH_take (i := 0) (oi := ⟨some 53, _, _, _, _, _⟩) (v := ?_) rfl (by kernel_rfl) (by kernel_rfl) (by kernel_rfl) (fun _ _ _ h => h) (Or.inl ⟨by rfl, ?_⟩) (by assumption) ?_; rotate_left
          · intro w hSw; (try dsimp only at hSw); go_simp; try with_reducible rfl
          try simp only [Act.put, setIfInBounds_toArray, set_cons_zero, set_cons_succ]
          refine wpAnyH_take (i := 1) (oi := ⟨some 54, _, _, _, _, _⟩) (v := ?_) rfl (by kernel_rfl) (by kernel_rfl) (by kernel_rfl) (fun _ _ _ h => h) (Or.inl ⟨by rfl, ?_⟩) (by assumption) ?_; rotate_left
          · intro w hSw; (try dsimp only at hSw); go_simp; try with_reducible rfl
          try simp only [Act.put, setIfInBounds_toArray, set_cons_zero, set_cons_succ]
          refine wpAnyH_take (i := 2) (oi := ⟨some 55, _, _, _, _, _⟩) (v := ?_) rfl (by kernel_rfl) (by kernel_rfl) (by kernel_rfl) (fun _ _ _ h => h) (Or.inl ⟨by rfl, ?_⟩) (by assumption) ?_; rotate_left
          · intro w hSw; (try dsimp only at hSw); go_simp; try with_reducible rfl
          try simp only [Act.put, setIfInBounds_toArray, set_cons_zero, set_cons_succ]
          refine wpAnyH_take (i := 3) (oi := ⟨some 56, _, _, _, _, _⟩) (v := ?_) rfl (by kernel_rfl) (by kernel_rfl) (by kernel_rfl) (fun _ _ _ h => h) (Or.inl ⟨by rfl, ?_⟩) (by assumption) ?_; rotate_left
          · intro w hSw; (try dsimp only at hSw); go_simp; try with_reducible rfl
          try simp only [Act.put, setIfInBounds_toArray, set_cons_zero, set_cons_succ]
          refine wpAnyH_take (i := 4) (oi := ⟨some 57, _, _, _, _, _⟩) (v := ?_) rfl (by kernel_rfl) (by kernel_rfl) (by kernel_rfl) (fun _ _ _ h => h) (Or.inl ⟨by rfl, ?_⟩) (by assumption) ?_; rotate_left
          · intro w hSw; (try dsimp only at hSw); go_simp; try with_reducible rfl
          try simp only [Act.put, setIfInBounds_toArray, set_cons_zero, set_cons_succ]
          refine wpAnyH_take (i := 5) (oi := ⟨some 58, _, _, _, _, _⟩) (v := ?_) rfl (by kernel_rfl) (by kernel_rfl) (by kernel_rfl) (fun _ _ _ h => h) (Or.inl ⟨by rfl, ?_⟩) (by assumption) ?_; rotate_left
          · intro w hSw; (try dsimp only at hSw); go_simp; try with_reducible rfl
          try simp only [Act.put, setIfInBounds_toArray, set_cons_zero, set_cons_succ]
          refine wpAnyH_take (i := 6) (oi := ⟨some 59, _, _, _, _, _⟩) (v := ?_) rfl (by kernel_rfl) (by kernel_rfl) (by kernel_rfl) (fun _ _ _ h => h) (Or.inl ⟨by rfl, ?_⟩) (by assumption) ?_; rotate_left
          · intro w hSw; (try dsimp only at hSw); go_simp; try with_reducible rfl
          try simp only [Act.put, setIfInBounds_toArray, set_cons_zero, set_cons_succ]
          refine wpAnyH_take (i := 7) (oi := ⟨some 60, _, _, _, _, _⟩) (v := ?_) rfl (by kernel_rfl) (by kernel_rfl) (by kernel_rfl) (fun _ _ _ h => h) (Or.inl ⟨by rfl, ?_⟩) (by assumption) ?_; rotate_left
          · intro w hSw; (try dsimp only at hSw); go_simp; try with_reducible rfl
          try simp only [Act.put, setIfInBounds_toArray, set_cons_zero, set_cons_succ]
          refine wpAnyH_take (i := 8) (oi := ⟨some 61, _, _, _, _, _⟩) (v := ?_) rfl (by kernel_rfl) (by kernel_rfl) (by kernel_rfl) (fun _ _ _ h => h) (Or.inl ⟨by rfl, ?_⟩) (by assumption) ?_; rotate_left
          · intro w hSw; (try dsimp only at hSw); go_simp; try with_reducible rfl
          try simp only [Act.put, setIfInBounds_toArray, set_cons_zero, set_cons_succ]
          refine wpAnyH_take (i := 9) (oi := ⟨some 62, _, _, _, _, _⟩) (v := ?_) rfl (by kernel_rfl) (by kernel_rfl) (by kernel_rfl) (fun _ _ _ h => h) (Or.inl ⟨by rfl, ?_⟩) (by assumption) ?_; rotate_left
          · intro w hSw; (try dsimp only at hSw); go_simp; try with_reducible rfl
          try simp only [Act.put, setIfInBounds_toArray, set_cons_zero, set_cons_succ]
          refine wpAnyH_take (i := 10) (oi := ⟨some 63, _, _, _, _, _⟩) (v := ?_) rfl (by kernel_rfl) (by kernel_rfl) (by kernel_rfl) (fun _ _ _ h => h) (Or.inl ⟨by rfl, ?_⟩) (by assumption) ?_; rotate_left
          · intro w hSw; (try dsimp only at hSw); go_simp; try with_reducible rfl
          try simp only [Act.put, setIfInBounds_toArray, set_cons_zero, set_cons_succ]
          refine wpAnyH_take (i := 11) (oi := ⟨some 64, _, _, _, _, _⟩) (v := ?_) rfl (by kernel_rfl) (by kernel_rfl) (by kernel_rfl) (fun _ _ _ h => h) (Or.inl ⟨by rfl, ?_⟩) (by assumption) ?_; rotate_left
          · intro w hSw; (try dsimp only at hSw); go_simp; try with_reducible rfl
          try simp only [Act.put, setIfInBounds_toArray, set_cons_zero, set_cons_succ]
          refine wpAnyH_take (i := 12) (oi := ⟨some 65, _, _, _, _, _⟩) (v := ?_) rfl (by kernel_rfl) (by kernel_rfl) (by kernel_rfl) (fun _ _ _ h => h) (Or.inl ⟨by rfl, ?_⟩) (by assumption) ?_; rotate_left
          · intro w hSw; (try dsimp only at hSw); go_simp; try with_reducible rfl
          try simp only [Act.put, setIfInBounds_toArray, set_cons_zero, set_cons_succ]
          refine wpAnyH_take (i := 13) (oi := ⟨some 66, _, _, _, _, _⟩) (v := ?_) rfl (by kernel_rfl) (by kernel_rfl) (by kernel_rfl) (fun _ _ _ h => h) (Or.inl ⟨by rfl, ?_⟩) (by assumption) ?_; rotate_left
          · intro w hSw; (try dsimp only at hSw); go_simp; try with_reducible rfl
          try simp only [Act.put, setIfInBounds_toArray, set_cons_zero, set_cons_succ]
          refine wpAnyH_take (i := 15) (oi := ⟨some 68, _, _, _, _, _⟩) (v := ?_) rfl (by kernel_rfl) (by kernel_rfl) (by kernel_rfl) (fun _ _ _ h => h) (Or.inl ⟨by rfl, ?_⟩) (by assumption) ?_; rotate_left
          · intro w hSw; (try dsimp only at hSw); go_simp; try with_reducible rfl
          try simp only [Act.put, setIfInBounds_toArray, set_cons_zero, set_cons_succ]
          refine wpAnyH_take (i := 16) (oi := ⟨some 69, _, _, _, _, _⟩) (v := ?_) rfl (by kernel_rfl) (by kernel_rfl) (by kernel_rfl) (fun _ _ _ h => h) (Or.inl ⟨by rfl, ?_⟩) (by assumption) ?_; rotate_left
          · intro w hSw; (try dsimp only at hSw); go_simp; try with_reducible rfl
          try simp only [Act.put, setIfInBounds_toArray, set_cons_zero, set_cons_succ]
          refine wpAnyH_take (i := 17) (oi := ⟨some 70, _, _, _, _, _⟩) (v := ?_) rfl (by kernel_rfl) (by kernel_rfl) (by kernel_rfl) (fun _ _ _ h => h) (Or.inl ⟨by rfl, ?_⟩) (by assumption) ?_; rotate_left
          · intro w hSw; (try dsimp only at hSw); go_simp; try with_reducible rfl
          try simp only [Act.put, setIfInBounds_toArray, set_cons_zero, set_cons_succ]
          refine wpAnyH_take (i := 18) (oi := ⟨some 71, _, _, _, _, _⟩) (v := ?_) rfl (by kernel_rfl) (by kernel_rfl) (by kernel_rfl) (fun _ _ _ h => h) (Or.inl ⟨by rfl, ?_⟩) (by assumption) ?_; rotate_left
          · intro w hSw; (try dsimp only at hSw); go_simp; try with_reducible rfl
          try simp only [Act.put, setIfInBounds_toArray, set_cons_zero, set_cons_succ]
          refine wpAnyH_take (i := 19) (oi := ⟨some 72, _, _, _, _, _⟩) (v := ?_) rfl (by kernel_rfl) (by kernel_rfl) (by kernel_rfl) (fun _ _ _ h => h) (Or.inl ⟨by rfl, ?_⟩) (by assumption) ?_; rotate_left
          · intro w hSw; (try dsimp only at hSw); go_simp; try with_reducible rfl
          try simp only [Act.put, setIfInBounds_toArray, set_cons_zero, set_cons_succ]
          refine wpAnyH_take (i := 20) (oi := ⟨some 73, _, _, _, _, _⟩) (v := ?_) rfl (by kernel_rfl) (by kernel_rfl) (by kernel_rfl) (fun _ _ _ h => h) (Or.inl ⟨by rfl, ?_⟩) (by assumption) ?_; rotate_left
          · intro w hSw; (try dsimp only at hSw); go_simp; try with_reducible rfl
          try simp only [Act.put, setIfInBounds_toArray, set_cons_zero, set_cons_succ]
          refine wpAnyH_take (i := 22) (oi := ⟨some 75, _, _, _, _, _⟩) (v := ?_) rfl (by kernel_rfl) (by kernel_rfl) (by kernel_rfl) (fun _ _ _ h => h) (Or.inl ⟨by rfl, ?_⟩) (by assumption) ?_; rotate_left
          · intro w hSw; (try dsimp only at hSw); go_simp; try with_reducible rfl
          try simp only [Act.put, setIfInBounds_toArray, set_cons_zero, set_cons_succ]
          refine wpAnyH_ready (rs := [14, 21]) (by kernel_rfl) (by simp) ?_
          refine AllReadyH.cons (o := ⟨some 67, _, _, _, _, _⟩) rfl (fun K hK => ?_) ?_
          · skip
            go_simp
            refine (HCL.out _ (by (first | exact HB2.out | exact HB1.out | exact below_drew8 _ _ | exact Below.refl _ _))).mono ?_
            rintro e' w1 ⟨A', c', rfl, ho1, hb1⟩
            have HO1 := Lib.hid ho1; have HB1 := Lib.hid hb1
            clear ho1 hb1
            obtain ⟨ck1, fk1⟩ := HVK.out _ HB1.out
            go_wp2_with fail
            refine hK.out _ _ ?_ (fun hHeld => ?_)
            · (try dsimp only); first | (refine HS13s.out _ _ ?_; (first | exact HB2.out | exact HB1.out | exact below_drew8 _ _ | exact Below.refl _ _); done) | (refine HS13.out _ ?_; (first | exact HB2.out | exact HB1.out | exact below_drew8 _ _ | exact Below.refl _ _); done)
            clear hK K
            try simp only [Act.put, setIfInBounds_toArray, set_cons_zero, set_cons_succ]
            refine wpAnyH_ready (rs := [21]) (by kernel_rfl) (by simp) ?_
            refine AllReadyH.cons (o := ⟨some 74, _, _, _, _, _⟩) rfl (fun K hK => ?_) AllReadyH.nil
            obtain ⟨ck3, fk3⟩ := HVK.out _ HB1.out
            go_simp
            refine hK.out _ _ ?_ (fun hHeld => ?_)
            · (try dsimp only); first | (refine HS13s.out _ _ ?_; (first | exact HB2.out | exact HB1.out | exact below_drew8 _ _ | exact Below.refl _ _); done) | (refine HS13.out _ ?_; (first | exact HB2.out | exact HB1.out | exact below_drew8 _ _ | exact Below.refl _ _); done)
            clear hK K
            try simp only [Act.put, setIfInBounds_toArray, set_cons_zero, set_cons_succ]
            refine wpAnyH_take (i := 23) (oi := ⟨some 76, _, _, _, _, _⟩) (v := ?_) rfl (by kernel_rfl) (by kernel_rfl) (by kernel_rfl) (fun _ _ _ h => h) (Or.inl ⟨by rfl, ?_⟩) (by assumption) ?_; rotate_left
            · intro w hSw; (try dsimp only at hSw); go_simp; try with_reducible rfl
            try simp only [Act.put, setIfInBounds_toArray, set_cons_zero, set_cons_succ]
            refine wpAnyH_ready (rs := [24]) (by kernel_rfl) (by simp) ?_
            refine AllReadyH.cons (o := ⟨some 77, _, _, _, _, _⟩) rfl (fun K hK => ?_) AllReadyH.nil
            refine step_put elB_rb (.tmp 67) (.tmp 76) rfl rfl wa.heap.size kk _ (by rfl) HO1.out (by rfl) (HR3.out.below HB1.out) (by intro u hu; obtain ⟨_, _, rfl⟩ := List.mem_map.1 hu; rfl) (by have := HK6.out; omega) (by decide) HB1.out.size ?_
            intro v2 w2 ho2 hb2 _
            have HB2 := Lib.hid (HB1.out.trans (hb2.mono (Nat.le_refl _)))
            have HV2 : Hid (BrV w2 X v2) := Lib.hid (own_br (by rw [show kk + (64 - kk) = 64 by have := HK6.out; omega, ← List.map_append, ← HXE.out] at ho2; exact ho2))
            obtain ⟨g2, c2, sp2, rfl, _⟩ := HV2.out
            clear ho2 hb2
            refine hK.out _ _ ?_ (fun hHeld => ?_)
            · (try dsimp only); first | (refine HS13s.out _ _ ?_; (first | exact HB2.out | exact HB1.out | exact below_drew8 _ _ | exact Below.refl _ _); done) | (refine HS13.out _ ?_; (first | exact HB2.out | exact HB1.out | exact below_drew8 _ _ | exact Below.refl _ _); done)
            clear hK K
            try simp only [Act.put, setIfInBounds_toArray, set_cons_zero, set_cons_succ]
            refine wpAnyH_take (i := 25) (oi := ⟨some 78, _, _, _, _, _⟩) (v := ?_) rfl (by kernel_rfl) (by kernel_rfl) (by kernel_rfl) (fun _ _ _ h => h) (Or.inl ⟨by rfl, ?_⟩) (by assumption) ?_; rotate_left
            · intro w hSw; (try dsimp only at hSw); go_simp; try with_reducible rfl
            try simp only [Act.put, setIfInBounds_toArray, set_cons_zero, set_cons_succ]
            refine wpAnyH_ready (rs := [26]) (by kernel_rfl) (by simp) ?_
            refine AllReadyH.cons (o := ⟨none, _, _, _, _, _⟩) rfl (fun K hK => ?_) AllReadyH.nil
            obtain ⟨ck2, fk2⟩ := HVK.out _ HB2.out
            go_simp
            refine hK.out _ _ ?_ (fun hHeld => ?_)
            · (try dsimp only); first | (refine HS13s.out _ _ ?_; (first | exact HB2.out | exact HB1.out | exact below_drew8 _ _ | exact Below.refl _ _); done) | (refine HS13.out _ ?_; (first | exact HB2.out | exact HB1.out | exact below_drew8 _ _ | exact Below.refl _ _); done)
            clear hK K
            try simp only [Act.put]
            refine wpAnyH_done (by kernel_rfl) ?_ _
            have HA3a := crT_kept (HA.out.far HB2.out) HOK.out HKL.out HIR.out HX.out HV2.out (HKS.out X (List.mem_of_getElem? HX.out))
            have HK3a : KeepL (fpR R bn bk bf) w (w2.setCell ⟨bk, i, none⟩ (.slice (some ⟨g2, 0, none⟩) 64 c2)) := (HK.out.trans (KeepL.of_below HB2.out)).trans ((KeepL.set _ _ _ _).sub (by simp [fpR]))
            obtain ⟨w3, hw3⟩ : ∃ z, z = w2.setCell ⟨bk, i, none⟩ (.slice (some ⟨g2, 0, none⟩) 64 c2) := ⟨_, rfl⟩
            rw [← hw3] at HA3a HK3a ⊢
            have HA3 := Lib.hid HA3a; have HK3 := Lib.hid HK3a
            clear HA3a HK3a hw3
            obtain ⟨c0, c1, c2, c3, c4, c5, c6, _⟩ := HA3.out.cR
            rw [crT_len HKL.out (Nat.le_of_lt HIR.out), ← HNN.out] at c0 c1 c2
            obtain ⟨vF, hcf, ffr⟩ : ∃ vF, w3.cell? ⟨bf, i, none⟩ = some vF ∧ w3.frozen? ⟨bf, i, none⟩ = false := ⟨_, HA3.out.fcell (i := i) (by rw [crT_len HKL.out (Nat.le_of_lt HIR.out)]; exact HIR.out), HA3.out.frzf i⟩
            go_wp2_with fail
            have hA4 := crT_fr HA3.out HOK.out HKL.out HIR.out (Nat.le_of_lt HIR.out)
            obtain ⟨w4, hw4⟩ : ∃ z, z = w3.setCell ⟨bf, i, none⟩ (.bool false) := ⟨_, rfl⟩
            rw [← hw4] at hA4 ⊢
            have HK4 : Hid (KeepL (fpR R bn bk bf) w w4) := Lib.hid (by rw [hw4]; exact HK3.out.trans ((KeepL.set _ _ _ _).sub (by simp [fpR])))
            clear hw4 c0 c1 c2 c3 c4 c5 c6 hcf ffr
            obtain ⟨vK, hvk, hbk⟩ := hA4.kept.cell (i := i) (by show i < (mix K r.kept (i + 1)).length; rw [mix_length _ _ (by rw [HOK.out.kl]; exact HKL.out) (by rw [HOK.out.kl]; exact HIR.out), HOK.out.kl]; exact HIR.out)
            rw [show (crT r K i (i + 1) (i + 1)).kept.getD i [] = X from mix_getS _ _ (by rw [HOK.out.kl]; exact HKL.out) (by rw [HOK.out.kl]; exact HIR.out) _ HX.out] at hbk
            have HSX : Hid (SecOK X) := Lib.hid (HKS.out X (List.mem_of_getElem? HX.out))
            have HCL : Hid (∀ W, Below w4.heap.size w4 W → Calls Tryz.prog 84 #[vK] W fun e w' => (∃ v', e = .returned v' ∧ BrV w' X v') ∧ Below w4.heap.size w4 w') := Lib.hid fun W hW => (rclone_sec HSX.out (hbk.far hW)).mono fun e w' ⟨q1, q2⟩ => ⟨q1, hW.trans (q2.mono hW.size)⟩
            obtain ⟨c0, c1, _⟩ := hA4.cR
            rw [crT_len HKL.out (Nat.le_of_lt HIR.out), ← HNN.out] at c0 c1
            have HS16 : Hid (∀ W, Below w4.heap.size w4 W → (W.cell? ⟨R, 0, none⟩ = some (.slice (some ⟨bn, 0, none⟩) n cn) ∧ W.cell? ⟨R, 1, none⟩ = some (.slice (some ⟨bk, 0, none⟩) n ck) ∧ W.cell? ⟨bk, i, none⟩ = some vK)) := Lib.hid fun W hW => ⟨by rw [hW.cell (p := ⟨R, 0, none⟩) hA4.blk.lt]; exact c0, by rw [hW.cell (p := ⟨R, 1, none⟩) hA4.blk.lt]; exact c1, by rw [hW.cell (p := ⟨bk, i, none⟩) hA4.kept.lt]; exact hvk⟩
            have HS16s : Hid (∀ W u, Below w4.heap.size w4 W → ((W.setCell ⟨bn, i, none⟩ u).cell? ⟨R, 0, none⟩ = some (.slice (some ⟨bn, 0, none⟩) n cn) ∧ (W.setCell ⟨bn, i, none⟩ u).cell? ⟨R, 1, none⟩ = some (.slice (some ⟨bk, 0, none⟩) n ck) ∧ (W.setCell ⟨bn, i, none⟩ u).cell? ⟨bk, i, none⟩ = some vK)) := Lib.hid fun W u hW => (by
              obtain ⟨q0, q1, q2⟩ := HS16.out W hW
              have hRb : R ≠ bn := by obtain ⟨vs, sp, q, _⟩ := hA4.new; exact hA4.blk.ne q (by decide)
              refine ⟨?_, ?_, ?_⟩
              · rw [World.cell?_of_block (w := W) (a := ⟨R, 0, none⟩) (Below.heap_setCell _ _ _ _ hRb)]; exact q0
              · rw [World.cell?_of_block (w := W) (a := ⟨R, 1, none⟩) (Below.heap_setCell _ _ _ _ hRb)]; exact q1
              · rw [World.cell?_of_block (w := W) (a := ⟨bk, i, none⟩) (Below.heap_setCell _ _ _ _ (fun e => HNE.out e.symm))]; exact q2)
            obtain ⟨vN, hvn, _⟩ := hA4.new.cell (i := i) (by rw [crT_len HKL.out (Nat.le_of_lt HIR.out)]; exact HIR.out)
            have HNW : Hid (∀ W, Below w4.heap.size w4 W → W.cell? ⟨bn, i, none⟩ = some vN ∧ W.frozen? ⟨bn, i, none⟩ = false) := Lib.hid fun W hW => ⟨by rw [hW.cell (p := ⟨bn, i, none⟩) hA4.new.lt]; exact hvn, (hA4.far hW).frzn i⟩
            have HA4 := Lib.hid hA4
            clear hA4 c0 c1 hvk hbk hvn
            refine wp_region_held_drew (S := (fun W => W.cell? ⟨R, 0, none⟩ = some (.slice (some ⟨bn, 0, none⟩) n cn) ∧ W.cell? ⟨R, 1, none⟩ = some (.slice (some ⟨bk, 0, none⟩) n ck) ∧ W.cell? ⟨bk, i, none⟩ = some vK)) (by kernel_rfl) ?_ (fun hHeld => ?_)
            · (try dsimp only); first | (refine HS16s.out _ _ ?_; (first | exact HB5.out | exact below_drew8 _ _ | exact Below.refl _ _); done) | (refine HS16.out _ ?_; (first | exact HB5.out | exact below_drew8 _ _ | exact Below.refl _ _); done)
            refine wpAnyH_take (i := 0) (oi := ⟨some 87, _, _, _, _, _⟩) (v := ?_) rfl (by kernel_rfl) (by kernel_rfl) (by kernel_rfl) (fun _ _ _ h => h) (Or.inl ⟨by rfl, ?_⟩) (by assumption) ?_; rotate_left
            · intro w hSw; (try dsimp only at hSw); go_simp; try with_reducible rfl
            try simp only [Act.put, setIfInBounds_toArray, set_cons_zero, set_cons_succ]
            refine wpAnyH_take (i := 1) (oi := ⟨some 88, _, _, _, _, _⟩) (v := ?_) rfl (by kernel_rfl) (by kernel_rfl) (by kernel_rfl) (fun _ _ _ h => h) (Or.inl ⟨by rfl, ?_⟩) (by assumption) ?_; rotate_left
            · intro w hSw; (try dsimp only at hSw); go_simp; try with_reducible rfl
            try simp only [Act.put, setIfInBounds_toArray, set_cons_zero, set_cons_succ]
            refine wpAnyH_take (i := 2) (oi := ⟨some 89, _, _, _, _, _⟩) (v := ?_) rfl (by kernel_rfl) (by kernel_rfl) (by kernel_rfl) (fun _ _ _ h => h) (Or.inl ⟨by rfl, ?_⟩) (by assumption) ?_; rotate_left
            · intro w hSw; (try dsimp only at hSw); go_simp; try with_reducible rfl
            try simp only [Act.put, setIfInBounds_toArray, set_cons_zero, set_cons_succ]
            refine wpAnyH_take (i := 3) (oi := ⟨some 90, _, _, _, _, _⟩) (v := ?_) rfl (by kernel_rfl) (by kernel_rfl) (by kernel_rfl) (fun _ _ _ h => h) (Or.inl ⟨by rfl, ?_⟩) (by assumption) ?_; rotate_left
            · intro w hSw; (try dsimp only at hSw); go_simp; try with_reducible rfl
            try simp only [Act.put, setIfInBounds_toArray, set_cons_zero, set_cons_succ]
            refine wpAnyH_take (i := 4) (oi := ⟨some 91, _, _, _, _, _⟩) (v := ?_) rfl (by kernel_rfl) (by kernel_rfl) (by kernel_rfl) (fun _ _ _ h => h) (Or.inl ⟨by rfl, ?_⟩) (by assumption) ?_; rotate_left
            · intro w hSw; (try dsimp only at hSw); go_simp; try with_reducible rfl
            try simp only [Act.put, setIfInBounds_toArray, set_cons_zero, set_cons_succ]
            refine wpAnyH_take (i := 5) (oi := ⟨some 92, _, _, _, _, _⟩) (v := ?_) rfl (by kernel_rfl) (by kernel_rfl) (by kernel_rfl) (fun _ _ _ h => h) (Or.inl ⟨by rfl, ?_⟩) (by assumption) ?_; rotate_left
            · intro w hSw; (try dsimp only at hSw); go_simp; try with_reducible rfl
            try simp only [Act.put, setIfInBounds_toArray, set_cons_zero, set_cons_succ]
            refine wpAnyH_take (i := 6) (oi := ⟨some 93, _, _, _, _, _⟩) (v := ?_) rfl (by kernel_rfl) (by kernel_rfl) (by kernel_rfl) (fun _ _ _ h => h) (Or.inl ⟨by rfl, ?_⟩) (by assumption) ?_; rotate_left
            · intro w hSw; (try dsimp only at hSw); go_simp; try with_reducible rfl
            try simp only [Act.put, setIfInBounds_toArray, set_cons_zero, set_cons_succ]
            refine wpAnyH_take (i := 7) (oi := ⟨some 94, _, _, _, _, _⟩) (v := ?_) rfl (by kernel_rfl) (by kernel_rfl) (by kernel_rfl) (fun _ _ _ h => h) (Or.inl ⟨by rfl, ?_⟩) (by assumption) ?_; rotate_left
            · intro w hSw; (try dsimp only at hSw); go_simp; try with_reducible rfl
            try simp only [Act.put, setIfInBounds_toArray, set_cons_zero, set_cons_succ]
            refine wpAnyH_take (i := 8) (oi := ⟨some 95, _, _, _, _, _⟩) (v := ?_) rfl (by kernel_rfl) (by kernel_rfl) (by kernel_rfl) (fun _ _ _ h => h) (Or.inl ⟨by rfl, ?_⟩) (by assumption) ?_; rotate_left
            · intro w hSw; (try dsimp only at hSw); go_simp; try with_reducible rfl
            try simp only [Act.put, setIfInBounds_toArray, set_cons_zero, set_cons_succ]
            refine wpAnyH_take (i := 9) (oi := ⟨some 96, _, _, _, _, _⟩) (v := ?_) rfl (by kernel_rfl) (by kernel_rfl) (by kernel_rfl) (fun _ _ _ h => h) (Or.inl ⟨by rfl, ?_⟩) (by assumption) ?_; rotate_left
            · intro w hSw; (try dsimp only at hSw); go_simp; try with_reducible rfl
            try simp only [Act.put, setIfInBounds_toArray, set_cons_zero, set_cons_succ]
            refine wpAnyH_take (i := 10) (oi := ⟨some 97, _, _, _, _, _⟩) (v := ?_) rfl (by kernel_rfl) (by kernel_rfl) (by kernel_rfl) (fun _ _ _ h => h) (Or.inl ⟨by rfl, ?_⟩) (by assumption) ?_; rotate_left
            · intro w hSw; (try dsimp only at hSw); go_simp; try with_reducible rfl
            try simp only [Act.put, setIfInBounds_toArray, set_cons_zero, set_cons_succ]
            refine wpAnyH_take (i := 11) (oi := ⟨some 98, _, _, _, _, _⟩) (v := ?_) rfl (by kernel_rfl) (by kernel_rfl) (by kernel_rfl) (fun _ _ _ h => h) (Or.inl ⟨by rfl, ?_⟩) (by assumption) ?_; rotate_left
            · intro w hSw; (try dsimp only at hSw); go_simp; try with_reducible rfl
            try simp only [Act.put, setIfInBounds_toArray, set_cons_zero, set_cons_succ]
            refine wpAnyH_ready (rs := [12]) (by kernel_rfl) (by simp) ?_
            refine AllReadyH.cons (o := ⟨some 99, _, _, _, _, _⟩) rfl (fun K hK => ?_) AllReadyH.nil
            go_simp
            refine (HCL.out _ (by (first | exact HB5.out | exact below_drew8 _ _ | exact Below.refl _ _))).mono ?_
            rintro e' w5 ⟨⟨v5, rfl, hv5⟩, hb5⟩
            have HV5 := Lib.hid hv5; have HB5 := Lib.hid hb5
            obtain ⟨g5, c5, sp5, rfl, _⟩ := hv5
            clear hb5
            go_wp2_with fail
            refine hK.out _ _ ?_ (fun hHeld => ?_)
            · (try dsimp only); first | (refine HS16s.out _ _ ?_; (first | exact HB5.out | exact below_drew8 _ _ | exact Below.refl _ _); done) | (refine HS16.out _ ?_; (first | exact HB5.out | exact below_drew8 _ _ | exact Below.refl _ _); done)
            clear hK K
            try simp only [Act.put, setIfInBounds_toArray, set_cons_zero, set_cons_succ]
            refine wpAnyH_take (i := 13) (oi := ⟨some 100, _, _, _, _, _⟩) (v := ?_) rfl (by kernel_rfl) (by kernel_rfl) (by kernel_rfl) (fun _ _ _ h => h) (Or.inl ⟨by rfl, ?_⟩) (by assumption) ?_; rotate_left
            · intro w hSw; (try dsimp only at hSw); go_simp; try with_reducible rfl
            try simp only [Act.put, setIfInBounds_toArray, set_cons_zero, set_cons_succ]
            refine wpAnyH_ready (rs := [14]) (by kernel_rfl) (by simp) ?_
            refine AllReadyH.cons (o := ⟨none, _, _, _, _, _⟩) rfl (fun K hK => ?_) AllReadyH.nil
            obtain ⟨cn5, fn5⟩ := HNW.out _ HB5.out
            go_simp
            refine hK.out _ _ ?_ (fun hHeld => ?_)
            · (try dsimp only); first | (refine HS16s.out _ _ ?_; (first | exact HB5.out | exact below_drew8 _ _ | exact Below.refl _ _); done) | (refine HS16.out _ ?_; (first | exact HB5.out | exact below_drew8 _ _ | exact Below.refl _ _); done)
            clear hK K
            try simp only [Act.put]
            refine wpAnyH_done (by kernel_rfl) ?_ _
            go_wp2_with fail
            go_roundw
            case rel => exact ⟨i + 1, by omega, by go_num, by rw [HF.out] <;> go_num, crT_new (HA4.out.far HB5.out) HKL.out HIR.out HX.out HV5.out HSX.out, (HK4.out.trans (KeepL.of_below HB5.out)).trans ((KeepL.set _ _ _ _).sub (by simp [fpR]))⟩
            case measure => simp [intOf]; omega
          refine AllReadyH.cons (o := ⟨some 74, _, _, _, _, _⟩) rfl (fun K hK => ?_) AllReadyH.nil
          obtain ⟨ck3, fk3⟩ := HVK.out _ (by (first | exact HB2.out | exact HB1.out | exact below_drew8 _ _ | exact Below.refl _ _) : Below wa.heap.size wa (World.drew wa))
          go_simp
          refine hK.out _ _ ?_ (fun hHeld => ?_)
          · (try dsimp only); first | (refine HS13s.out _ _ ?_; (first | exact HB2.out | exact HB1.out | exact below_drew8 _ _ | exact Below.refl _ _); done) | (refine HS13.out _ ?_; (first | exact HB2.out | exact HB1.out | exact below_drew8 _ _ | exact Below.refl _ _); done)
          clear hK K
          try simp only [Act.put, setIfInBounds_toArray, set_cons_zero, set_cons_succ]
          refine wpAnyH_take (i := 23) (oi := ⟨some 76, _, _, _, _, _⟩) (v := ?_) rfl (by kernel_rfl) (by kernel_rfl) (by kernel_rfl) (fun _ _ _ h => h) (Or.inl ⟨by rfl, ?_⟩) (by assumption) ?_; rotate_left
          · intro w hSw; (try dsimp only at hSw); go_simp; try with_reducible rfl
          try simp only [Act.put, setIfInBounds_toArray, set_cons_zero, set_cons_succ]
          refine wpAnyH_ready (rs := [14]) (by kernel_rfl) (by simp) ?_
          refine AllReadyH.cons (o := ⟨some 67, _, _, _, _, _⟩) rfl (fun K hK => ?_) AllReadyH.nil
          go_simp
          refine (HCL.out _ (by (first | exact HB2.out | exact HB1.out | exact below_drew8 _ _ | exact Below.refl _ _))).mono ?_
          rintro e' w1 ⟨A', c', rfl, ho1, hb1⟩
          have HO1 := Lib.hid ho1; have HB1 := Lib.hid hb1
          clear ho1 hb1
          go_wp2_with fail
          refine hK.out _ _ ?_ (fun hHeld => ?_)
          · (try dsimp only); first | (refine HS13s.out _ _ ?_; (first | exact HB2.out | exact HB1.out | exact below_drew8 _ _ | exact Below.refl _ _); done) | (refine HS13.out _ ?_; (first | exact HB2.out | exact HB1.out | exact below_drew8 _ _ | exact Below.refl _ _); done)
          clear hK K
          try simp only [Act.put, setIfInBounds_toArray, set_cons_zero, set_cons_succ]
          refine wpAnyH_ready (rs := [24]) (by kernel_rfl) (by simp) ?_
          refine AllReadyH.cons (o := ⟨some 77, _, _, _, _, _⟩) rfl (fun K hK => ?_) AllReadyH.nil
          refine step_put elB_rb (.tmp 67) (.tmp 76) rfl rfl wa.heap.size kk _ (by rfl) HO1.out (by rfl) (HR3.out.below HB1.out) (by intro u hu; obtain ⟨_, _, rfl⟩ := List.mem_map.1 hu; rfl) (by have := HK6.out; omega) (by decide) HB1.out.size ?_
          intro v2 w2 ho2 hb2 _
          have HB2 := Lib.hid (HB1.out.trans (hb2.mono (Nat.le_refl _)))
          have HV2 : Hid (BrV w2 X v2) := Lib.hid (own_br (by rw [show kk + (64 - kk) = 64 by have := HK6.out; omega, ← List.map_append, ← HXE.out] at ho2; exact ho2))
          obtain ⟨g2, c2, sp2, rfl, _⟩ := HV2.out
          clear ho2 hb2
          refine hK.out _ _ ?_ (fun hHeld => ?_)
          · (try dsimp only); first | (refine HS13s.out _ _ ?_; (first | exact HB2.out | exact HB1.out | exact below_drew8 _ _ | exact Below.refl _ _); done) | (refine HS13.out _ ?_; (first | exact HB2.out | exact HB1.out | exact below_drew8 _ _ | exact Below.refl _ _); done)
          clear hK K
          try simp only [Act.put, setIfInBounds_toArray, set_cons_zero, set_cons_succ]
          refine wpAnyH_take (i := 25) (oi := ⟨some 78, _, _, _, _, _⟩) (v := ?_) rfl (by kernel_rfl) (by kernel_rfl) (by kernel_rfl) (fun _ _ _ h => h) (Or.inl ⟨by rfl, ?_⟩) (by assumption) ?_; rotate_left
          · intro w hSw; (try dsimp only at hSw); go_simp; try with_reducible rfl
          try simp only [Act.put, setIfInBounds_toArray, set_cons_zero, set_cons_succ]
          refine wpAnyH_ready (rs := [26]) (by kernel_rfl) (by simp) ?_
          refine AllReadyH.cons (o := ⟨none, _, _, _, _, _⟩) rfl (fun K hK => ?_) AllReadyH.nil
          obtain ⟨ck2, fk2⟩ := HVK.out _ HB2.out
          go_simp
          refine hK.out _ _ ?_ (fun hHeld => ?_)
          · (try dsimp only); first | (refine HS13s.out _ _ ?_; (first | exact HB2.out | exact HB1.out | exact below_drew8 _ _ | exact Below.refl _ _); done) | (refine HS13.out _ ?_; (first | exact HB2.out | exact HB1.out | exact below_drew8 _ _ | exact Below.refl _ _); done)
          clear hK K
          try simp only [Act.put]
          refine wpAnyH_done (by kernel_rfl) ?_ _
          have HA3a := crT_kept (HA.out.far HB2.out) HOK.out HKL.out HIR.out HX.out HV2.out (HKS.out X (List.mem_of_getElem? HX.out))
          have HK3a : KeepL (fpR R bn bk bf) w (w2.setCell ⟨bk, i, none⟩ (.slice (some ⟨g2, 0, none⟩) 64 c2)) := (HK.out.trans (KeepL.of_below HB2.out)).trans ((KeepL.set _ _ _ _).sub (by simp [fpR]))
          obtain ⟨w3, hw3⟩ : ∃ z, z = w2.setCell ⟨bk, i, none⟩ (.slice (some ⟨g2, 0, none⟩) 64 c2) := ⟨_, rfl⟩
          rw [← hw3] at HA3a HK3a ⊢
          have HA3 := Lib.hid HA3a; have HK3 := Lib.hid HK3a
          clear HA3a HK3a hw3
          obtain ⟨c0, c1, c2, c3, c4, c5, c6, _⟩ := HA3.out.cR
          rw [crT_len HKL.out (Nat.le_of_lt HIR.out), ← HNN.out] at c0 c1 c2
          obtain ⟨vF, hcf, ffr⟩ : ∃ vF, w3.cell? ⟨bf, i, none⟩ = some vF ∧ w3.frozen? ⟨bf, i, none⟩ = false := ⟨_, HA3.out.fcell (i := i) (by rw [crT_len HKL.out (Nat.le_of_lt HIR.out)]; exact HIR.out), HA3.out.frzf i⟩
          go_wp2_with fail
          have hA4 := crT_fr HA3.out HOK.out HKL.out HIR.out (Nat.le_of_lt HIR.out)
          obtain ⟨w4, hw4⟩ : ∃ z, z = w3.setCell ⟨bf, i, none⟩ (.bool false) := ⟨_, rfl⟩
          rw [← hw4] at hA4 ⊢
          have HK4 : Hid (KeepL (fpR R bn bk bf) w w4) := Lib.hid (by rw [hw4]; exact HK3.out.trans ((KeepL.set _ _ _ _).sub (by simp [fpR])))
          clear hw4 c0 c1 c2 c3 c4 c5 c6 hcf ffr
          obtain ⟨vK, hvk, hbk⟩ := hA4.kept.cell (i := i) (by show i < (mix K r.kept (i + 1)).length; rw [mix_length _ _ (by rw [HOK.out.kl]; exact HKL.out) (by rw [HOK.out.kl]; exact HIR.out), HOK.out.kl]; exact HIR.out)
          rw [show (crT r K i (i + 1) (i + 1)).kept.getD i [] = X from mix_getS _ _ (by rw [HOK.out.kl]; exact HKL.out) (by rw [HOK.out.kl]; exact HIR.out) _ HX.out] at hbk
          have HSX : Hid (SecOK X) := Lib.hid (HKS.out X (List.mem_of_getElem? HX.out))
          have HCL : Hid (∀ W, Below w4.heap.size w4 W → Calls Tryz.prog 84 #[vK] W fun e w' => (∃ v', e = .returned v' ∧ BrV w' X v') ∧ Below w4.heap.size w4 w') := Lib.hid fun W hW => (rclone_sec HSX.out (hbk.far hW)).mono fun e w' ⟨q1, q2⟩ => ⟨q1, hW.trans (q2.mono hW.size)⟩
          obtain ⟨c0, c1, _⟩ := hA4.cR
          rw [crT_len HKL.out (Nat.le_of_lt HIR.out), ← HNN.out] at c0 c1
          have HS16 : Hid (∀ W, Below w4.heap.size w4 W → (W.cell? ⟨R, 0, none⟩ = some (.slice (some ⟨bn, 0, none⟩) n cn) ∧ W.cell? ⟨R, 1, none⟩ = some (.slice (some ⟨bk, 0, none⟩) n ck) ∧ W.cell? ⟨bk, i, none⟩ = some vK)) := Lib.hid fun W hW => ⟨by rw [hW.cell (p := ⟨R, 0, none⟩) hA4.blk.lt]; exact c0, by rw [hW.cell (p := ⟨R, 1, none⟩) hA4.blk.lt]; exact c1, by rw [hW.cell (p := ⟨bk, i, none⟩) hA4.kept.lt]; exact hvk⟩
          have HS16s : Hid (∀ W u, Below w4.heap.size w4 W → ((W.setCell ⟨bn, i, none⟩ u).cell? ⟨R, 0, none⟩ = some (.slice (some ⟨bn, 0, none⟩) n cn) ∧ (W.setCell ⟨bn, i, none⟩ u).cell? ⟨R, 1, none⟩ = some (.slice (some ⟨bk, 0, none⟩) n ck) ∧ (W.setCell ⟨bn, i, none⟩ u).cell? ⟨bk, i, none⟩ = some vK)) := Lib.hid fun W u hW => (by
            obtain ⟨q0, q1, q2⟩ := HS16.out W hW
            have hRb : R ≠ bn := by obtain ⟨vs, sp, q, _⟩ := hA4.new; exact hA4.blk.ne q (by decide)
            refine ⟨?_, ?_, ?_⟩
            · rw [World.cell?_of_block (w := W) (a := ⟨R, 0, none⟩) (Below.heap_setCell _ _ _ _ hRb)]; exact q0
            · rw [World.cell?_of_block (w := W) (a := ⟨R, 1, none⟩) (Below.heap_setCell _ _ _ _ hRb)]; exact q1
            · rw [World.cell?_of_block (w := W) (a := ⟨bk, i, none⟩) (Below.heap_setCell _ _ _ _ (fun e => HNE.out e.symm))]; exact q2)
          obtain ⟨vN, hvn, _⟩ := hA4.new.cell (i := i) (by rw [crT_len HKL.out (Nat.le_of_lt HIR.out)]; exact HIR.out)
          have HNW : Hid (∀ W, Below w4.heap.size w4 W → W.cell? ⟨bn, i, none⟩ = some vN ∧ W.frozen? ⟨bn, i, none⟩ = false) := Lib.hid fun W hW => ⟨by rw [hW.cell (p := ⟨bn, i, none⟩) hA4.new.lt]; exact hvn, (hA4.far hW).frzn i⟩
          have HA4 := Lib.hid hA4
          clear hA4 c0 c1 hvk hbk hvn
          refine wp_region_held_drew (S := (fun W => W.cell? ⟨R, 0, none⟩ = some (.slice (some ⟨bn, 0, none⟩) n cn) ∧ W.cell? ⟨R, 1, none⟩ = some (.slice (some ⟨bk, 0, none⟩) n ck) ∧ W.cell? ⟨bk, i, none⟩ = some vK)) (by kernel_rfl) ?_ (fun hHeld => ?_)
          · (try dsimp only); first | (refine HS16s.out _ _ ?_; (first | exact HB5.out | exact below_drew8 _ _ | exact Below.refl _ _); done) | (refine HS16.out _ ?_; (first | exact HB5.out | exact below_drew8 _ _ | exact Below.refl _ _); done)
          refine wpAnyH_take (i := 0) (oi := ⟨some 87, _, _, _, _, _⟩) (v := ?_) rfl (by kernel_rfl) (by kernel_rfl) (by kernel_rfl) (fun _ _ _ h => h) (Or.inl ⟨by rfl, ?_⟩) (by assumption) ?_; rotate_left
          · intro w hSw; (try dsimp only at hSw); go_simp; try with_reducible rfl
          try simp only [Act.put, setIfInBounds_toArray, set_cons_zero, set_cons_succ]
          refine wpAnyH_take (i := 1) (oi := ⟨some 88, _, _, _, _, _⟩) (v := ?_) rfl (by kernel_rfl) (by kernel_rfl) (by kernel_rfl) (fun _ _ _ h => h) (Or.inl ⟨by rfl, ?_⟩) (by assumption) ?_; rotate_left
          · intro w hSw; (try dsimp only at hSw); go_simp; try with_reducible rfl
          try simp only [Act.put, setIfInBounds_toArray, set_cons_zero, set_cons_succ]
          refine wpAnyH_take (i := 2) (oi := ⟨some 89, _, _, _, _, _⟩) (v := ?_) rfl (by kernel_rfl) (by kernel_rfl) (by kernel_rfl) (fun _ _ _ h => h) (Or.inl ⟨by rfl, ?_⟩) (by assumption) ?_; rotate_left
          · intro w hSw; (try dsimp only at hSw); go_simp; try with_reducible rfl
          try simp only [Act.put, setIfInBounds_toArray, set_cons_zero, set_cons_succ]
          refine wpAnyH_take (i := 3) (oi := ⟨some 90, _, _, _, _, _⟩) (v := ?_) rfl (by kernel_rfl) (by kernel_rfl) (by kernel_rfl) (fun _ _ _ h => h) (Or.inl ⟨by rfl, ?_⟩) (by assumption) ?_; rotate_left
          · intro w hSw; (try dsimp only at hSw); go_simp; try with_reducible rfl
          try simp only [Act.put, setIfInBounds_toArray, set_cons_zero, set_cons_succ]
          refine wpAnyH_take (i := 4) (oi := ⟨some 91, _, _, _, _, _⟩) (v := ?_) rfl (by kernel_rfl) (by kernel_rfl) (by kernel_rfl) (fun _ _ _ h => h) (Or.inl ⟨by rfl, ?_⟩) (by assumption) ?_; rotate_left
          · intro w hSw; (try dsimp only at hSw); go_simp; try with_reducible rfl
          try simp only [Act.put, setIfInBounds_toArray, set_cons_zero, set_cons_succ]
          refine wpAnyH_take (i := 5) (oi := ⟨some 92, _, _, _, _, _⟩) (v := ?_) rfl (by kernel_rfl) (by kernel_rfl) (by kernel_rfl) (fun _ _ _ h => h) (Or.inl ⟨by rfl, ?_⟩) (by assumption) ?_; rotate_left
          · intro w hSw; (try dsimp only at hSw); go_simp; try with_reducible rfl
          try simp only [Act.put, setIfInBounds_toArray, set_cons_zero, set_cons_succ]
          refine wpAnyH_take (i := 6) (oi := ⟨some 93, _, _, _, _, _⟩) (v := ?_) rfl (by kernel_rfl) (by kernel_rfl) (by kernel_rfl) (fun _ _ _ h => h) (Or.inl ⟨by rfl, ?_⟩) (by assumption) ?_; rotate_left
          · intro w hSw; (try dsimp only at hSw); go_simp; try with_reducible rfl
          try simp only [Act.put, setIfInBounds_toArray, set_cons_zero, set_cons_succ]
          refine wpAnyH_take (i := 7) (oi := ⟨some 94, _, _, _, _, _⟩) (v := ?_) rfl (by kernel_rfl) (by kernel_rfl) (by kernel_rfl) (fun _ _ _ h => h) (Or.inl ⟨by rfl, ?_⟩) (by assumption) ?_; rotate_left
          · intro w hSw; (try dsimp only at hSw); go_simp; try with_reducible rfl
          try simp only [Act.put, setIfInBounds_toArray, set_cons_zero, set_cons_succ]
          refine wpAnyH_take (i := 8) (oi := ⟨some 95, _, _, _, _, _⟩) (v := ?_) rfl (by kernel_rfl) (by kernel_rfl) (by kernel_rfl) (fun _ _ _ h => h) (Or.inl ⟨by rfl, ?_⟩) (by assumption) ?_; rotate_left
          · intro w hSw; (try dsimp only at hSw); go_simp; try with_reducible rfl
          try simp only [Act.put, setIfInBounds_toArray, set_cons_zero, set_cons_succ]
          refine wpAnyH_take (i := 9) (oi := ⟨some 96, _, _, _, _, _⟩) (v := ?_) rfl (by kernel_rfl) (by kernel_rfl) (by kernel_rfl) (fun _ _ _ h => h) (Or.inl ⟨by rfl, ?_⟩) (by assumption) ?_; rotate_left
          · intro w hSw; (try dsimp only at hSw); go_simp; try with_reducible rfl
          try simp only [Act.put, setIfInBounds_toArray, set_cons_zero, set_cons_succ]
          refine wpAnyH_take (i := 10) (oi := ⟨some 97, _, _, _, _, _⟩) (v := ?_) rfl (by kernel_rfl) (by kernel_rfl) (by kernel_rfl) (fun _ _ _ h => h) (Or.inl ⟨by rfl, ?_⟩) (by assumption) ?_; rotate_left
          · intro w hSw; (try dsimp only at hSw); go_simp; try with_reducible rfl
          try simp only [Act.put, setIfInBounds_toArray, set_cons_zero, set_cons_succ]
          refine wpAnyH_take (i := 11) (oi := ⟨some 98, _, _, _, _, _⟩) (v := ?_) rfl (by kernel_rfl) (by kernel_rfl) (by kernel_rfl) (fun _ _ _ h => h) (Or.inl ⟨by rfl, ?_⟩) (by assumption) ?_; rotate_left
          · intro w hSw; (try dsimp only at hSw); go_simp; try with_reducible rfl
          try simp only [Act.put, setIfInBounds_toArray, set_cons_zero, set_cons_succ]
          refine wpAnyH_ready (rs := [12]) (by kernel_rfl) (by simp) ?_
          refine AllReadyH.cons (o := ⟨some 99, _, _, _, _, _⟩) rfl (fun K hK => ?_) AllReadyH.nil
          go_simp
          refine (HCL.out _ (by (first | exact HB5.out | exact below_drew8 _ _ | exact Below.refl _ _))).mono ?_
          rintro e' w5 ⟨⟨v5, rfl, hv5⟩, hb5⟩
          have HV5 := Lib.hid hv5; have HB5 := Lib.hid hb5
          obtain ⟨g5, c5, sp5, rfl, _⟩ := hv5
          clear hb5
          go_wp2_with fail
          refine hK.out _ _ ?_ (fun hHeld => ?_)
          · (try dsimp only); first | (refine HS16s.out _ _ ?_; (first | exact HB5.out | exact below_drew8 _ _ | exact Below.refl _ _); done) | (refine HS16.out _ ?_; (first | exact HB5.out | exact below_drew8 _ _ | exact Below.refl _ _); done)
          clear hK K
          try simp only [Act.put, setIfInBounds_toArray, set_cons_zero, set_cons_succ]
          refine wpAnyH_take (i := 13) (oi := ⟨some 100, _, _, _, _, _⟩) (v := ?_) rfl (by kernel_rfl) (by kernel_rfl) (by kernel_rfl) (fun _ _ _ h => h) (Or.inl ⟨by rfl, ?_⟩) (by assumption) ?_; rotate_left
          · intro w hSw; (try dsimp only at hSw); go_simp; try with_reducible rfl
          try simp only [Act.put, setIfInBounds_toArray, set_cons_zero, set_cons_succ]
          refine wpAnyH_ready (rs := [14]) (by kernel_rfl) (by simp) ?_
          refine AllReadyH.cons (o := ⟨none, _, _, _, _, _⟩) rfl (fun K hK => ?_) AllReadyH.nil
          obtain ⟨cn5, fn5⟩ := HNW.out _ HB5.out
          go_simp
          refine hK.out _ _ ?_ (fun hHeld => ?_)
          · (try dsimp only); first | (refine HS16s.out _ _ ?_; (first | exact HB5.out | exact below_drew8 _ _ | exact Below.refl _ _); done) | (refine HS16.out _ ?_; (first | exact HB5.out | exact below_drew8 _ _ | exact Below.refl _ _); done)
          clear hK K
          try simp only [Act.put]
          refine wpAnyH_done (by kernel_rfl) ?_ _
          go_wp2_with fail
          go_roundw
          case rel => exact ⟨i + 1, by omega, by go_num, by rw [HF.out] <;> go_num, crT_new (HA4.out.far HB5.out) HKL.out HIR.out HX.out HV5.out HSX.out, (HK4.out.trans (KeepL.of_below HB5.out)).trans ((KeepL.set _ _ _ _).sub (by simp [fpR]))⟩
          case measure => simp [intOf]; omega
          -- REGION>
        · have hjk2 : ¬ (j : Int) < (k.length : Int) := by omega
          have hkk0 : kk = 0 := by rw [HKKE.out, List.getD_eq_getElem?_getD, List.getElem?_eq_none (by omega)]; rfl
          obtain ⟨A2, A3, hs2, hs3, hr2, hr3⟩ := HN1.out 0 (by rw [hkk0]; rfl)
          have HR2 := Lib.hid hr2; have HR3 := Lib.hid hr3
          clear hr2 hr3
          clear hkk0
          -- <REGION c13
          have HCL : Hid (∀ W, Below wa.heap.size wa W → Calls Tryz.prog 84 #[.slice A2 kk cN] W fun e w' => ∃ A' c', e = .returned (.slice A' kk c') ∧ w'.ownsRow wa.heap.size 5 1 (.slice A' kk c') kk ((s.take kk).map (fun x : Nat => Value.int .u8 x)) ∧ Below wa.heap.size wa w') := Lib.hid fun W hW => (rclone_any A2 kk cN (s.take kk) W (Nat.le_trans HK6.out (by decide)) ((HR2.out.below hW).mono hW.size)).mono fun e w' ⟨A', c', z1, z2, z3, z4⟩ => ⟨A', c', z1, ownsRow_mono z3 hW.size, hW.trans (z4.mono hW.size)⟩
          go_wp2_with fail
          refine wp_region_held_drew (S := (fun W => W.cell? ⟨R, 0, none⟩ = some (.slice (some ⟨bn, 0, none⟩) n cn) ∧ W.cell? ⟨R, 1, none⟩ = some (.slice (some ⟨bk, 0, none⟩) n ck) ∧ W.cell? ⟨bn, i, none⟩ = some (.slice (some ⟨gN, 0, none⟩) 64 cN))) (by kernel_rfl) ?_ (fun hHeld => ?_)
          · (try dsimp only); first | (refine HS13s.out _ _ ?_; (first | exact HB2.out | exact HB1.out | exact below_drew8 _ _ | exact Below.refl _ _); done) | (refine HS13.out _ ?_; (first | exact HB2.out | exact HB1.out | exact below_drew8 _ _ | exact Below.refl _ _); done)
          refine wpAnyH_take (i := 0) (oi := ⟨some 53, _, _, _, _, _⟩) (v := ?_) rfl (by kernel_rfl) (by kernel_rfl) (by kernel_rfl) (fun _ _ _ h => h) (Or.inl ⟨by rfl, ?_⟩) (by assumption) ?_; rotate_left
          · intro w hSw; (try dsimp only at hSw); go_simp; try with_reducible rfl
          try simp only [Act.put, setIfInBounds_toArray, set_cons_zero, set_cons_succ]
          refine wpAnyH_take (i := 1) (oi := ⟨some 54, _, _, _, _, _⟩) (v := ?_) rfl (by kernel_rfl) (by kernel_rfl) (by kernel_rfl) (fun _ _ _ h => h) (Or.inl ⟨by rfl, ?_⟩) (by assumption) ?_; rotate_left
          · intro w hSw; (try dsimp only at hSw); go_simp; try with_reducible rfl
          try simp only [Act.put, setIfInBounds_toArray, set_cons_zero, set_cons_succ]
          refine wpAnyH_take (i := 2) (oi := ⟨some 55, _, _, _, _, _⟩) (v := ?_) rfl (by kernel_rfl) (by kernel_rfl) (by kernel_rfl) (fun _ _ _ h => h) (Or.inl ⟨by rfl, ?_⟩) (by assumption) ?_; rotate_left
          · intro w hSw; (try dsimp only at hSw); go_simp; try with_reducible rfl
          try simp only [Act.put, setIfInBounds_toArray, set_cons_zero, set_cons_succ]
          refine wpAnyH_take (i := 3) (oi := ⟨some 56, _, _, _, _, _⟩) (v := ?_) rfl (by kernel_rfl) (by kernel_rfl) (by kernel_rfl) (fun _ _ _ h => h) (Or.inl ⟨by rfl, ?_⟩) (by assumption) ?_; rotate_left
          · intro w hSw; (try dsimp only at hSw); go_simp; try with_reducible rfl
          try simp only [Act.put, setIfInBounds_toArray, set_cons_zero, set_cons_succ]
          refine wpAnyH_take (i := 4) (oi := ⟨some 57, _, _, _, _, _⟩) (v := ?_) rfl (by kernel_rfl) (by kernel_rfl) (by kernel_rfl) (fun _ _ _ h => h) (Or.inl ⟨by rfl, ?_⟩) (by assumption) ?_; rotate_left
          · intro w hSw; (try dsimp only at hSw); go_simp; try with_reducible rfl
          try simp only [Act.put, setIfInBounds_toArray, set_cons_zero, set_cons_succ]
          refine wpAnyH_take (i := 5) (oi := ⟨some 58, _, _, _, _, _⟩) (v := ?_) rfl (by kernel_rfl) (by kernel_rfl) (by kernel_rfl) (fun _ _ _ h => h) (Or.inl ⟨by rfl, ?_⟩) (by assumption) ?_; rotate_left
          · intro w hSw; (try dsimp only at hSw); go_simp; try with_reducible rfl
          try simp only [Act.put, setIfInBounds_toArray, set_cons_zero, set_cons_succ]
          refine wpAnyH_take (i := 6) (oi := ⟨some 59, _, _, _, _, _⟩) (v := ?_) rfl (by kernel_rfl) (by kernel_rfl) (by kernel_rfl) (fun _ _ _ h => h) (Or.inl ⟨by rfl, ?_⟩) (by assumption) ?_; rotate_left
          · intro w hSw; (try dsimp only at hSw); go_simp; try with_reducible rfl
          try simp only [Act.put, setIfInBounds_toArray, set_cons_zero, set_cons_succ]
          refine wpAnyH_take (i := 7) (oi := ⟨some 60, _, _, _, _, _⟩) (v := ?_) rfl (by kernel_rfl) (by kernel_rfl) (by kernel_rfl) (fun _ _ _ h => h) (Or.inl ⟨by rfl, ?_⟩) (by assumption) ?_; rotate_left
          · intro w hSw; (try dsimp only at hSw); go_simp; try with_reducible rfl
          try simp only [Act.put, setIfInBounds_toArray, set_cons_zero, set_cons_succ]
          refine wpAnyH_take (i := 8) (oi := ⟨some 61, _, _, _, _, _⟩) (v := ?_) rfl (by kernel_rfl) (by kernel_rfl) (by kernel_rfl) (fun _ _ _ h => h) (Or.inl ⟨by rfl, ?_⟩) (by assumption) ?_; rotate_left
          · intro w hSw; (try dsimp only at hSw); go_simp; try with_reducible rfl
          try simp only [Act.put, setIfInBounds_toArray, set_cons_zero, set_cons_succ]
          refine wpAnyH_take (i := 9) (oi := ⟨some 62, _, _, _, _, _⟩) (v := ?_) rfl (by kernel_rfl) (by kernel_rfl) (by kernel_rfl) (fun _ _ _ h => h) (Or.inl ⟨by rfl, ?_⟩) (by assumption) ?_; rotate_left
          · intro w hSw; (try dsimp only at hSw); go_simp; try with_reducible rfl
          try simp only [Act.put, setIfInBounds_toArray, set_cons_zero, set_cons_succ]
          refine wpAnyH_take (i := 10) (oi := ⟨some 63, _, _, _, _, _⟩) (v := ?_) rfl (by kernel_rfl) (by kernel_rfl) (by kernel_rfl) (fun _ _ _ h => h) (Or.inl ⟨by rfl, ?_⟩) (by assumption) ?_; rotate_left
          · intro w hSw; (try dsimp only at hSw); go_simp; try with_reducible rfl
          try simp only [Act.put, setIfInBounds_toArray, set_cons_zero, set_cons_succ]
          refine wpAnyH_take (i := 11) (oi := ⟨some 64, _, _, _, _, _⟩) (v := ?_) rfl (by kernel_rfl) (by kernel_rfl) (by kernel_rfl) (fun _ _ _ h => h) (Or.inl ⟨by rfl, ?_⟩) (by assumption) ?_; rotate_left
          · intro w hSw; (try dsimp only at hSw); go_simp; try with_reducible rfl
          try simp only [Act.put, setIfInBounds_toArray, set_cons_zero, set_cons_succ]
          refine wpAnyH_take (i := 12) (oi := ⟨some 65, _, _, _, _, _⟩) (v := ?_) rfl (by kernel_rfl) (by kernel_rfl) (by kernel_rfl) (fun _ _ _ h => h) (Or.inl ⟨by rfl, ?_⟩) (by assumption) ?_; rotate_left
          · intro w hSw; (try dsimp only at hSw); go_simp; try with_reducible rfl
          try simp only [Act.put, setIfInBounds_toArray, set_cons_zero, set_cons_succ]
          refine wpAnyH_take (i := 13) (oi := ⟨some 66, _, _, _, _, _⟩) (v := ?_) rfl (by kernel_rfl) (by kernel_rfl) (by kernel_rfl) (fun _ _ _ h => h) (Or.inl ⟨by rfl, ?_⟩) (by assumption) ?_; rotate_left
          · intro w hSw; (try dsimp only at hSw); go_simp; try with_reducible rfl
          try simp only [Act.put, setIfInBounds_toArray, set_cons_zero, set_cons_succ]
          refine wpAnyH_take (i := 15) (oi := ⟨some 68, _, _, _, _, _⟩) (v := ?_) rfl (by kernel_rfl) (by kernel_rfl) (by kernel_rfl) (fun _ _ _ h => h) (Or.inl ⟨by rfl, ?_⟩) (by assumption) ?_; rotate_left
          · intro w hSw; (try dsimp only at hSw); go_simp; try with_reducible rfl
          try simp only [Act.put, setIfInBounds_toArray, set_cons_zero, set_cons_succ]
          refine wpAnyH_take (i := 16) (oi := ⟨some 69, _, _, _, _, _⟩) (v := ?_) rfl (by kernel_rfl) (by kernel_rfl) (by kernel_rfl) (fun _ _ _ h => h) (Or.inl ⟨by rfl, ?_⟩) (by assumption) ?_; rotate_left
          · intro w hSw; (try dsimp only at hSw); go_simp; try with_reducible rfl
          try simp only [Act.put, setIfInBounds_toArray, set_cons_zero, set_cons_succ]
          refine wpAnyH_take (i := 17) (oi := ⟨some 70, _, _, _, _, _⟩) (v := ?_) rfl (by kernel_rfl) (by kernel_rfl) (by kernel_rfl) (fun _ _ _ h => h) (Or.inl ⟨by rfl, ?_⟩) (by assumption) ?_; rotate_left
          · intro w hSw; (try dsimp only at hSw); go_simp; try with_reducible rfl
          try simp only [Act.put, setIfInBounds_toArray, set_cons_zero, set_cons_succ]
          refine wpAnyH_take (i := 18) (oi := ⟨some 71, _, _, _, _, _⟩) (v := ?_) rfl (by kernel_rfl) (by kernel_rfl) (by kernel_rfl) (fun _ _ _ h => h) (Or.inl ⟨by rfl, ?_⟩) (by assumption) ?_; rotate_left
          · intro w hSw; (try dsimp only at hSw); go_simp; try with_reducible rfl
          try simp only [Act.put, setIfInBounds_toArray, set_cons_zero, set_cons_succ]
          refine wpAnyH_take (i := 19) (oi := ⟨some 72, _, _, _, _, _⟩) (v := ?_) rfl (by kernel_rfl) (by kernel_rfl) (by kernel_rfl) (fun _ _ _ h => h) (Or.inl ⟨by rfl, ?_⟩) (by assumption) ?_; rotate_left
          · intro w hSw; (try dsimp only at hSw); go_simp; try with_reducible rfl
          try simp only [Act.put, setIfInBounds_toArray, set_cons_zero, set_cons_succ]
          refine wpAnyH_take (i := 20) (oi := ⟨some 73, _, _, _, _, _⟩) (v := ?_) rfl (by kernel_rfl) (by kernel_rfl) (by kernel_rfl) (fun _ _ _ h => h) (Or.inl ⟨by rfl, ?_⟩) (by assumption) ?_; rotate_left
          · intro w hSw; (try dsimp only at hSw); go_simp; try with_reducible rfl
          try simp only [Act.put, setIfInBounds_toArray, set_cons_zero, set_cons_succ]
          refine wpAnyH_take (i := 22) (oi := ⟨some 75, _, _, _, _, _⟩) (v := ?_) rfl (by kernel_rfl) (by kernel_rfl) (by kernel_rfl) (fun _ _ _ h => h) (Or.inl ⟨by rfl, ?_⟩) (by assumption) ?_; rotate_left
          · intro w hSw; (try dsimp only at hSw); go_simp; try with_reducible rfl
          try simp only [Act.put, setIfInBounds_toArray, set_cons_zero, set_cons_succ]
          refine wpAnyH_ready (rs := [14, 21]) (by kernel_rfl) (by simp) ?_
          refine AllReadyH.cons (o := ⟨some 67, _, _, _, _, _⟩) rfl (fun K hK => ?_) ?_
          · skip
            go_simp
            refine (HCL.out _ (by (first | exact HB2.out | exact HB1.out | exact below_drew8 _ _ | exact Below.refl _ _))).mono ?_
            rintro e' w1 ⟨A', c', rfl, ho1, hb1⟩
            have HO1 := Lib.hid ho1; have HB1 := Lib.hid hb1
            clear ho1 hb1
            obtain ⟨ck1, fk1⟩ := HVK.out _ HB1.out
            go_wp2_with fail
            refine hK.out _ _ ?_ (fun hHeld => ?_)
            · (try dsimp only); first | (refine HS13s.out _ _ ?_; (first | exact HB2.out | exact HB1.out | exact below_drew8 _ _ | exact Below.refl _ _); done) | (refine HS13.out _ ?_; (first | exact HB2.out | exact HB1.out | exact below_drew8 _ _ | exact Below.refl _ _); done)
            clear hK K
            try simp only [Act.put, setIfInBounds_toArray, set_cons_zero, set_cons_succ]
            refine wpAnyH_ready (rs := [21]) (by kernel_rfl) (by simp) ?_
            refine AllReadyH.cons (o := ⟨some 74, _, _, _, _, _⟩) rfl (fun K hK => ?_) AllReadyH.nil
            obtain ⟨ck3, fk3⟩ := HVK.out _ HB1.out
            go_simp
            refine hK.out _ _ ?_ (fun hHeld => ?_)
            · (try dsimp only); first | (refine HS13s.out _ _ ?_; (first | exact HB2.out | exact HB1.out | exact below_drew8 _ _ | exact Below.refl _ _); done) | (refine HS13.out _ ?_; (first | exact HB2.out | exact HB1.out | exact below_drew8 _ _ | exact Below.refl _ _); done)
            clear hK K
            try simp only [Act.put, setIfInBounds_toArray, set_cons_zero, set_cons_succ]
            refine wpAnyH_take (i := 23) (oi := ⟨some 76, _, _, _, _, _⟩) (v := ?_) rfl (by kernel_rfl) (by kernel_rfl) (by kernel_rfl) (fun _ _ _ h => h) (Or.inl ⟨by rfl, ?_⟩) (by assumption) ?_; rotate_left
            · intro w hSw; (try dsimp only at hSw); go_simp; try with_reducible rfl
            try simp only [Act.put, setIfInBounds_toArray, set_cons_zero, set_cons_succ]
            refine wpAnyH_ready (rs := [24]) (by kernel_rfl) (by simp) ?_
            refine AllReadyH.cons (o := ⟨some 77, _, _, _, _, _⟩) rfl (fun K hK => ?_) AllReadyH.nil
            refine step_put elB_rb (.tmp 67) (.tmp 76) rfl rfl wa.heap.size kk _ (by rfl) HO1.out (by rfl) (HR3.out.below HB1.out) (by intro u hu; obtain ⟨_, _, rfl⟩ := List.mem_map.1 hu; rfl) (by have := HK6.out; omega) (by decide) HB1.out.size ?_
            intro v2 w2 ho2 hb2 _
            have HB2 := Lib.hid (HB1.out.trans (hb2.mono (Nat.le_refl _)))
            have HV2 : Hid (BrV w2 X v2) := Lib.hid (own_br (by rw [show kk + (64 - kk) = 64 by have := HK6.out; omega, ← List.map_append, ← HXE.out] at ho2; exact ho2))
            obtain ⟨g2, c2, sp2, rfl, _⟩ := HV2.out
            clear ho2 hb2
            refine hK.out _ _ ?_ (fun hHeld => ?_)
            · (try dsimp only); first | (refine HS13s.out _ _ ?_; (first | exact HB2.out | exact HB1.out | exact below_drew8 _ _ | exact Below.refl _ _); done) | (refine HS13.out _ ?_; (first | exact HB2.out | exact HB1.out | exact below_drew8 _ _ | exact Below.refl _ _); done)
            clear hK K
            try simp only [Act.put, setIfInBounds_toArray, set_cons_zero, set_cons_succ]
            refine wpAnyH_take (i := 25) (oi := ⟨some 78, _, _, _, _, _⟩) (v := ?_) rfl (by kernel_rfl) (by kernel_rfl) (by kernel_rfl) (fun _ _ _ h => h) (Or.inl ⟨by rfl, ?_⟩) (by assumption) ?_; rotate_left
            · intro w hSw; (try dsimp only at hSw); go_simp; try with_reducible rfl
            try simp only [Act.put, setIfInBounds_toArray, set_cons_zero, set_cons_succ]
            refine wpAnyH_ready (rs := [26]) (by kernel_rfl) (by simp) ?_
            refine AllReadyH.cons (o := ⟨none, _, _, _, _, _⟩) rfl (fun K hK => ?_) AllReadyH.nil
            obtain ⟨ck2, fk2⟩ := HVK.out _ HB2.out
            go_simp
            refine hK.out _ _ ?_ (fun hHeld => ?_)
            · (try dsimp only); first | (refine HS13s.out _ _ ?_; (first | exact HB2.out | exact HB1.out | exact below_drew8 _ _ | exact Below.refl _ _); done) | (refine HS13.out _ ?_; (first | exact HB2.out | exact HB1.out | exact below_drew8 _ _ | exact Below.refl _ _); done)
            clear hK K
            try simp only [Act.put]
            refine wpAnyH_done (by kernel_rfl) ?_ _
            have HA3a := crT_kept (HA.out.far HB2.out) HOK.out HKL.out HIR.out HX.out HV2.out (HKS.out X (List.mem_of_getElem? HX.out))
            have HK3a : KeepL (fpR R bn bk bf) w (w2.setCell ⟨bk, i, none⟩ (.slice (some ⟨g2, 0, none⟩) 64 c2)) := (HK.out.trans (KeepL.of_below HB2.out)).trans ((KeepL.set _ _ _ _).sub (by simp [fpR]))
            obtain ⟨w3, hw3⟩ : ∃ z, z = w2.setCell ⟨bk, i, none⟩ (.slice (some ⟨g2, 0, none⟩) 64 c2) := ⟨_, rfl⟩
            rw [← hw3] at HA3a HK3a ⊢
            have HA3 := Lib.hid HA3a; have HK3 := Lib.hid HK3a
            clear HA3a HK3a hw3
            obtain ⟨c0, c1, c2, c3, c4, c5, c6, _⟩ := HA3.out.cR
            rw [crT_len HKL.out (Nat.le_of_lt HIR.out), ← HNN.out] at c0 c1 c2
            obtain ⟨vF, hcf, ffr⟩ : ∃ vF, w3.cell? ⟨bf, i, none⟩ = some vF ∧ w3.frozen? ⟨bf, i, none⟩ = false := ⟨_, HA3.out.fcell (i := i) (by rw [crT_len HKL.out (Nat.le_of_lt HIR.out)]; exact HIR.out), HA3.out.frzf i⟩
            go_wp2_with fail
            have hA4 := crT_fr HA3.out HOK.out HKL.out HIR.out (Nat.le_of_lt HIR.out)
            obtain ⟨w4, hw4⟩ : ∃ z, z = w3.setCell ⟨bf, i, none⟩ (.bool false) := ⟨_, rfl⟩
            rw [← hw4] at hA4 ⊢
            have HK4 : Hid (KeepL (fpR R bn bk bf) w w4) := Lib.hid (by rw [hw4]; exact HK3.out.trans ((KeepL.set _ _ _ _).sub (by simp [fpR])))
            clear hw4 c0 c1 c2 c3 c4 c5 c6 hcf ffr
            obtain ⟨vK, hvk, hbk⟩ := hA4.kept.cell (i := i) (by show i < (mix K r.kept (i + 1)).length; rw [mix_length _ _ (by rw [HOK.out.kl]; exact HKL.out) (by rw [HOK.out.kl]; exact HIR.out), HOK.out.kl]; exact HIR.out)
            rw [show (crT r K i (i + 1) (i + 1)).kept.getD i [] = X from mix_getS _ _ (by rw [HOK.out.kl]; exact HKL.out) (by rw [HOK.out.kl]; exact HIR.out) _ HX.out] at hbk
            have HSX : Hid (SecOK X) := Lib.hid (HKS.out X (List.mem_of_getElem? HX.out))
            have HCL : Hid (∀ W, Below w4.heap.size w4 W → Calls Tryz.prog 84 #[vK] W fun e w' => (∃ v', e = .returned v' ∧ BrV w' X v') ∧ Below w4.heap.size w4 w') := Lib.hid fun W hW => (rclone_sec HSX.out (hbk.far hW)).mono fun e w' ⟨q1, q2⟩ => ⟨q1, hW.trans (q2.mono hW.size)⟩
            obtain ⟨c0, c1, _⟩ := hA4.cR
            rw [crT_len HKL.out (Nat.le_of_lt HIR.out), ← HNN.out] at c0 c1
            have HS16 : Hid (∀ W, Below w4.heap.size w4 W → (W.cell? ⟨R, 0, none⟩ = some (.slice (some ⟨bn, 0, none⟩) n cn) ∧ W.cell? ⟨R, 1, none⟩ = some (.slice (some ⟨bk, 0, none⟩) n ck) ∧ W.cell? ⟨bk, i, none⟩ = some vK)) := Lib.hid fun W hW => ⟨by rw [hW.cell (p := ⟨R, 0, none⟩) hA4.blk.lt]; exact c0, by rw [hW.cell (p := ⟨R, 1, none⟩) hA4.blk.lt]; exact c1, by rw [hW.cell (p := ⟨bk, i, none⟩) hA4.kept.lt]; exact hvk⟩
            have HS16s : Hid (∀ W u, Below w4.heap.size w4 W → ((W.setCell ⟨bn, i, none⟩ u).cell? ⟨R, 0, none⟩ = some (.slice (some ⟨bn, 0, none⟩) n cn) ∧ (W.setCell ⟨bn, i, none⟩ u).cell? ⟨R, 1, none⟩ = some (.slice (some ⟨bk, 0, none⟩) n ck) ∧ (W.setCell ⟨bn, i, none⟩ u).cell? ⟨bk, i, none⟩ = some vK)) := Lib.hid fun W u hW => (by
              obtain ⟨q0, q1, q2⟩ := HS16.out W hW
              have hRb : R ≠ bn := by obtain ⟨vs, sp, q, _⟩ := hA4.new; exact hA4.blk.ne q (by decide)
              refine ⟨?_, ?_, ?_⟩
              · rw [World.cell?_of_block (w := W) (a := ⟨R, 0, none⟩) (Below.heap_setCell _ _ _ _ hRb)]; exact q0
              · rw [World.cell?_of_block (w := W) (a := ⟨R, 1, none⟩) (Below.heap_setCell _ _ _ _ hRb)]; exact q1
              · rw [World.cell?_of_block (w := W) (a := ⟨bk, i, none⟩) (Below.heap_setCell _ _ _ _ (fun e => HNE.out e.symm))]; exact q2)
            obtain ⟨vN, hvn, _⟩ := hA4.new.cell (i := i) (by rw [crT_len HKL.out (Nat.le_of_lt HIR.out)]; exact HIR.out)
            have HNW : Hid (∀ W, Below w4.heap.size w4 W → W.cell? ⟨bn, i, none⟩ = some vN ∧ W.frozen? ⟨bn, i, none⟩ = false) := Lib.hid fun W hW => ⟨by rw [hW.cell (p := ⟨bn, i, none⟩) hA4.new.lt]; exact hvn, (hA4.far hW).frzn i⟩
            have HA4 := Lib.hid hA4
            clear hA4 c0 c1 hvk hbk hvn
            refine wp_region_held_drew (S := (fun W => W.cell? ⟨R, 0, none⟩ = some (.slice (some ⟨bn, 0, none⟩) n cn) ∧ W.cell? ⟨R, 1, none⟩ = some (.slice (some ⟨bk, 0, none⟩) n ck) ∧ W.cell? ⟨bk, i, none⟩ = some vK)) (by kernel_rfl) ?_ (fun hHeld => ?_)
            · (try dsimp only); first | (refine HS16s.out _ _ ?_; (first | exact HB5.out | exact below_drew8 _ _ | exact Below.refl _ _); done) | (refine HS16.out _ ?_; (first | exact HB5.out | exact below_drew8 _ _ | exact Below.refl _ _); done)
            refine wpAnyH_take (i := 0) (oi := ⟨some 87, _, _, _, _, _⟩) (v := ?_) rfl (by kernel_rfl) (by kernel_rfl) (by kernel_rfl) (fun _ _ _ h => h) (Or.inl ⟨by rfl, ?_⟩) (by assumption) ?_; rotate_left
            · intro w hSw; (try dsimp only at hSw); go_simp; try with_reducible rfl
            try simp only [Act.put, setIfInBounds_toArray, set_cons_zero, set_cons_succ]
            refine wpAnyH_take (i := 1) (oi := ⟨some 88, _, _, _, _, _⟩) (v := ?_) rfl (by kernel_rfl) (by kernel_rfl) (by kernel_rfl) (fun _ _ _ h => h) (Or.inl ⟨by rfl, ?_⟩) (by assumption) ?_; rotate_left
            · intro w hSw; (try dsimp only at hSw); go_simp; try with_reducible rfl
            try simp only [Act.put, setIfInBounds_toArray, set_cons_zero, set_cons_succ]
            refine wpAnyH_take (i := 2) (oi := ⟨some 89, _, _, _, _, _⟩) (v := ?_) rfl (by kernel_rfl) (by kernel_rfl) (by kernel_rfl) (fun _ _ _ h => h) (Or.inl ⟨by rfl, ?_⟩) (by assumption) ?_; rotate_left
            · intro w hSw; (try dsimp only at hSw); go_simp; try with_reducible rfl
            try simp only [Act.put, setIfInBounds_toArray, set_cons_zero, set_cons_succ]
            refine wpAnyH_take (i := 3) (oi := ⟨some 90, _, _, _, _, _⟩) (v := ?_) rfl (by kernel_rfl) (by kernel_rfl) (by kernel_rfl) (fun _ _ _ h => h) (Or.inl ⟨by rfl, ?_⟩) (by assumption) ?_; rotate_left
            · intro w hSw; (try dsimp only at hSw); go_simp; try with_reducible rfl
            try simp only [Act.put, setIfInBounds_toArray, set_cons_zero, set_cons_succ]
            refine wpAnyH_take (i := 4) (oi := ⟨some 91, _, _, _, _, _⟩) (v := ?_) rfl (by kernel_rfl) (by kernel_rfl) (by kernel_rfl) (fun _ _ _ h => h) (Or.inl ⟨by rfl, ?_⟩) (by assumption) ?_; rotate_left
            · intro w hSw; (try dsimp only at hSw); go_simp; try with_reducible rfl
            try simp only [Act.put, setIfInBounds_toArray, set_cons_zero, set_cons_succ]
            refine wpAnyH_take (i := 5) (oi := ⟨some 92, _, _, _, _, _⟩) (v := ?_) rfl (by kernel_rfl) (by kernel_rfl) (by kernel_rfl) (fun _ _ _ h => h) (Or.inl ⟨by rfl, ?_⟩) (by assumption) ?_; rotate_left
            · intro w hSw; (try dsimp only at hSw); go_simp; try with_reducible rfl
            try simp only [Act.put, setIfInBounds_toArray, set_cons_zero, set_cons_succ]
            refine wpAnyH_take (i := 6) (oi := ⟨some 93, _, _, _, _, _⟩) (v := ?_) rfl (by kernel_rfl) (by kernel_rfl) (by kernel_rfl) (fun _ _ _ h => h) (Or.inl ⟨by rfl, ?_⟩) (by assumption) ?_; rotate_left
            · intro w hSw; (try dsimp only at hSw); go_simp; try with_reducible rfl
            try simp only [Act.put, setIfInBounds_toArray, set_cons_zero, set_cons_succ]
            refine wpAnyH_take (i := 7) (oi := ⟨some 94, _, _, _, _, _⟩) (v := ?_) rfl (by kernel_rfl) (by kernel_rfl) (by kernel_rfl) (fun _ _ _ h => h) (Or.inl ⟨by rfl, ?_⟩) (by assumption) ?_; rotate_left
            · intro w hSw; (try dsimp only at hSw); go_simp; try with_reducible rfl
            try simp only [Act.put, setIfInBounds_toArray, set_cons_zero, set_cons_succ]
            refine wpAnyH_take (i := 8) (oi := ⟨some 95, _, _, _, _, _⟩) (v := ?_) rfl (by kernel_rfl) (by kernel_rfl) (by kernel_rfl) (fun _ _ _ h => h) (Or.inl ⟨by rfl, ?_⟩) (by assumption) ?_; rotate_left
            · intro w hSw; (try dsimp only at hSw); go_simp; try with_reducible rfl
            try simp only [Act.put, setIfInBounds_toArray, set_cons_zero, set_cons_succ]
            refine wpAnyH_take (i := 9) (oi := ⟨some 96, _, _, _, _, _⟩) (v := ?_) rfl (by kernel_rfl) (by kernel_rfl) (by kernel_rfl) (fun _ _ _ h => h) (Or.inl ⟨by rfl, ?_⟩) (by assumption) ?_; rotate_left
            · intro w hSw; (try dsimp only at hSw); go_simp; try with_reducible rfl
            try simp only [Act.put, setIfInBounds_toArray, set_cons_zero, set_cons_succ]
            refine wpAnyH_take (i := 10) (oi := ⟨some 97, _, _, _, _, _⟩) (v := ?_) rfl (by kernel_rfl) (by kernel_rfl) (by kernel_rfl) (fun _ _ _ h => h) (Or.inl ⟨by rfl, ?_⟩) (by assumption) ?_; rotate_left
            · intro w hSw; (try dsimp only at hSw); go_simp; try with_reducible rfl
            try simp only [Act.put, setIfInBounds_toArray, set_cons_zero, set_cons_succ]
            refine wpAnyH_take (i := 11) (oi := ⟨some 98, _, _, _, _, _⟩) (v := ?_) rfl (by kernel_rfl) (by kernel_rfl) (by kernel_rfl) (fun _ _ _ h => h) (Or.inl ⟨by rfl, ?_⟩) (by assumption) ?_; rotate_left
            · intro w hSw; (try dsimp only at hSw); go_simp; try with_reducible rfl
            try simp only [Act.put, setIfInBounds_toArray, set_cons_zero, set_cons_succ]
            refine wpAnyH_ready (rs := [12]) (by kernel_rfl) (by simp) ?_
            refine AllReadyH.cons (o := ⟨some 99, _, _, _, _, _⟩) rfl (fun K hK => ?_) AllReadyH.nil
            go_simp
            refine (HCL.out _ (by (first | exact HB5.out | exact below_drew8 _ _ | exact Below.refl _ _))).mono ?_
            rintro e' w5 ⟨⟨v5, rfl, hv5⟩, hb5⟩
            have HV5 := Lib.hid hv5; have HB5 := Lib.hid hb5
            obtain ⟨g5, c5, sp5, rfl, _⟩ := hv5
            clear hb5
            go_wp2_with fail
            refine hK.out _ _ ?_ (fun hHeld => ?_)
            · (try dsimp only); first | (refine HS16s.out _ _ ?_; (first | exact HB5.out | exact below_drew8 _ _ | exact Below.refl _ _); done) | (refine HS16.out _ ?_; (first | exact HB5.out | exact below_drew8 _ _ | exact Below.refl _ _); done)
            clear hK K
            try simp only [Act.put, setIfInBounds_toArray, set_cons_zero, set_cons_succ]
            refine wpAnyH_take (i := 13) (oi := ⟨some 100, _, _, _, _, _⟩) (v := ?_) rfl (by kernel_rfl) (by kernel_rfl) (by kernel_rfl) (fun _ _ _ h => h) (Or.inl ⟨by rfl, ?_⟩) (by assumption) ?_; rotate_left
            · intro w hSw; (try dsimp only at hSw); go_simp; try with_reducible rfl
            try simp only [Act.put, setIfInBounds_toArray, set_cons_zero, set_cons_succ]
            refine wpAnyH_ready (rs := [14]) (by kernel_rfl) (by simp) ?_
            refine AllReadyH.cons (o := ⟨none, _, _, _, _, _⟩) rfl (fun K hK => ?_) AllReadyH.nil
            obtain ⟨cn5, fn5⟩ := HNW.out _ HB5.out
            go_simp
            refine hK.out _ _ ?_ (fun hHeld => ?_)
            · (try dsimp only); first | (refine HS16s.out _ _ ?_; (first | exact HB5.out | exact below_drew8 _ _ | exact Below.refl _ _); done) | (refine HS16.out _ ?_; (first | exact HB5.out | exact below_drew8 _ _ | exact Below.refl _ _); done)
            clear hK K
            try simp only [Act.put]
            refine wpAnyH_done (by kernel_rfl) ?_ _
            go_wp2_with fail
            go_roundw
            case rel => exact ⟨i + 1, by omega, by go_num, by rw [HF.out] <;> go_num, crT_new (HA4.out.far HB5.out) HKL.out HIR.out HX.out HV5.out HSX.out, (HK4.out.trans (KeepL.of_below HB5.out)).trans ((KeepL.set _ _ _ _).sub (by simp [fpR]))⟩
            case measure => simp [intOf]; omega
          refine AllReadyH.cons (o := ⟨some 74, _, _, _, _, _⟩) rfl (fun K hK => ?_) AllReadyH.nil
          obtain ⟨ck3, fk3⟩ := HVK.out _ (by (first | exact HB2.out | exact HB1.out | exact below_drew8 _ _ | exact Below.refl _ _) : Below wa.heap.size wa (World.drew wa))
          go_simp
          refine hK.out _ _ ?_ (fun hHeld => ?_)
          · (try dsimp only); first | (refine HS13s.out _ _ ?_; (first | exact HB2.out | exact HB1.out | exact below_drew8 _ _ | exact Below.refl _ _); done) | (refine HS13.out _ ?_; (first | exact HB2.out | exact HB1.out | exact below_drew8 _ _ | exact Below.refl _ _); done)
          clear hK K
          try simp only [Act.put, setIfInBounds_toArray, set_cons_zero, set_cons_succ]
          refine wpAnyH_take (i := 23) (oi := ⟨some 76, _, _, _, _, _⟩) (v := ?_) rfl (by kernel_rfl) (by kernel_rfl) (by kernel_rfl) (fun _ _ _ h => h) (Or.inl ⟨by rfl, ?_⟩) (by assumption) ?_; rotate_left
          · intro w hSw; (try dsimp only at hSw); go_simp; try with_reducible rfl
          try simp only [Act.put, setIfInBounds_toArray, set_cons_zero, set_cons_succ]
          refine wpAnyH_ready (rs := [14]) (by kernel_rfl) (by simp) ?_
          refine AllReadyH.cons (o := ⟨some 67, _, _, _, _, _⟩) rfl (fun K hK => ?_) AllReadyH.nil
          go_simp
          refine (HCL.out _ (by (first | exact HB2.out | exact HB1.out | exact below_drew8 _ _ | exact Below.refl _ _))).mono ?_
          rintro e' w1 ⟨A', c', rfl, ho1, hb1⟩
          have HO1 := Lib.hid ho1; have HB1 := Lib.hid hb1
          clear ho1 hb1
          go_wp2_with fail
          refine hK.out _ _ ?_ (fun hHeld => ?_)
          · (try dsimp only); first | (refine HS13s.out _ _ ?_; (first | exact HB2.out | exact HB1.out | exact below_drew8 _ _ | exact Below.refl _ _); done) | (refine HS13.out _ ?_; (first | exact HB2.out | exact HB1.out | exact below_drew8 _ _ | exact Below.refl _ _); done)
          clear hK K
          try simp only [Act.put, setIfInBounds_toArray, set_cons_zero, set_cons_succ]
          refine wpAnyH_ready (rs := [24]) (by kernel_rfl) (by simp) ?_
          refine AllReadyH.cons (o := ⟨some 77, _, _, _, _, _⟩) rfl (fun K hK => ?_) AllReadyH.nil
          refine step_put elB_rb (.tmp 67) (.tmp 76) rfl rfl wa.heap.size kk _ (by rfl) HO1.out (by rfl) (HR3.out.below HB1.out) (by intro u hu; obtain ⟨_, _, rfl⟩ := List.mem_map.1 hu; rfl) (by have := HK6.out; omega) (by decide) HB1.out.size ?_
          intro v2 w2 ho2 hb2 _
          have HB2 := Lib.hid (HB1.out.trans (hb2.mono (Nat.le_refl _)))
          have HV2 : Hid (BrV w2 X v2) := Lib.hid (own_br (by rw [show kk + (64 - kk) = 64 by have := HK6.out; omega, ← List.map_append, ← HXE.out] at ho2; exact ho2))
          obtain ⟨g2, c2, sp2, rfl, _⟩ := HV2.out
          clear ho2 hb2
          refine hK.out _ _ ?_ (fun hHeld => ?_)
          · (try dsimp only); first | (refine HS13s.out _ _ ?_; (first | exact HB2.out | exact HB1.out | exact below_drew8 _ _ | exact Below.refl _ _); done) | (refine HS13.out _ ?_; (first | exact HB2.out | exact HB1.out | exact below_drew8 _ _ | exact Below.refl _ _); done)
          clear hK K
          try simp only [Act.put, setIfInBounds_toArray, set_cons_zero, set_cons_succ]
          refine wpAnyH_take (i := 25) (oi := ⟨some 78, _, _, _, _, _⟩) (v := ?_) rfl (by kernel_rfl) (by kernel_rfl) (by kernel_rfl) (fun _ _ _ h => h) (Or.inl ⟨by rfl, ?_⟩) (by assumption) ?_; rotate_left
          · intro w hSw; (try dsimp only at hSw); go_simp; try with_reducible rfl
          try simp only [Act.put, setIfInBounds_toArray, set_cons_zero, set_cons_succ]
          refine wpAnyH_ready (rs := [26]) (by kernel_rfl) (by simp) ?_
          refine AllReadyH.cons (o := ⟨none, _, _, _, _, _⟩) rfl (fun K hK => ?_) AllReadyH.nil
          obtain ⟨ck2, fk2⟩ := HVK.out _ HB2.out
          go_simp
          refine hK.out _ _ ?_ (fun hHeld => ?_)
          · (try dsimp only); first | (refine HS13s.out _ _ ?_; (first | exact HB2.out | exact HB1.out | exact below_drew8 _ _ | exact Below.refl _ _); done) | (refine HS13.out _ ?_; (first | exact HB2.out | exact HB1.out | exact below_drew8 _ _ | exact Below.refl _ _); done)
          clear hK K
          try simp only [Act.put]
          refine wpAnyH_done (by kernel_rfl) ?_ _
          have HA3a := crT_kept (HA.out.far HB2.out) HOK.out HKL.out HIR.out HX.out HV2.out (HKS.out X (List.mem_of_getElem? HX.out))
          have HK3a : KeepL (fpR R bn bk bf) w (w2.setCell ⟨bk, i, none⟩ (.slice (some ⟨g2, 0, none⟩) 64 c2)) := (HK.out.trans (KeepL.of_below HB2.out)).trans ((KeepL.set _ _ _ _).sub (by simp [fpR]))
          obtain ⟨w3, hw3⟩ : ∃ z, z = w2.setCell ⟨bk, i, none⟩ (.slice (some ⟨g2, 0, none⟩) 64 c2) := ⟨_, rfl⟩
          rw [← hw3] at HA3a HK3a ⊢
          have HA3 := Lib.hid HA3a; have HK3 := Lib.hid HK3a
          clear HA3a HK3a hw3
          obtain ⟨c0, c1, c2, c3, c4, c5, c6, _⟩ := HA3.out.cR
          rw [crT_len HKL.out (Nat.le_of_lt HIR.out), ← HNN.out] at c0 c1 c2
          obtain ⟨vF, hcf, ffr⟩ : ∃ vF, w3.cell? ⟨bf, i, none⟩ = some vF ∧ w3.frozen? ⟨bf, i, none⟩ = false := ⟨_, HA3.out.fcell (i := i) (by rw [crT_len HKL.out (Nat.le_of_lt HIR.out)]; exact HIR.out), HA3.out.frzf i⟩
          go_wp2_with fail
          have hA4 := crT_fr HA3.out HOK.out HKL.out HIR.out (Nat.le_of_lt HIR.out)
          obtain ⟨w4, hw4⟩ : ∃ z, z = w3.setCell ⟨bf, i, none⟩ (.bool false) := ⟨_, rfl⟩
          rw [← hw4] at hA4 ⊢
          have HK4 : Hid (KeepL (fpR R bn bk bf) w w4) := Lib.hid (by rw [hw4]; exact HK3.out.trans ((KeepL.set _ _ _ _).sub (by simp [fpR])))
          clear hw4 c0 c1 c2 c3 c4 c5 c6 hcf ffr
          obtain ⟨vK, hvk, hbk⟩ := hA4.kept.cell (i := i) (by show i < (mix K r.kept (i + 1)).length; rw [mix_length _ _ (by rw [HOK.out.kl]; exact HKL.out) (by rw [HOK.out.kl]; exact HIR.out), HOK.out.kl]; exact HIR.out)
          rw [show (crT r K i (i + 1) (i + 1)).kept.getD i [] = X from mix_getS _ _ (by rw [HOK.out.kl]; exact HKL.out) (by rw [HOK.out.kl]; exact HIR.out) _ HX.out] at hbk
          have HSX : Hid (SecOK X) := Lib.hid (HKS.out X (List.mem_of_getElem? HX.out))
          have HCL : Hid (∀ W, Below w4.heap.size w4 W → Calls Tryz.prog 84 #[vK] W fun e w' => (∃ v', e = .returned v' ∧ BrV w' X v') ∧ Below w4.heap.size w4 w') := Lib.hid fun W hW => (rclone_sec HSX.out (hbk.far hW)).mono fun e w' ⟨q1, q2⟩ => ⟨q1, hW.trans (q2.mono hW.size)⟩
          obtain ⟨c0, c1, _⟩ := hA4.cR
          rw [crT_len HKL.out (Nat.le_of_lt HIR.out), ← HNN.out] at c0 c1
          have HS16 : Hid (∀ W, Below w4.heap.size w4 W → (W.cell? ⟨R, 0, none⟩ = some (.slice (some ⟨bn, 0, none⟩) n cn) ∧ W.cell? ⟨R, 1, none⟩ = some (.slice (some ⟨bk, 0, none⟩) n ck) ∧ W.cell? ⟨bk, i, none⟩ = some vK)) := Lib.hid fun W hW => ⟨by rw [hW.cell (p := ⟨R, 0, none⟩) hA4.blk.lt]; exact c0, by rw [hW.cell (p := ⟨R, 1, none⟩) hA4.blk.lt]; exact c1, by rw [hW.cell (p := ⟨bk, i, none⟩) hA4.kept.lt]; exact hvk⟩
          have HS16s : Hid (∀ W u, Below w4.heap.size w4 W → ((W.setCell ⟨bn, i, none⟩ u).cell? ⟨R, 0, none⟩ = some (.slice (some ⟨bn, 0, none⟩) n cn) ∧ (W.setCell ⟨bn, i, none⟩ u).cell? ⟨R, 1, none⟩ = some (.slice (some ⟨bk, 0, none⟩) n ck) ∧ (W.setCell ⟨bn, i, none⟩ u).cell? ⟨bk, i, none⟩ = some vK)) := Lib.hid fun W u hW => (by
            obtain ⟨q0, q1, q2⟩ := HS16.out W hW
            have hRb : R ≠ bn := by obtain ⟨vs, sp, q, _⟩ := hA4.new; exact hA4.blk.ne q (by decide)
            refine ⟨?_, ?_, ?_⟩
            · rw [World.cell?_of_block (w := W) (a := ⟨R, 0, none⟩) (Below.heap_setCell _ _ _ _ hRb)]; exact q0
            · rw [World.cell?_of_block (w := W) (a := ⟨R, 1, none⟩) (Below.heap_setCell _ _ _ _ hRb)]; exact q1
            · rw [World.cell?_of_block (w := W) (a := ⟨bk, i, none⟩) (Below.heap_setCell _ _ _ _ (fun e => HNE.out e.symm))]; exact q2)
          obtain ⟨vN, hvn, _⟩ := hA4.new.cell (i := i) (by rw [crT_len HKL.out (Nat.le_of_lt HIR.out)]; exact HIR.out)
          have HNW : Hid (∀ W, Below w4.heap.size w4 W → W.cell? ⟨bn, i, none⟩ = some vN ∧ W.frozen? ⟨bn, i, none⟩ = false) := Lib.hid fun W hW => ⟨by rw [hW.cell (p := ⟨bn, i, none⟩) hA4.new.lt]; exact hvn, (hA4.far hW).frzn i⟩
          have HA4 := Lib.hid hA4
          clear hA4 c0 c1 hvk hbk hvn
          refine wp_region_held_drew (S := (fun W => W.cell? ⟨R, 0, none⟩ = some (.slice (some ⟨bn, 0, none⟩) n cn) ∧ W.cell? ⟨R, 1, none⟩ = some (.slice (some ⟨bk, 0, none⟩) n ck) ∧ W.cell? ⟨bk, i, none⟩ = some vK)) (by kernel_rfl) ?_ (fun hHeld => ?_)
          · (try dsimp only); first | (refine HS16s.out _ _ ?_; (first | exact HB5.out | exact below_drew8 _ _ | exact Below.refl _ _); done) | (refine HS16.out _ ?_; (first | exact HB5.out | exact below_drew8 _ _ | exact Below.refl _ _); done)
          refine wpAnyH_take (i := 0) (oi := ⟨some 87, _, _, _, _, _⟩) (v := ?_) rfl (by kernel_rfl) (by kernel_rfl) (by kernel_rfl) (fun _ _ _ h => h) (Or.inl ⟨by rfl, ?_⟩) (by assumption) ?_; rotate_left
          · intro w hSw; (try dsimp only at hSw); go_simp; try with_reducible rfl
          try simp only [Act.put, setIfInBounds_toArray, set_cons_zero, set_cons_succ]
          refine wpAnyH_take (i := 1) (oi := ⟨some 88, _, _, _, _, _⟩) (v := ?_) rfl (by kernel_rfl) (by kernel_rfl) (by kernel_rfl) (fun _ _ _ h => h) (Or.inl ⟨by rfl, ?_⟩) (by assumption) ?_; rotate_left
          · intro w hSw; (try dsimp only at hSw); go_simp; try with_reducible rfl
          try simp only [Act.put, setIfInBounds_toArray, set_cons_zero, set_cons_succ]
          refine wpAnyH_take (i := 2) (oi := ⟨some 89, _, _, _, _, _⟩) (v := ?_) rfl (by kernel_rfl) (by kernel_rfl) (by kernel_rfl) (fun _ _ _ h => h) (Or.inl ⟨by rfl, ?_⟩) (by assumption) ?_; rotate_left
          · intro w hSw; (try dsimp only at hSw); go_simp; try with_reducible rfl
          try simp only [Act.put, setIfInBounds_toArray, set_cons_zero, set_cons_succ]
          refine wpAnyH_take (i := 3) (oi := ⟨some 90, _, _, _, _, _⟩) (v := ?_) rfl (by kernel_rfl) (by kernel_rfl) (by kernel_rfl) (fun _ _ _ h => h) (Or.inl ⟨by rfl, ?_⟩) (by assumption) ?_; rotate_left
          · intro w hSw; (try dsimp only at hSw); go_simp; try with_reducible rfl
          try simp only [Act.put, setIfInBounds_toArray, set_cons_zero, set_cons_succ]
          refine wpAnyH_take (i := 4) (oi := ⟨some 91, _, _, _, _, _⟩) (v := ?_) rfl (by kernel_rfl) (by kernel_rfl) (by kernel_rfl) (fun _ _ _ h => h) (Or.inl ⟨by rfl, ?_⟩) (by assumption) ?_; rotate_left
          · intro w hSw; (try dsimp only at hSw); go_simp; try with_reducible rfl
          try simp only [Act.put, setIfInBounds_toArray, set_cons_zero, set_cons_succ]
          refine wpAnyH_take (i := 5) (oi := ⟨some 92, _, _, _, _, _⟩) (v := ?_) rfl (by kernel_rfl) (by kernel_rfl) (by kernel_rfl) (fun _ _ _ h => h) (Or.inl ⟨by rfl, ?_⟩) (by assumption) ?_; rotate_left
          · intro w hSw; (try dsimp only at hSw); go_simp; try with_reducible rfl
          try simp only [Act.put, setIfInBounds_toArray, set_cons_zero, set_cons_succ]
          refine wpAnyH_take (i := 6) (oi := ⟨some 93, _, _, _, _, _⟩) (v := ?_) rfl (by kernel_rfl) (by kernel_rfl) (by kernel_rfl) (fun _ _ _ h => h) (Or.inl ⟨by rfl, ?_⟩) (by assumption) ?_; rotate_left
          · intro w hSw; (try dsimp only at hSw); go_simp; try with_reducible rfl
          try simp only [Act.put, setIfInBounds_toArray, set_cons_zero, set_cons_succ]
          refine wpAnyH_take (i := 7) (oi := ⟨some 94, _, _, _, _, _⟩) (v := ?_) rfl (by kernel_rfl) (by kernel_rfl) (by kernel_rfl) (fun _ _ _ h => h) (Or.inl ⟨by rfl, ?_⟩) (by assumption) ?_; rotate_left
          · intro w hSw; (try dsimp only at hSw); go_simp; try with_reducible rfl
          try simp only [Act.put, setIfInBounds_toArray, set_cons_zero, set_cons_succ]
          refine wpAnyH_take (i := 8) (oi := ⟨some 95, _, _, _, _, _⟩) (v := ?_) rfl (by kernel_rfl) (by kernel_rfl) (by kernel_rfl) (fun _ _ _ h => h) (Or.inl ⟨by rfl, ?_⟩) (by assumption) ?_; rotate_left
          · intro w hSw; (try dsimp only at hSw); go_simp; try with_reducible rfl
          try simp only [Act.put, setIfInBounds_toArray, set_cons_zero, set_cons_succ]
          refine wpAnyH_take (i := 9) (oi := ⟨some 96, _, _, _, _, _⟩) (v := ?_) rfl (by kernel_rfl) (by kernel_rfl) (by kernel_rfl) (fun _ _ _ h => h) (Or.inl ⟨by rfl, ?_⟩) (by assumption) ?_; rotate_left
          · intro w hSw; (try dsimp only at hSw); go_simp; try with_reducible rfl
          try simp only [Act.put, setIfInBounds_toArray, set_cons_zero, set_cons_succ]
          refine wpAnyH_take (i := 10) (oi := ⟨some 97, _, _, _, _, _⟩) (v := ?_) rfl (by kernel_rfl) (by kernel_rfl) (by kernel_rfl) (fun _ _ _ h => h) (Or.inl ⟨by rfl, ?_⟩) (by assumption) ?_; rotate_left
          · intro w hSw; (try dsimp only at hSw); go_simp; try with_reducible rfl
          try simp only [Act.put, setIfInBounds_toArray, set_cons_zero, set_cons_succ]
          refine wpAnyH_take (i := 11) (oi := ⟨some 98, _, _, _, _, _⟩) (v := ?_) rfl (by kernel_rfl) (by kernel_rfl) (by kernel_rfl) (fun _ _ _ h => h) (Or.inl ⟨by rfl, ?_⟩) (by assumption) ?_; rotate_left
          · intro w hSw; (try dsimp only at hSw); go_simp; try with_reducible rfl
          try simp only [Act.put, setIfInBounds_toArray, set_cons_zero, set_cons_succ]
          refine wpAnyH_ready (rs := [12]) (by kernel_rfl) (by simp) ?_
          refine AllReadyH.cons (o := ⟨some 99, _, _, _, _, _⟩) rfl (fun K hK => ?_) AllReadyH.nil
          go_simp
          refine (HCL.out _ (by (first | exact HB5.out | exact below_drew8 _ _ | exact Below.refl _ _))).mono ?_
          rintro e' w5 ⟨⟨v5, rfl, hv5⟩, hb5⟩
          have HV5 := Lib.hid hv5; have HB5 := Lib.hid hb5
          obtain ⟨g5, c5, sp5, rfl, _⟩ := hv5
          clear hb5
          go_wp2_with fail
          refine hK.out _ _ ?_ (fun hHeld => ?_)
          · (try dsimp only); first | (refine HS16s.out _ _ ?_; (first | exact HB5.out | exact below_drew8 _ _ | exact Below.refl _ _); done) | (refine HS16.out _ ?_; (first | exact HB5.out | exact below_drew8 _ _ | exact Below.refl _ _); done)
          clear hK K
          try simp only [Act.put, setIfInBounds_toArray, set_cons_zero, set_cons_succ]
          refine wpAnyH_take (i := 13) (oi := ⟨some 100, _, _, _, _, _⟩) (v := ?_) rfl (by kernel_rfl) (by kernel_rfl) (by kernel_rfl) (fun _ _ _ h => h) (Or.inl ⟨by rfl, ?_⟩) (by assumption) ?_; rotate_left
          · intro w hSw; (try dsimp only at hSw); go_simp; try with_reducible rfl
          try simp only [Act.put, setIfInBounds_toArray, set_cons_zero, set_cons_succ]
          refine wpAnyH_ready (rs := [14]) (by kernel_rfl) (by simp) ?_
          refine AllReadyH.cons (o := ⟨none, _, _, _, _, _⟩) rfl (fun K hK => ?_) AllReadyH.nil
          obtain ⟨cn5, fn5⟩ := HNW.out _ HB5.out
          go_simp
          refine hK.out _ _ ?_ (fun hHeld => ?_)
          · (try dsimp only); first | (refine HS16s.out _ _ ?_; (first | exact HB5.out | exact below_drew8 _ _ | exact Below.refl _ _); done) | (refine HS16.out _ ?_; (first | exact HB5.out | exact below_drew8 _ _ | exact Below.refl _ _); done)
          clear hK K
          try simp only [Act.put]
          refine wpAnyH_done (by kernel_rfl) ?_ _
          go_wp2_with fail
          go_roundw
          case rel => exact ⟨i + 1, by omega, by go_num, by rw [HF.out] <;> go_num, crT_new (HA4.out.far HB5.out) HKL.out HIR.out HX.out HV5.out HSX.out, (HK4.out.trans (KeepL.of_below HB5.out)).trans ((KeepL.set _ _ _ _).sub (by simp [fpR]))⟩
          case measure => simp [intOf]; omega
          -- REGION>
    · have hni : i = n := by omega
      have f3 := hA.frz 3; have f4 := hA.frz 4; have f5 := hA.frz 5; have f6 := hA.frz 6
      obtain ⟨z, hz⟩ : ∃ z, z = (crT r K i i i).cr := ⟨_, rfl⟩
      rw [← hz] at c6
      have HZ := Lib.hid hz
      have hnn2 : ¬ (i : Int) < (n : Int) := by omega
      have HNI : Hid (i = n) := Lib.hid hni
      clear hA hK hz hni hlt
      go_wp2_with fail
      go_ret
      refine ⟨rfl, ⟨HD.out.crash k, _, _, ?_, rk_end HA.out _⟩, (((HK.out.trans ((KeepL.set _ _ _ _).sub (by simp [fpR]))).trans ((KeepL.set _ _ _ _).sub (by simp [fpR]))).trans ((KeepL.set _ _ _ _).sub (by simp [fpR]))).trans ((KeepL.set _ _ _ _).sub (by simp [fpR]))⟩
      rw [HNI.out, ← HN2.out, HKD.out]
      exact crash_is HIS.out HD.out k [] _
theorem rcrash_any (h : RdAt w R d bn bk bf cn ck cf) : Calls Tryz.prog 89 #[.pointer (some ⟨R, 0, none⟩)] w (RcP R bn bk bf cn ck cf d.tick.1 d.tick.2 w) := by
  cases hp : d.plan with
  | none => exact rcrash_none h hp
  | some q =>
    obtain ⟨a, k⟩ := q
    cases a with
    | zero => exact rcrash_zero h k hp
    | succ a => exact rcrash_some h a k hp
end
end Go.Proofs.YtdgmjedkhjeadaaGreat
namespace Go.Proofs.YtdgmjedkhjeadaaGreat
open List (setIfInBounds_toArray set_cons_zero set_cons_succ)
open Go.RowKit
set_option linter.unusedVariables false
set_option linter.unusedSimpArgs false
section
variable {w : World} {R : Nat} {d : Dk} {bn bk bf cn ck cf : Nat} {r : Rk} {kv : Value}
theorem RdAt.age (h : RdAt w R d bn bk bf cn ck cf) (z : Int) : RdAt w R { d with age := z } bn bk bf cn ck cf := by
  obtain ⟨⟨a1, a2, a3, a4, a5, a6⟩, r, kv, ⟨q1, q2, q3, q4, q5⟩, h2⟩ := h
  exact ⟨⟨a1, a2, a3, a4, a5, a6⟩, r, kv, ⟨q1, q2, q3, q4, q5⟩, h2⟩
theorem RdMut.trans {w1 w2 : World} {d' : Dk} (h : KeepL (fpR R bn bk bf) w w1) (k : RdMut w1 w2 R bn bk bf cn ck cf d') : RdMut w w2 R bn bk bf cn ck cf d' := ⟨k.1, h.trans k.2⟩
theorem RdMut.refl (h : RdAt w R d bn bk bf cn ck cf) : RdMut w w R bn bk bf cn ck cf d := ⟨h, KeepL.refl _ _⟩
theorem put_is (h : RkIs r d) (hd : DkOK d) {i : Nat} (hi : i < d.dur.length) (s : Sec) : RkIs { r with new := r.new.set i s, fresh := r.fresh.set i true } { d with cch := d.cch.set i (some s) } := by
  refine ⟨?_, h.kept, ?_, h.plan, h.down⟩
  · show r.new.set i s = (List.range d.dur.length).map _
    apply List.ext_getElem?
    intro j
    rw [List.getElem?_set, h.new, List.getElem?_map]
    by_cases e : i = j
    · subst e
      rw [if_pos rfl, if_pos (by simp; exact hi), List.getElem?_map, List.getElem?_range hi]
      simp only [Option.map_some, Dk.newest, List.getD_eq_getElem?_getD]
      rw [List.getElem?_set_self (by rw [hd.len]; exact hi)]
      rfl
    · rw [if_neg e, List.getElem?_map]
      by_cases hj : j < d.dur.length
      · rw [List.getElem?_range hj]
        simp only [Option.map_some, Dk.newest, List.getD_eq_getElem?_getD]
        rw [List.getElem?_set_ne e]
      · rw [List.getElem?_eq_none (by simp; omega)]; rfl
  · show r.fresh.set i true = (d.cch.set i (some s)).map Option.isSome
    rw [h.fresh, List.map_set]; rfl
/-- A call that answers a number, and changes the disk. -/
def RdRes (R bn bk bf cn ck cf : Nat) (r : Int × Dk) (w : World) (e : Ending) (w' : World) : Prop := e = .returned (.int .i64 r.1) ∧ RdMut w w' R bn bk bf cn ck cf r.2
set_option maxRecDepth 100000 in
theorem rrestart_any (h : RdAt w R d bn bk bf cn ck cf) : Calls Tryz.prog 57 #[.pointer (some ⟨R, 0, none⟩)] w (RdRes R bn bk bf cn ck cf d.restart w) := by
  have H := Lib.hid h
  obtain ⟨h0, r, kv, h1, h2⟩ := h
  obtain ⟨_, _, _, _, _, c5, _⟩ := h2.cR
  have f5 := h2.frz 5
  rw [h1.down] at c5
  unfold Dk.restart
  have HM : Hid (RdMut w (w.setCell ⟨R, 5, none⟩ (.bool false)) R bn bk bf cn ck cf { d with down := false }) := Lib.hid (by
    obtain ⟨q1, q2, q3, q4, q5⟩ := h1
    obtain ⟨o1, o2, o3, o4, o5, o6, o7, o8⟩ := h2.ok
    obtain ⟨a1, a2, a3, a4, a5, a6⟩ := h0
    exact ⟨⟨⟨a1, a2, a3, a4, a5, a6⟩, { r with down := false }, kv, ⟨q1, q2, q3, q4, rfl⟩, h2.field 5 _ _ kv ⟨o1, o2, o3, o4, o5, o6, o7, o8⟩ rfl rfl rfl h2.keep rfl⟩, (KeepL.set _ _ _ _).sub (by simp [fpR])⟩)
  clear h0 h1 h2
  cases hd : d.down with
  | true =>
    rw [hd] at c5
    go_enter Tryz.func57, Tryz.ntmps57
    go_wp2_with fail
    go_ret
    exact ⟨rfl, HM.out⟩
  | false =>
    rw [hd] at c5
    go_enter Tryz.func57, Tryz.ntmps57
    go_wp2_with fail
    go_ret
    exact ⟨rfl, .refl H.out⟩
def RpP (R bn bk bf cn ck cf : Nat) (d : Dk) (i : Nat) (s : Sec) (w : World) (e : Ending) (w' : World) : Prop := (∃ z : Int, z = (if (d.put i s).1 = true then 13 else 0) ∧ e = .returned (.int .i64 z)) ∧ RdMut w w' R bn bk bf cn ck cf (d.put i s).2
set_option maxRecDepth 100000 in
theorem rput_any (h : RdAt w R d bn bk bf cn ck cf) {i : Nat} (hi : i < d.dur.length) {s : Sec} (hs : SecOK s) (A : Option Addr) (c : Nat) (hr : Rd w w.heap.size 1 A 64 (secC s)) :
    Calls Tryz.prog 88 #[.pointer (some ⟨R, 0, none⟩), .int .i64 (i : Int), .slice A 64 c] w (RpP R bn bk bf cn ck cf d i s w) := by
  have HOKP := Lib.hid (h.1.put i hs)
  obtain ⟨h0, r, kv, h1, h2⟩ := h
  have hn := (h1.ok h0).1
  have HPI := Lib.hid (put_is h1 h0 hi s)
  have hok : DkOK { d with cch := d.cch.set i (some s) } := ⟨h0.n2, h0.n256, by simpa using h0.len, h0.dur, fun x hx => by
    rcases List.mem_or_eq_of_mem_set hx with hx | hx
    · exact h0.cch _ hx
    · cases hx; exact hs, h0.keep⟩
  have HOK := Lib.hid hok
  have HA := Lib.hid h2
  have HS := Lib.hid hs
  have hir : i < r.new.length := by omega
  have HIR := Lib.hid hir
  obtain ⟨n, hnn⟩ : ∃ n, n = r.new.length := ⟨_, rfl⟩
  obtain ⟨c0, _⟩ := h2.cR
  rw [← hnn] at c0
  have HNN := Lib.hid hnn
  have hii : 0 ≤ (i : Int) ∧ (i : Int) < (n : Int) := by omega
  have HCL : Hid (∀ W, Below w.heap.size w W → Calls Tryz.prog 84 #[.slice A 64 c] W fun e w' => (∃ v', e = .returned v' ∧ BrV w' s v') ∧ Below w.heap.size w w') := Lib.hid fun W hW => (rclone_any A 64 c s W (by decide) ((hr.below hW).mono hW.size)).mono fun e w' ⟨A', c', q1, q2, q3, q4⟩ => ⟨⟨_, q1, own_br q3⟩, hW.trans (q4.mono hW.size)⟩
  have HS1 : Hid (∀ W, Below w.heap.size w W → W.cell? ⟨R, 0, none⟩ = some (.slice (some ⟨bn, 0, none⟩) n cn)) := Lib.hid fun W hW => by rw [hW.cell (p := ⟨R, 0, none⟩) h2.blk.lt]; exact c0
  have HS1s : Hid (∀ W u, Below w.heap.size w W → (W.setCell ⟨bn, i, none⟩ u).cell? ⟨R, 0, none⟩ = some (.slice (some ⟨bn, 0, none⟩) n cn)) := Lib.hid fun W u hW => by
    have hRb : R ≠ bn := by obtain ⟨vs, sp, q, _⟩ := h2.new; exact h2.blk.ne q (by decide)
    rw [World.cell?_of_block (w := W) (a := ⟨R, 0, none⟩) (Below.heap_setCell _ _ _ _ hRb)]
    exact HS1.out W hW
  obtain ⟨vN, hvn, _⟩ := h2.new.cell hir
  have HNW : Hid (∀ W, Below w.heap.size w W → W.cell? ⟨bn, i, none⟩ = some vN ∧ W.frozen? ⟨bn, i, none⟩ = false) := Lib.hid fun W hW => ⟨by rw [hW.cell (p := ⟨bn, i, none⟩) h2.new.lt]; exact hvn, (h2.far hW).frzn i⟩
  clear h0 h1 h2 hn hok hir hnn c0 hvn hr hs
  go_enter Tryz.func88, Tryz.ntmps88
  go_wp2_with fail
  -- <REGION put1
  refine wp_region_held_drew (S := (fun W => W.cell? ⟨R, 0, none⟩ = some (.slice (some ⟨bn, 0, none⟩) n cn))) (by kernel_rfl) ?_ (fun hHeld => ?_)
  · (try dsimp only); first | (refine HS1s.out _ _ ?_; (first | exact HB1.out | exact below_drew8 _ _ | exact Below.refl _ _); done) | (refine HS1.out _ ?_; (first | exact HB1.out | exact below_drew8 _ _ | exact Below.refl _ _); done)
  refine wpAnyH_take (i := 0) (oi := ⟨some 7, _, _, _, _, _⟩) (v := ?_) rfl (by kernel_rfl) (by kernel_rfl) (by kernel_rfl) (fun _ _ _ h => h) (Or.inl ⟨by rfl, ?_⟩) (by assumption) ?_; rotate_left
  · intro w hSw; (try dsimp only at hSw); go_simp; try with_reducible rfl
  try simp only [Act.put, setIfInBounds_toArray, set_cons_zero, set_cons_succ]
  refine wpAnyH_take (i := 1) (oi := ⟨some 8, _, _, _, _, _⟩) (v := ?_) rfl (by kernel_rfl) (by kernel_rfl) (by kernel_rfl) (fun _ _ _ h => h) (Or.inl ⟨by rfl, ?_⟩) (by assumption) ?_; rotate_left
  · intro w hSw; (try dsimp only at hSw); go_simp; try with_reducible rfl
  try simp only [Act.put, setIfInBounds_toArray, set_cons_zero, set_cons_succ]
  refine wpAnyH_take (i := 2) (oi := ⟨some 9, _, _, _, _, _⟩) (v := ?_) rfl (by kernel_rfl) (by kernel_rfl) (by kernel_rfl) (fun _ _ _ h => h) (Or.inl ⟨by rfl, ?_⟩) (by assumption) ?_; rotate_left
  · intro w hSw; (try dsimp only at hSw); go_simp; try with_reducible rfl
  try simp only [Act.put, setIfInBounds_toArray, set_cons_zero, set_cons_succ]
  refine wpAnyH_take (i := 3) (oi := ⟨some 10, _, _, _, _, _⟩) (v := ?_) rfl (by kernel_rfl) (by kernel_rfl) (by kernel_rfl) (fun _ _ _ h => h) (Or.inl ⟨by rfl, ?_⟩) (by assumption) ?_; rotate_left
  · intro w hSw; (try dsimp only at hSw); go_simp; try with_reducible rfl
  try simp only [Act.put, setIfInBounds_toArray, set_cons_zero, set_cons_succ]
  refine wpAnyH_take (i := 4) (oi := ⟨some 11, _, _, _, _, _⟩) (v := ?_) rfl (by kernel_rfl) (by kernel_rfl) (by kernel_rfl) (fun _ _ _ h => h) (Or.inl ⟨by rfl, ?_⟩) (by assumption) ?_; rotate_left
  · intro w hSw; (try dsimp only at hSw); go_simp; try with_reducible rfl
  try simp only [Act.put, setIfInBounds_toArray, set_cons_zero, set_cons_succ]
  refine wpAnyH_take (i := 5) (oi := ⟨some 12, _, _, _, _, _⟩) (v := ?_) rfl (by kernel_rfl) (by kernel_rfl) (by kernel_rfl) (fun _ _ _ h => h) (Or.inl ⟨by rfl, ?_⟩) (by assumption) ?_; rotate_left
  · intro w hSw; (try dsimp only at hSw); go_simp; try with_reducible rfl
  try simp only [Act.put, setIfInBounds_toArray, set_cons_zero, set_cons_succ]
  refine wpAnyH_ready (rs := [6]) (by kernel_rfl) (by simp) ?_
  refine AllReadyH.cons (o := ⟨some 13, _, _, _, _, _⟩) rfl (fun K hK => ?_) AllReadyH.nil
  go_simp
  refine (HCL.out _ (by (first | exact HB1.out | exact below_drew8 _ _ | exact Below.refl _ _))).mono ?_
  rintro e' w1 ⟨⟨v1, rfl, hv1⟩, hb1⟩
  have HV1 := Lib.hid hv1; have HB1 := Lib.hid hb1
  obtain ⟨g1, k1, sp1, rfl, _⟩ := hv1
  clear hb1
  go_wp2_with fail
  refine hK.out _ _ ?_ (fun hHeld => ?_)
  · (try dsimp only); first | (refine HS1s.out _ _ ?_; (first | exact HB1.out | exact below_drew8 _ _ | exact Below.refl _ _); done) | (refine HS1.out _ ?_; (first | exact HB1.out | exact below_drew8 _ _ | exact Below.refl _ _); done)
  clear hK K
  try simp only [Act.put, setIfInBounds_toArray, set_cons_zero, set_cons_succ]
  refine wpAnyH_take (i := 7) (oi := ⟨some 14, _, _, _, _, _⟩) (v := ?_) rfl (by kernel_rfl) (by kernel_rfl) (by kernel_rfl) (fun _ _ _ h => h) (Or.inl ⟨by rfl, ?_⟩) (by assumption) ?_; rotate_left
  · intro w hSw; (try dsimp only at hSw); go_simp; try with_reducible rfl
  try simp only [Act.put, setIfInBounds_toArray, set_cons_zero, set_cons_succ]
  refine wpAnyH_ready (rs := [8]) (by kernel_rfl) (by simp) ?_
  refine AllReadyH.cons (o := ⟨none, _, _, _, _, _⟩) rfl (fun K hK => ?_) AllReadyH.nil
  obtain ⟨cn1, fn1⟩ := HNW.out _ HB1.out
  go_simp
  refine hK.out _ _ ?_ (fun hHeld => ?_)
  · (try dsimp only); first | (refine HS1s.out _ _ ?_; (first | exact HB1.out | exact below_drew8 _ _ | exact Below.refl _ _); done) | (refine HS1.out _ ?_; (first | exact HB1.out | exact below_drew8 _ _ | exact Below.refl _ _); done)
  clear hK K
  try simp only [Act.put]
  refine wpAnyH_done (by kernel_rfl) ?_ _
  have HA2 := Lib.hid ((HA.out.far HB1.out).setNew i HV1.out HS.out)
  have HK2 : Hid (KeepL (fpR R bn bk bf) w (w1.setCell ⟨bn, i, none⟩ (.slice (some ⟨g1, 0, none⟩) 64 k1))) := Lib.hid ((KeepL.of_below HB1.out).trans ((KeepL.set _ _ _ _).sub (by simp [fpR])))
  generalize w1.setCell ⟨bn, i, none⟩ (.slice (some ⟨g1, 0, none⟩) 64 k1) = w2 at HA2 HK2 ⊢
  obtain ⟨_, _, c2, _⟩ := HA2.out.cR
  rw [show ({ r with new := r.new.set i s } : Rk).new.length = n by simp [HNN.out]] at c2
  obtain ⟨vF, hcf, ffr⟩ : ∃ vF, w2.cell? ⟨bf, i, none⟩ = some vF ∧ w2.frozen? ⟨bf, i, none⟩ = false := ⟨_, HA2.out.fcell (i := i) (by simp; exact HIR.out), HA2.out.frzf i⟩
  have HA3 := Lib.hid (HA2.out.setFr (i := i) (by simp; exact HIR.out) true)
  go_wp2_with fail
  refine (rcrash_any (d := { d with cch := d.cch.set i (some s) }) ⟨HOK.out, _, _, HPI.out, HA3.out⟩).mono ?_
  rintro e w4 ⟨rfl, hm4⟩
  have HM4 := Lib.hid hm4
  clear hm4
  have HR : Hid (RpP R bn bk bf cn ck cf d i s w (.returned (.int .i64 (if (d.put i s).1 = true then 13 else 0))) w4) := Lib.hid ⟨⟨_, rfl, rfl⟩, RdMut.trans (HK2.out.trans ((KeepL.set _ _ _ _).sub (by simp [fpR]))) HM4.out⟩
  change Hid (RpP R bn bk bf cn ck cf d i s w (.returned (.int .i64 (if (Dk.tick { d with cch := d.cch.set i (some s) }).1 = true then 13 else 0))) w4) at HR
  cases hb : (Dk.tick { d with cch := d.cch.set i (some s) }).1 with
  | true =>
    rw [hb, if_pos rfl] at HR
    go_wp2_with fail
    go_ret
    exact HR.out
  | false =>
    rw [hb, if_neg (by simp)] at HR
    go_wp2_with fail
    go_ret
    exact HR.out
  -- REGION>
set_option maxRecDepth 100000 in
set_option maxHeartbeats 1000000 in
theorem rwrite_any (h : RdAt w R d bn bk bf cn ck cf) (i : Int) (A : Option Addr) (n c : Nat) (l : List Nat) (hb : ∀ x ∈ l, x < 256) (hr : Rd w w.heap.size 1 A n (l.map fun x : Nat => Value.int .u8 x)) :
    Calls Tryz.prog 54 #[.pointer (some ⟨R, 0, none⟩), .int .i64 i, .slice A n c] w (RdRes R bn bk bf cn ck cf (d.write i l) w) := by
  have hh := rthere_any h i
  have H := Lib.hid h
  have hln : l.length = n := by have := hr.1; simpa using this
  have c5 : w.cell? ⟨R, 5, none⟩ = some (.bool d.down) := by
    obtain ⟨h0, r, kv, h1, h2⟩ := h
    obtain ⟨_, _, _, _, _, c5, _⟩ := h2.cR
    rw [← h1.down]; exact c5
  cases hd : d.down with
  | true =>
    have HE : Hid (d.write i l = (13, d)) := Lib.hid (by unfold Dk.write; rw [if_pos hd])
    rw [hd] at c5
    clear h hh hr
    go_enter Tryz.func54, Tryz.ntmps54
    go_wp2_with fail
    go_ret
    unfold RdRes
    rw [HE.out]
    exact ⟨rfl, .refl H.out⟩
  | false =>
  rw [hd] at c5
  by_cases hb2 : hasB i d.dur.length = true
  · rw [hb2] at hh
    have HH := Lib.hid hh
    by_cases hl : l.length = 64
    · have hn64 : n = 64 := by omega
      subst hn64
      obtain ⟨k, rfl, hk⟩ := hasB_nat hb2
      have hso : SecOK l := ⟨hl, hb⟩
      have HE : Hid (d.write (k : Int) l = (if (Dk.put { d with age := d.age + 1 } k l).1 = true then 13 else 0, (Dk.put { d with age := d.age + 1 } k l).2)) := Lib.hid (by
        unfold Dk.write
        rw [if_neg (by rw [hd]; simp), if_pos hb2, if_pos hl, Int.toNat_natCast])
      obtain ⟨h0, r, kv, h1, h2⟩ := h
      obtain ⟨c0, c1, c2, c3, c4, c5', c6, c7, c8⟩ := h2.cR
      have f8 := h2.frz 8
      obtain ⟨z, hz⟩ : ∃ z, z = wrap64 (r.wr + 1) := ⟨_, rfl⟩
      have HM : Hid (RdAt (w.setCell ⟨R, 8, none⟩ (.int .i64 z)) R { d with age := d.age + 1 } bn bk bf cn ck cf) := Lib.hid (by
        obtain ⟨q1, q2, q3, q4, q5⟩ := h1
        obtain ⟨o1, o2, o3, o4, o5, o6, o7, o8⟩ := h2.ok
        obtain ⟨a1, a2, a3, a4, a5, a6⟩ := h0
        exact ⟨⟨a1, a2, a3, a4, a5, a6⟩, { r with wr := z }, kv, ⟨q1, q2, q3, q4, q5⟩, h2.field 8 _ _ kv ⟨o1, o2, o3, o4, o5, o6, o7, o8⟩ rfl rfl rfl h2.keep rfl⟩)
      have HRD : Hid (Rd (w.setCell ⟨R, 8, none⟩ (.int .i64 z)) (w.setCell ⟨R, 8, none⟩ (.int .i64 z)).heap.size 1 A 64 (secC l)) := Lib.hid (by
        refine ⟨hr.1, fun hp => ?_⟩
        obtain ⟨b, off, e1, hbl, hcell⟩ := hr.2 hp
        have hbR : b ≠ R := by
          rintro rfl
          have e := hcell 0 (.int .u8 (l.getD 0 0 : Nat)) (by rw [List.getElem?_map, List.getD_eq_getElem?_getD, List.getElem?_eq_getElem (by omega)]; rfl)
          obtain ⟨A', c', hkv, _⟩ := h2.keep.cells
          rw [h2.blk.cell, hkv] at e
          rcases off with _ | _ | _ | _ | _ | _ | _ | _ | _ | off <;> simp at e
        refine ⟨b, off, e1, by rw [size_setCell]; exact hbl, fun j u hu => ?_⟩
        rw [World.cell?_of_block (w := w) (a := ⟨b, off + j, none⟩) (Below.heap_setCell _ _ _ _ hbR)]
        exact hcell j u hu)
      have HSO := Lib.hid hso; have HK := Lib.hid hk
      obtain ⟨wr0, hwr0⟩ : ∃ z, z = r.wr := ⟨_, rfl⟩
      rw [← hwr0] at c8 hz
      have HZ := Lib.hid hz
      clear h0 h1 h2 hh hr hb2 hso hk hln c0 c1 c2 c3 c4 c5' c6 c7 hwr0 hz
      go_enter Tryz.func54, Tryz.ntmps54
      go_wp2_with fail
      refine HH.out.mono ?_
      rintro e w' ⟨rfl, rfl⟩
      go_wp2_with fail
      rw [← HZ.out]
      refine (rput_any HM.out HK.out HSO.out A c HRD.out).mono ?_
      rintro e w3 ⟨⟨x, hx, rfl⟩, hm3⟩
      have HX := Lib.hid hx
      have HM3 := Lib.hid hm3
      clear hm3 hx
      go_wp2_with fail
      go_ret
      unfold RdRes
      rw [HE.out, ← HX.out]
      exact ⟨rfl, RdMut.trans ((KeepL.set _ _ _ _).sub (by simp [fpR])) HM3.out⟩
    · have HE : Hid (d.write i l = (6, d)) := Lib.hid (by unfold Dk.write; rw [if_neg (by rw [hd]; simp), if_pos hb2, if_neg hl])
      have hn64 : ¬ (n : Int) = 64 := by omega
      have hb64 : ((n : Int) != 64) = true := bne_iff_ne.2 hn64
      clear h hh hr
      go_enter Tryz.func54, Tryz.ntmps54
      go_wp2_with fail
      refine HH.out.mono ?_
      rintro e w' ⟨rfl, rfl⟩
      go_wp2_with fail
      go_ret
      unfold RdRes
      rw [HE.out]
      exact ⟨rfl, .refl H.out⟩
  · have HE : Hid (d.write i l = (3, d)) := Lib.hid (by unfold Dk.write; rw [if_neg (by rw [hd]; simp), if_neg hb2])
    rw [Bool.not_eq_true] at hb2
    rw [hb2] at hh
    have HH := Lib.hid hh
    clear h hh hr
    go_enter Tryz.func54, Tryz.ntmps54
    go_wp2_with fail
    refine HH.out.mono ?_
    rintro e w' ⟨rfl, rfl⟩
    go_wp2_with fail
    go_ret
    unfold RdRes
    rw [HE.out]
    exact ⟨rfl, .refl H.out⟩
theorem sync_is (h : RkIs r d) (hd : DkOK d) : RkIs { crT r r.new 0 d.dur.length d.dur.length with new := r.new } { d with dur := syncS d.dur d.cch, cch := List.replicate d.cch.length none } := by
  have hn := (h.ok hd).1
  have hkl : r.kept.length = d.dur.length := by rw [h.kept]
  have hfl : r.fresh.length = d.dur.length := by rw [h.fresh, List.length_map, hd.len]
  have hsl := syncS_length d.dur d.cch hd.len
  have hK : r.new = syncS d.dur d.cch := by
    rw [h.new]
    apply List.ext_getElem?
    intro j
    rw [List.getElem?_map]
    unfold syncS
    rw [List.getElem?_zipWith]
    by_cases hj : j < d.dur.length
    · rw [List.getElem?_range hj, List.getElem?_eq_getElem hj, List.getElem?_eq_getElem (show j < d.cch.length by rw [hd.len]; exact hj)]
      simp only [Option.map_some, Dk.newest, List.getD_eq_getElem?_getD]
      rw [List.getElem?_eq_getElem hj, List.getElem?_eq_getElem (show j < d.cch.length by rw [hd.len]; exact hj)]
      rfl
    · rw [List.getElem?_eq_none (by simp; omega), List.getElem?_eq_none (show d.dur.length ≤ j by omega)]; rfl
  have hnone : ∀ i, i < (syncS d.dur d.cch).length → (List.replicate d.cch.length (none : Option Sec)).getD i none = none := by
    intro i hi
    rw [List.getD_eq_getElem?_getD, List.getElem?_replicate]
    split <;> rfl
  refine ⟨?_, ?_, ?_, h.plan, h.down⟩
  · have := range_newest { d with dur := syncS d.dur d.cch, cch := List.replicate d.cch.length none } hnone
    rw [this]
    exact hK
  · show mix r.new r.kept d.dur.length = _
    rw [mix_full _ _ hn hkl, hK]
  · show mix (List.replicate r.new.length false) r.fresh d.dur.length = (List.replicate d.cch.length none).map Option.isSome
    rw [mix_full _ _ (by simp [hn]) hfl, hn, ← hd.len]; simp
set_option maxRecDepth 100000 in
set_option maxHeartbeats 2000000 in
theorem rsync_any (h : RdAt w R d bn bk bf cn ck cf) : Calls Tryz.prog 55 #[.pointer (some ⟨R, 0, none⟩)] w (RdRes R bn bk bf cn ck cf d.syncR w) := by
  have H := Lib.hid h
  have c5 : w.cell? ⟨R, 5, none⟩ = some (.bool d.down) := by
    obtain ⟨h0, r, kv, h1, h2⟩ := h
    obtain ⟨_, _, _, _, _, c5, _⟩ := h2.cR
    rw [← h1.down]; exact c5
  clear h
  cases hd : d.down with
  | true =>
    have HE : Hid (d.syncR = (13, d)) := Lib.hid (by unfold Dk.syncR; rw [if_pos hd])
    rw [hd] at c5
    go_enter Tryz.func55, Tryz.ntmps55
    go_wp2_with fail
    go_ret
    unfold RdRes
    rw [HE.out]
    exact ⟨rfl, .refl H.out⟩
  | false =>
  rw [hd] at c5
  have HSR : Hid (d.syncR = (if d.sync.1 = true then 13 else 0, d.sync.2)) := Lib.hid (by unfold Dk.syncR; rw [if_neg (by rw [hd]; simp)])
  cases ht : d.tick with
  | mk tb d1 =>
  cases tb with
  | true =>
    have HE : Hid (d.syncR = (13, d1)) := Lib.hid (by rw [HSR.out]; unfold Dk.sync; rw [ht]; rfl)
    have HC := Lib.hid (rcrash_any H.out)
    rw [ht] at HC
    go_enter Tryz.func55, Tryz.ntmps55
    go_wp2_with fail
    refine HC.out.mono ?_
    rintro e w1 ⟨rfl, hm⟩
    have HM := Lib.hid hm
    clear hm
    go_wp2_with fail
    go_ret
    unfold RdRes
    rw [HE.out]
    exact ⟨rfl, HM.out⟩
  | false =>
    have HE : Hid (d.syncR = (0, { d1 with dur := syncS d1.dur d1.cch, cch := List.replicate d1.cch.length none })) := Lib.hid (by rw [HSR.out]; unfold Dk.sync; rw [ht]; rfl)
    have HSO : Hid (DkOK { d1 with dur := syncS d1.dur d1.cch, cch := List.replicate d1.cch.length none }) := Lib.hid (by
      have := H.out.1.sync
      unfold Dk.sync at this
      rw [ht] at this
      exact this)
    have HC := Lib.hid (rcrash_any H.out)
    rw [ht] at HC
    go_enter Tryz.func55, Tryz.ntmps55
    go_wp2_with fail
    refine HC.out.mono ?_
    rintro e wb ⟨rfl, ⟨h0, r, kv, h1, h2⟩, hk⟩
    have hn := (h1.ok h0).1
    obtain ⟨n, hnn⟩ : ∃ n, n = r.new.length := ⟨_, rfl⟩
    have HNN := Lib.hid hnn
    have HN2 : Hid (d1.dur.length = n) := Lib.hid (by omega)
    have HIS := Lib.hid h1; have HD := Lib.hid h0; have HOK := Lib.hid h2.ok; have HNE := Lib.hid h2.ne
    have HKB := Lib.hid hk
    have HN256 : Hid (2 ≤ n ∧ n ≤ 256) := Lib.hid (by have := h2.ok.n2; have := h2.ok.n256; omega)
    have H0 : Hid (RkAt wb R (crT r r.new 0 0 0) bn bk bf cn ck cf kv) := Lib.hid (by unfold crT; rw [mix_zero, mix_zero, mix_zero]; exact h2)
    have HMX : Hid (∀ a b, crT r r.new 0 a b = { crT r r.new 0 a b with new := r.new }) := Lib.hid fun a b => by unfold crT; rw [mix_zero]
    clear h0 h1 h2 hn hnn hk c5 HC ht
    go_wp2_with fail
    go_loopw [3] (fun v3 wr => ∃ i : Nat, i ≤ n ∧ v3 = .int .i64 (i : Nat) ∧ RkAt wr R (crT r r.new 0 i i) bn bk bf cn ck cf kv ∧ KeepL (fpR R bn bk bf) w wr) (fun v3 _ => n - (intOf v3).toNat)
    case atStart => exact ⟨0, Nat.zero_le _, rfl, H0.out, HKB.out⟩
    case round =>
      obtain ⟨i, hi, rfl, hA, hK⟩ := hrel
      obtain ⟨wa, rfl⟩ : ∃ z : World, z = wr := ⟨_, rfl⟩
      obtain ⟨c0, c1, c2, _⟩ := hA.cR
      rw [crT_len rfl (Nat.zero_le _), ← HNN.out] at c0 c1 c2
      have HA := Lib.hid hA; have HK := Lib.hid hK
      have hn256 := HN256.out
      clear hA hK
      by_cases hlt : i < n
      · have HIR : Hid (i < r.new.length) := Lib.hid (by rw [← HNN.out]; exact hlt)
        have hii : 0 ≤ (i : Int) ∧ (i : Int) < (n : Int) := by omega
        obtain ⟨vN, hvn, hbn⟩ := HA.out.new.cell (i := i) (by rw [crT_len rfl (Nat.zero_le _)]; exact HIR.out)
        obtain ⟨X, hX⟩ : ∃ X, r.new[i]? = some X := ⟨_, List.getElem?_eq_getElem HIR.out⟩
        rw [show (crT r r.new 0 i i).new.getD i [] = X by
          unfold crT
          dsimp only
          rw [mix_zero, List.getD_eq_getElem?_getD, hX]; rfl] at hbn
        have HX := Lib.hid hX
        have HSX : Hid (SecOK X) := Lib.hid (HOK.out.new _ (List.mem_of_getElem? hX))
        have HCL : Hid (∀ W, Below wa.heap.size wa W → Calls Tryz.prog 84 #[vN] W fun e w' => (∃ v', e = .returned v' ∧ BrV w' X v') ∧ Below wa.heap.size wa w') := Lib.hid fun W hW => (rclone_sec HSX.out (hbn.far hW)).mono fun e w' ⟨q1, q2⟩ => ⟨q1, hW.trans (q2.mono hW.size)⟩
        have HBB : Hid (R ≠ bk ∧ bn ≠ bk) := Lib.hid ⟨by obtain ⟨vs, sp, q, _⟩ := HA.out.kept; exact HA.out.blk.ne q (by decide), HNE.out⟩
        obtain ⟨vK, hvk, _⟩ := HA.out.kept.cell (i := i) (by show i < (mix r.new r.kept i).length; rw [mix_length _ _ (by rw [HOK.out.kl]) (by rw [HOK.out.kl]; exact Nat.le_of_lt HIR.out), HOK.out.kl]; exact HIR.out)
        have HVK : Hid (∀ W, Below wa.heap.size wa W → W.cell? ⟨bk, i, none⟩ = some vK ∧ W.frozen? ⟨bk, i, none⟩ = false) := Lib.hid fun W hW => ⟨by rw [hW.cell (p := ⟨bk, i, none⟩) HA.out.kept.lt]; exact hvk, (HA.out.far hW).frzk i⟩
        have HS8 : Hid (∀ W, Below wa.heap.size wa W → (W.cell? ⟨R, 0, none⟩ = some (.slice (some ⟨bn, 0, none⟩) n cn) ∧ W.cell? ⟨R, 1, none⟩ = some (.slice (some ⟨bk, 0, none⟩) n ck) ∧ W.cell? ⟨bn, i, none⟩ = some vN)) := Lib.hid fun W hW => ⟨by rw [hW.cell (p := ⟨R, 0, none⟩) HA.out.blk.lt]; exact c0, by rw [hW.cell (p := ⟨R, 1, none⟩) HA.out.blk.lt]; exact c1, by rw [hW.cell (p := ⟨bn, i, none⟩) HA.out.new.lt]; exact hvn⟩
        have HS8s : Hid (∀ W u, Below wa.heap.size wa W → ((W.setCell ⟨bk, i, none⟩ u).cell? ⟨R, 0, none⟩ = some (.slice (some ⟨bn, 0, none⟩) n cn) ∧ (W.setCell ⟨bk, i, none⟩ u).cell? ⟨R, 1, none⟩ = some (.slice (some ⟨bk, 0, none⟩) n ck) ∧ (W.setCell ⟨bk, i, none⟩ u).cell? ⟨bn, i, none⟩ = some vN)) := Lib.hid fun W u hW => (by
          obtain ⟨z0, z1, z2⟩ := HS8.out W hW
          refine ⟨?_, ?_, ?_⟩
          · rw [World.cell?_of_block (w := W) (a := ⟨R, 0, none⟩) (Below.heap_setCell _ _ _ _ HBB.out.1)]; exact z0
          · rw [World.cell?_of_block (w := W) (a := ⟨R, 1, none⟩) (Below.heap_setCell _ _ _ _ HBB.out.1)]; exact z1
          · rw [World.cell?_of_block (w := W) (a := ⟨bn, i, none⟩) (Below.heap_setCell _ _ _ _ HBB.out.2)]; exact z2)
        clear hvn hbn hX hvk
        go_wp2_with fail
        -- <REGION sync8
        refine wp_region_held_drew (S := (fun W => W.cell? ⟨R, 0, none⟩ = some (.slice (some ⟨bn, 0, none⟩) n cn) ∧ W.cell? ⟨R, 1, none⟩ = some (.slice (some ⟨bk, 0, none⟩) n ck) ∧ W.cell? ⟨bn, i, none⟩ = some vN)) (by kernel_rfl) ?_ (fun hHeld => ?_)
        · (try dsimp only); first | (refine HS8s.out _ _ ?_; (first | exact HB1.out | exact below_drew8 _ _ | exact Below.refl _ _); done) | (refine HS8.out _ ?_; (first | exact HB1.out | exact below_drew8 _ _ | exact Below.refl _ _); done)
        refine wpAnyH_take (i := 0) (oi := ⟨some 19, _, _, _, _, _⟩) (v := ?_) rfl (by kernel_rfl) (by kernel_rfl) (by kernel_rfl) (fun _ _ _ h => h) (Or.inl ⟨by rfl, ?_⟩) (by assumption) ?_; rotate_left
        · intro w hSw; (try dsimp only at hSw); go_simp; try with_reducible rfl
        try simp only [Act.put, setIfInBounds_toArray, set_cons_zero, set_cons_succ]
        refine wpAnyH_take (i := 1) (oi := ⟨some 20, _, _, _, _, _⟩) (v := ?_) rfl (by kernel_rfl) (by kernel_rfl) (by kernel_rfl) (fun _ _ _ h => h) (Or.inl ⟨by rfl, ?_⟩) (by assumption) ?_; rotate_left
        · intro w hSw; (try dsimp only at hSw); go_simp; try with_reducible rfl
        try simp only [Act.put, setIfInBounds_toArray, set_cons_zero, set_cons_succ]
        refine wpAnyH_take (i := 2) (oi := ⟨some 21, _, _, _, _, _⟩) (v := ?_) rfl (by kernel_rfl) (by kernel_rfl) (by kernel_rfl) (fun _ _ _ h => h) (Or.inl ⟨by rfl, ?_⟩) (by assumption) ?_; rotate_left
        · intro w hSw; (try dsimp only at hSw); go_simp; try with_reducible rfl
        try simp only [Act.put, setIfInBounds_toArray, set_cons_zero, set_cons_succ]
        refine wpAnyH_take (i := 3) (oi := ⟨some 22, _, _, _, _, _⟩) (v := ?_) rfl (by kernel_rfl) (by kernel_rfl) (by kernel_rfl) (fun _ _ _ h => h) (Or.inl ⟨by rfl, ?_⟩) (by assumption) ?_; rotate_left
        · intro w hSw; (try dsimp only at hSw); go_simp; try with_reducible rfl
        try simp only [Act.put, setIfInBounds_toArray, set_cons_zero, set_cons_succ]
        refine wpAnyH_take (i := 4) (oi := ⟨some 23, _, _, _, _, _⟩) (v := ?_) rfl (by kernel_rfl) (by kernel_rfl) (by kernel_rfl) (fun _ _ _ h => h) (Or.inl ⟨by rfl, ?_⟩) (by assumption) ?_; rotate_left
        · intro w hSw; (try dsimp only at hSw); go_simp; try with_reducible rfl
        try simp only [Act.put, setIfInBounds_toArray, set_cons_zero, set_cons_succ]
        refine wpAnyH_take (i := 5) (oi := ⟨some 24, _, _, _, _, _⟩) (v := ?_) rfl (by kernel_rfl) (by kernel_rfl) (by kernel_rfl) (fun _ _ _ h => h) (Or.inl ⟨by rfl, ?_⟩) (by assumption) ?_; rotate_left
        · intro w hSw; (try dsimp only at hSw); go_simp; try with_reducible rfl
        try simp only [Act.put, setIfInBounds_toArray, set_cons_zero, set_cons_succ]
        refine wpAnyH_take (i := 6) (oi := ⟨some 25, _, _, _, _, _⟩) (v := ?_) rfl (by kernel_rfl) (by kernel_rfl) (by kernel_rfl) (fun _ _ _ h => h) (Or.inl ⟨by rfl, ?_⟩) (by assumption) ?_; rotate_left
        · intro w hSw; (try dsimp only at hSw); go_simp; try with_reducible rfl
        try simp only [Act.put, setIfInBounds_toArray, set_cons_zero, set_cons_succ]
        refine wpAnyH_take (i := 7) (oi := ⟨some 26, _, _, _, _, _⟩) (v := ?_) rfl (by kernel_rfl) (by kernel_rfl) (by kernel_rfl) (fun _ _ _ h => h) (Or.inl ⟨by rfl, ?_⟩) (by assumption) ?_; rotate_left
        · intro w hSw; (try dsimp only at hSw); go_simp; try with_reducible rfl
        try simp only [Act.put, setIfInBounds_toArray, set_cons_zero, set_cons_succ]
        refine wpAnyH_take (i := 8) (oi := ⟨some 27, _, _, _, _, _⟩) (v := ?_) rfl (by kernel_rfl) (by kernel_rfl) (by kernel_rfl) (fun _ _ _ h => h) (Or.inl ⟨by rfl, ?_⟩) (by assumption) ?_; rotate_left
        · intro w hSw; (try dsimp only at hSw); go_simp; try with_reducible rfl
        try simp only [Act.put, setIfInBounds_toArray, set_cons_zero, set_cons_succ]
        refine wpAnyH_take (i := 9) (oi := ⟨some 28, _, _, _, _, _⟩) (v := ?_) rfl (by kernel_rfl) (by kernel_rfl) (by kernel_rfl) (fun _ _ _ h => h) (Or.inl ⟨by rfl, ?_⟩) (by assumption) ?_; rotate_left
        · intro w hSw; (try dsimp only at hSw); go_simp; try with_reducible rfl
        try simp only [Act.put, setIfInBounds_toArray, set_cons_zero, set_cons_succ]
        refine wpAnyH_take (i := 10) (oi := ⟨some 29, _, _, _, _, _⟩) (v := ?_) rfl (by kernel_rfl) (by kernel_rfl) (by kernel_rfl) (fun _ _ _ h => h) (Or.inl ⟨by rfl, ?_⟩) (by assumption) ?_; rotate_left
        · intro w hSw; (try dsimp only at hSw); go_simp; try with_reducible rfl
        try simp only [Act.put, setIfInBounds_toArray, set_cons_zero, set_cons_succ]
        refine wpAnyH_take (i := 11) (oi := ⟨some 30, _, _, _, _, _⟩) (v := ?_) rfl (by kernel_rfl) (by kernel_rfl) (by kernel_rfl) (fun _ _ _ h => h) (Or.inl ⟨by rfl, ?_⟩) (by assumption) ?_; rotate_left
        · intro w hSw; (try dsimp only at hSw); go_simp; try with_reducible rfl
        try simp only [Act.put, setIfInBounds_toArray, set_cons_zero, set_cons_succ]
        refine wpAnyH_ready (rs := [12]) (by kernel_rfl) (by simp) ?_
        refine AllReadyH.cons (o := ⟨some 31, _, _, _, _, _⟩) rfl (fun K hK => ?_) AllReadyH.nil
        go_simp
        refine (HCL.out _ (by (first | exact HB1.out | exact below_drew8 _ _ | exact Below.refl _ _))).mono ?_
        rintro e' w1 ⟨⟨v1, rfl, hv1⟩, hb1⟩
        have HV1 := Lib.hid hv1; have HB1 := Lib.hid hb1
        obtain ⟨g1, k1, sp1, rfl, _⟩ := hv1
        clear hb1
        go_wp2_with fail
        refine hK.out _ _ ?_ (fun hHeld => ?_)
        · (try dsimp only); first | (refine HS8s.out _ _ ?_; (first | exact HB1.out | exact below_drew8 _ _ | exact Below.refl _ _); done) | (refine HS8.out _ ?_; (first | exact HB1.out | exact below_drew8 _ _ | exact Below.refl _ _); done)
        clear hK K
        try simp only [Act.put, setIfInBounds_toArray, set_cons_zero, set_cons_succ]
        refine wpAnyH_take (i := 13) (oi := ⟨some 32, _, _, _, _, _⟩) (v := ?_) rfl (by kernel_rfl) (by kernel_rfl) (by kernel_rfl) (fun _ _ _ h => h) (Or.inl ⟨by rfl, ?_⟩) (by assumption) ?_; rotate_left
        · intro w hSw; (try dsimp only at hSw); go_simp; try with_reducible rfl
        try simp only [Act.put, setIfInBounds_toArray, set_cons_zero, set_cons_succ]
        refine wpAnyH_ready (rs := [14]) (by kernel_rfl) (by simp) ?_
        refine AllReadyH.cons (o := ⟨none, _, _, _, _, _⟩) rfl (fun K hK => ?_) AllReadyH.nil
        obtain ⟨cn1, fn1⟩ := HVK.out _ HB1.out
        go_simp
        refine hK.out _ _ ?_ (fun hHeld => ?_)
        · (try dsimp only); first | (refine HS8s.out _ _ ?_; (first | exact HB1.out | exact below_drew8 _ _ | exact Below.refl _ _); done) | (refine HS8.out _ ?_; (first | exact HB1.out | exact below_drew8 _ _ | exact Below.refl _ _); done)
        clear hK K
        try simp only [Act.put]
        refine wpAnyH_done (by kernel_rfl) ?_ _
        have HA3a := crT_kept (HA.out.far HB1.out) HOK.out rfl HIR.out HX.out HV1.out HSX.out
        have HK3a : KeepL (fpR R bn bk bf) w (w1.setCell ⟨bk, i, none⟩ (.slice (some ⟨g1, 0, none⟩) 64 k1)) := (HK.out.trans (KeepL.of_below HB1.out)).trans ((KeepL.set _ _ _ _).sub (by simp [fpR]))
        obtain ⟨w3, hw3⟩ : ∃ z, z = w1.setCell ⟨bk, i, none⟩ (.slice (some ⟨g1, 0, none⟩) 64 k1) := ⟨_, rfl⟩
        rw [← hw3] at HA3a HK3a ⊢
        have HA3 := Lib.hid HA3a; have HK3 := Lib.hid HK3a
        clear HA3a HK3a hw3 c0 c1 c2
        obtain ⟨c0, c1, c2, _⟩ := HA3.out.cR
        rw [crT_len rfl (Nat.zero_le _), ← HNN.out] at c0 c1 c2
        obtain ⟨vF, hcf, ffr⟩ : ∃ vF, w3.cell? ⟨bf, i, none⟩ = some vF ∧ w3.frozen? ⟨bf, i, none⟩ = false := ⟨_, HA3.out.fcell (i := i) (by rw [crT_len rfl (Nat.zero_le _)]; exact HIR.out), HA3.out.frzf i⟩
        go_wp2_with fail
        go_roundw
        case rel => exact ⟨i + 1, by omega, by go_num, crT_fr HA3.out HOK.out rfl HIR.out (Nat.zero_le _), HK3.out.trans ((KeepL.set _ _ _ _).sub (by simp [fpR]))⟩
        case measure => simp [intOf]; omega
        -- REGION>
      · have hni : i = n := by omega
        have hii : ¬ (i : Int) < (n : Int) := by omega
        have HNI := Lib.hid hni
        clear hlt hni
        go_wp2_with fail
        go_ret
        unfold RdRes
        rw [HE.out]
        refine ⟨rfl, ⟨HSO.out, _, kv, ?_, HA.out⟩, HK.out⟩
        rw [HNI.out, ← HN2.out, HMX.out]
        exact sync_is HIS.out HD.out
theorem info_int_rd : (Tryz.prog.info? 3).map (fun i => (i.zero, i.size, i.bytes)) = some (some (.int .i64 0), 1, 8) := by kernel_rfl
set_option maxRecDepth 100000 in
set_option maxHeartbeats 1000000 in
theorem rplan_any (h : RdAt w R d bn bk bf cn ck cf) (a : Int) (ha : a ≤ 9223372036854775807) (A : Option Addr) (n c : Nat) (l : List Int) (hn : n ≤ 1000000) (hr : Rd w w.heap.size 1 A n (l.map (Value.int .i64))) (hAR : 0 < n → ∀ q, A = some q → q.block ≠ R) :
    Calls Tryz.prog 56 #[.pointer (some ⟨R, 0, none⟩), .int .i64 a, .slice A n c] w (RdRes R bn bk bf cn ck cf (d.planR a l) w) := by
  have H := Lib.hid h
  have hln : l.length = n := by have := hr.1; simpa using this
  obtain ⟨h0, r, kv, h1, h2⟩ := h
  obtain ⟨c0, c1, c2, c3, c4, c5, c6, c7, c8⟩ := h2.cR
  have f3 := h2.frz 3; have f4 := h2.frz 4
  rw [h1.down] at c5
  have HIS := Lib.hid h1; have HA := Lib.hid h2; have HD := Lib.hid h0
  clear h0 h1 h2 c0 c1 c2 c6 c7 c8
  cases hd : d.down with
  | true =>
    have HE : Hid (d.planR a l = (13, d)) := Lib.hid (by unfold Dk.planR; rw [if_pos hd])
    rw [hd] at c5
    clear hr
    go_enter Tryz.func56, Tryz.ntmps56
    go_wp2_with fail
    go_ret
    unfold RdRes
    rw [HE.out]
    exact ⟨rfl, .refl H.out⟩
  | false =>
    rw [hd] at c5
    by_cases ha0 : a < 0
    · have HE : Hid (d.planR a l = (3, d)) := Lib.hid (by unfold Dk.planR; rw [if_neg (by rw [hd]; simp), if_pos ha0])
      clear hr
      go_enter Tryz.func56, Tryz.ntmps56
      go_wp2_with fail
      go_ret
      unfold RdRes
      rw [HE.out]
      exact ⟨rfl, .refl H.out⟩
    · by_cases hl : 256 < n
      · have hli : (256 : Int) < (n : Int) := by omega
        have HE : Hid (d.planR a l = (5, d)) := Lib.hid (by unfold Dk.planR; rw [if_neg (by rw [hd]; simp), if_neg ha0, if_pos (by omega)])
        clear hr
        go_enter Tryz.func56, Tryz.ntmps56
        go_wp2_with fail
        go_ret
        unfold RdRes
        rw [HE.out]
        exact ⟨rfl, .refl H.out⟩
      · have hli : ¬ (256 : Int) < (n : Int) := by omega
        have HE : Hid (d.planR a l = if keepOK l = true then (0, { d with plan := some (a.toNat, l.map Int.toNat) }) else (3, d)) := Lib.hid (by unfold Dk.planR; rw [if_neg (by rw [hd]; simp), if_neg ha0, if_neg (by omega)])
        have HR := Lib.hid hr
        have HLN := Lib.hid hln
        have HAR := Lib.hid hAR
        have hn256 : n ≤ 256 := by omega
        clear hr hln hAR
        go_enter Tryz.func56, Tryz.ntmps56
        go_wp2_with fail
        go_loopw [7] (fun v7 wr => ∃ j : Nat, j ≤ n ∧ v7 = .int .i64 (j : Nat) ∧ (∀ x ∈ l.take j, 0 ≤ x ∧ x ≤ 64) ∧ wr = w) (fun v7 _ => n - (intOf v7).toNat)
        case atStart => exact ⟨0, Nat.zero_le _, rfl, by simp, rfl⟩
        case round =>
          obtain ⟨j, hj, rfl, hok, hww⟩ := hrel
          obtain rfl := hww.symm
          have HOK := Lib.hid hok
          clear hok
          by_cases hlt : j < n
          · have hji : (j : Int) < (n : Int) := by omega
            obtain ⟨b, off, rfl, hbl, hcell⟩ := HR.out.2 (by omega)
            have hjl : j < l.length := by rw [HLN.out]; exact hlt
            have cj := hcell j (.int .i64 l[j]) (by rw [List.getElem?_map, List.getElem?_eq_getElem hjl]; rfl)
            have htk : l.take (j + 1) = l.take j ++ [l[j]] := List.take_succ_eq_append_getElem hjl
            have hmem : l[j] ∈ l := List.getElem_mem hjl
            have HTK := Lib.hid htk; have HMEM := Lib.hid hmem
            generalize l[j] = x at cj HTK HMEM
            clear hcell hbl htk hmem hjl
            have hnok : ¬ (0 ≤ x ∧ x ≤ 64) → Hid (keepOK l = false) := fun hx => Lib.hid (by
              unfold keepOK
              rw [List.all_eq_false]
              exact ⟨x, HMEM.out, by simp; omega⟩)
            by_cases hx1 : x < 0
            · have HNO := hnok (by omega)
              have hb1 : decide (x < 0) = true := decide_eq_true hx1
              clear hnok
              go_wp2_with fail
              go_ret
              unfold RdRes
              rw [HE.out, if_neg (by rw [HNO.out]; simp)]
              exact ⟨rfl, .refl H.out⟩
            · have hb1 : decide (x < 0) = false := decide_eq_false hx1
              by_cases hx2 : 64 < x
              · have HNO := hnok (by omega)
                have hb2 : decide (64 < x) = true := decide_eq_true hx2
                clear hnok
                go_wp2_with fail
                go_ret
                unfold RdRes
                rw [HE.out, if_neg (by rw [HNO.out]; simp)]
                exact ⟨rfl, .refl H.out⟩
              · have hb2 : decide (64 < x) = false := decide_eq_false hx2
                clear hnok
                go_wp2_with fail
                go_roundw
                case rel => exact ⟨j + 1, by omega, by go_num, by rw [HTK.out]; intro y hy; rcases List.mem_append.1 hy with hy | hy; exact HOK.out y hy; (rw [List.mem_singleton] at hy; subst hy; omega), by first | rfl | trivial⟩
                case measure => simp [intOf]; omega
          · have hji : ¬ (j : Int) < (n : Int) := by omega
            have hall : ∀ x ∈ l, 0 ≤ x ∧ x ≤ 64 := by have := HOK.out; rwa [List.take_of_length_le (by rw [HLN.out]; omega)] at this
            have HALL := Lib.hid hall
            clear hall
            have HEK : Hid (keepOK l = true) := Lib.hid (by unfold keepOK; rw [List.all_eq_true]; intro x hx; have := HALL.out x hx; simp; omega)
            obtain ⟨i0, hi0, hz0, hz1, hz2⟩ := info_parts info_int_rd
            have HI0 := Lib.hid hi0; have HZ0 := Lib.hid hz0; have HZ1 := Lib.hid hz1; have HZ2 := Lib.hid hz2
            clear hi0 hz0 hz1 hz2
            have hR1 : Rd (w.setCell ⟨R, 3, none⟩ (.int .i64 a)) (w.setCell ⟨R, 3, none⟩ (.int .i64 a)).heap.size 1 A n (l.map (Value.int .i64)) := by
              refine ⟨HR.out.1, fun hp => ?_⟩
              obtain ⟨b, off, e1, hbl, hcell⟩ := HR.out.2 hp
              refine ⟨b, off, e1, by rw [size_setCell]; exact hbl, fun q u hu => ?_⟩
              rw [World.cell?_of_block (w := w) (a := ⟨b, off + q, none⟩) (Below.heap_setCell _ _ _ _ (HAR.out hp _ e1))]
              exact hcell q u hu
            have HR1 := Lib.hid hR1
            have HK1 : Hid (KeepL [R] w (w.setCell ⟨R, 3, none⟩ (.int .i64 a))) := Lib.hid (KeepL.set _ _ _ _)
            have HA1 : Hid (RkAt (w.setCell ⟨R, 3, none⟩ (.int .i64 a)) R { r with after := a } bn bk bf cn ck cf kv) := Lib.hid (by
              obtain ⟨o1, o2, o3, o4, o5, o6, o7, o8⟩ := HA.out.ok
              exact HA.out.field 3 _ _ kv ⟨o1, o2, o3, o4, o5, o6, o7, by constructor <;> (dsimp only; omega)⟩ rfl rfl rfl HA.out.keep rfl)
            obtain ⟨w1, hw1⟩ : ∃ z, z = w.setCell ⟨R, 3, none⟩ (.int .i64 a) := ⟨_, rfl⟩
            rw [← hw1] at HR1 HK1 HA1
            have HW1 := Lib.hid hw1
            have HSZ : Hid (w1.heap.size = w.heap.size) := Lib.hid (by rw [hw1, size_setCell])
            clear hR1 hw1
            go_wp2_with (at_builtin; (rw [← HW1.out, ← HSZ.out]; refine wpList_append_rd _ rfl (.tmp 40) (.tmp 41) _ rfl w1.heap.size 3 i0 _ 1 8 Tryz.underlying32 HI0.out HZ0.out HZ1.out HZ2.out rfl (by decide) _ 0 [] rfl (World.ownsRow_made w1 #[] 0 (Nat.le_refl _) (by simp [maxLen]) (by simp)) _ A n c _ rfl (HR1.out.alloc (Nat.le_refl _) _) (by intro u hu; obtain ⟨_, _, rfl⟩ := List.mem_map.1 hu; rfl) (by unfold maxLen; omega) (by omega) (by simp) ?_); intro v2 w2 hown1 hg1; have hb2 : Below w1.heap.size w1 w2 := (((Below.refl _ _).alloc (Nat.le_refl _) _).grown hg1 (by simp) (fun g hg => by cases hg; exact Nat.le_refl _)); (rw [Nat.zero_add, List.nil_append] at hown1); obtain ⟨A', c', rfl, hc⟩ := own_form hown1; have HOWN := Lib.hid hown1; have HB2 := Lib.hid hb2; clear hown1 hg1 hb2; obtain ⟨_, _, _, _, c4', _⟩ := (HA1.out.far HB2.out).cR; have f4' := (HA1.out.far HB2.out).frz 4)
            go_ret
            unfold RdRes
            rw [HE.out, if_pos HEK.out]
            have hkp : KpV w2 (.slice A' n c') (l.map Int.toNat) := by
              have h1 := HOWN.out
              rw [← HLN.out] at h1 ⊢
              exact KpV.own h1 (fun x hx => (HALL.out x hx).1)
            obtain ⟨o1, o2, o3, o4, o5, o6, o7, o8⟩ := HA1.out.ok
            obtain ⟨q1, q2, q3, q4, q5⟩ := HIS.out
            obtain ⟨a1, a2, a3, a4, a5, a6⟩ := HD.out
            have hko : (l.map Int.toNat).length ≤ 256 ∧ ∀ x ∈ l.map Int.toNat, x ≤ 64 := ⟨by rw [List.length_map, HLN.out]; omega, fun x hx => by
              obtain ⟨y, hy, rfl⟩ := List.mem_map.1 hx
              have := HALL.out y hy
              omega⟩
            refine ⟨rfl, ⟨⟨a1, a2, a3, a4, a5, fun a' k' e => ?_⟩, { r with after := a, keep := l.map Int.toNat }, .slice A' n c', ⟨q1, q2, q3, ⟨by dsimp only; omega, rfl⟩, q5⟩, (HA1.out.far HB2.out).field 4 _ _ _ ⟨o1, o2, o3, o4, o5, o6, hko, o8⟩ rfl rfl rfl hkp rfl⟩, ?_⟩
            · cases e
              exact ⟨hko.1, hko.2, by omega⟩
            · exact ((HK1.out.sub (by simp [fpR])).trans (KeepL.of_below HB2.out)).trans ((KeepL.set _ _ _ _).sub (by simp [fpR]))
end
end Go.Proofs.YtdgmjedkhjeadaaGreat
namespace Go.Proofs.YtdgmjedkhjeadaaGreat
open List (setIfInBounds_toArray set_cons_zero set_cons_succ)
open Go.RowKit
set_option linter.unusedVariables false
attribute [local go_sem] Oper.semAt_some
set_option maxRecDepth 100000 in
theorem free_any {L : List Nat} {w : World} {S D : Nat} {s : StM} {T : Nat} {kv : Value} {xs : List KB} {tb : Option Addr} {tc : Nat} (hst : StAt w S D s T kv xs tb tc) (side : Int) (hL : ∀ k ∈ L, k < w.heap.size) :
    Calls Tryz.prog 78 #[.pointer (some ⟨S, 0, none⟩), .int .i64 side] w fun e w' => e = .returned (.func (.func 100) #[] (freeLb w.heap.size (w.heap.size + 1))) ∧ FCaps w' L w.heap.size (w.heap.size + 1) S D s T kv xs tb tc side ∧ Below w.heap.size w w' := by
  have HST := Lib.hid hst; have HL := Lib.hid hL
  clear hst hL
  go_enter Tryz.func78, Tryz.ntmps78
  go_wp2_with fail
  go_ret
  have e1 : (w.alloc (.cells #[.pointer (some ⟨S, 0, none⟩)] 52)).heap.size = w.heap.size + 1 := by simp
  obtain ⟨w1, h1⟩ : ∃ z, z = w.alloc (.cells #[.pointer (some ⟨S, 0, none⟩)] 52) := ⟨_, rfl⟩
  rw [← h1] at e1 ⊢
  obtain ⟨w2, h2⟩ : ∃ z, z = w1.alloc (.cells #[.int .i64 side] 3) := ⟨_, rfl⟩
  rw [← h2]
  have b1 : Below w.heap.size w w1 := by rw [h1]; exact balloc _ _
  have b2 : Below w1.heap.size w1 w2 := by rw [h2]; exact balloc _ _
  have k1 : Bk w1 w.heap.size #[.pointer (some ⟨S, 0, none⟩)] 52 := by rw [h1]; exact Bk.new _ _ _
  have k2 : Bk w2 (w.heap.size + 1) #[.int .i64 side] 3 := by rw [← e1, h2]; exact Bk.new _ _ _
  have B2 := bnextK b1 b2
  have hk : KpS L w w2 := KpS.of_below B2
  exact ⟨rfl, ⟨k1.past b2 k1.lt, k2, fun h => by have := HL.out _ h; omega, ⟨hk.bk _ _ _ HST.out.blk (by decide) (by decide) (by decide) (by decide) (fun e => absurd e (by decide)), HST.out.js.kp hk, HST.out.ok⟩⟩, B2⟩
end Go.Proofs.YtdgmjedkhjeadaaGreat
