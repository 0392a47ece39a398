/- The free pieces of a lane: plainly, and the iterator. Conditions: as each statement says. -/
import Derived.Test.YtdgmjedkhjeadaaRun8
import Derived.Test.YtdgmjedkhjeadaaJou9
import Derived.Stop.RegionWithIn
import Derived.Sort.CutIn
import Derived.Shelf.Abstract
namespace Go.Proofs.Ytdgmjedkhjeadaa
open Go.RowKit
set_option linter.unusedVariables false
set_option linter.unusedSimpArgs false
attribute [local go_sem] Oper.semAt_some
/-- A piece. -/
structure Pc where
  id : Nat
  f : Nat
  t : Nat
deriving DecidableEq
def laneN (n : Nat) (side : Int) : Nat × Nat := if side = 0 then (0, n / 2) else (n / 2, n)
def freeK (side : Int) (k : Ky) : List Pc := (runsL k.used false (laneN k.used.length side).1 (laneN k.used.length side).2).map fun x => ⟨k.id, x.1, x.2⟩
def freeL (keys : List Ky) (side : Int) : List Pc := keys.flatMap (freeK side)
def pcV (p : Pc) : Value := .agg #[.int .i64 (p.id : Int), .int .i64 (p.f : Int), .int .i64 (p.t : Int)]
theorem laneN_le (n : Nat) (side : Int) : (laneN n side).1 ≤ (laneN n side).2 ∧ (laneN n side).2 ≤ n := by
  unfold laneN; split <;> (dsimp only; omega)
set_option maxRecDepth 100000 in
theorem lane_any (n : Nat) (hn : n ≤ 1000000) (side : Int) (w : World) : Calls Try.prog 50 #[.int .i64 (n : Int), .int .i64 side] w fun e w' => e = .returned (.tuple #[.int .i64 ((laneN n side).1 : Nat), .int .i64 ((laneN n side).2 : Nat)]) ∧ w = w' := by
  have q1 : Int.tdiv (n : Int) 2 = ((n / 2 : Nat) : Int) := half8 _
  have q2 : wrap64 ((n / 2 : Nat) : Int) = ((n / 2 : Nat) : Int) := by unfold wrap64; omega
  by_cases hs : side = 0
  · have hl : laneN n side = (0, n / 2) := by unfold laneN; rw [if_pos hs]
    rw [hl]
    subst hs
    clear hl
    generalize n / 2 = h at q1 q2 ⊢
    go_enter Try.func50, Try.ntmps50
    go_wp2_with fail
    refine bodyPost_ret (results_tmp2 rfl _ _ _) rfl ?_
    refine ⟨?_, rfl⟩
    show Ending.returned (.tuple #[.int .i64 0, .int .i64 (wrap64 (h : Int))]) = _
    rw [q2]; rfl
  · have e1 : (side == 0) = false := by simpa using hs
    have hl : laneN n side = (n / 2, n) := by unfold laneN; rw [if_neg hs]
    rw [hl]
    clear hl hs
    generalize n / 2 = h at q1 q2 ⊢
    go_enter Try.func50, Try.ntmps50
    go_wp2_with fail
    refine bodyPost_ret (results_tmp2 rfl _ _ _) rfl ?_
    refine ⟨?_, rfl⟩
    show Ending.returned (.tuple #[.int .i64 (wrap64 (h : Int)), .int .i64 (n : Int)]) = _
    rw [q2]
theorem JnAt.kp {L : List Nat} {w w' : World} {S : Nat} {j : Jn} {kv : Value} {xs : List KB} {tb : Option Addr} {tc : Nat} (h : JnAt w S j kv xs tb tc) (k : KpS L w w') : JnAt w' S j kv xs tb tc := by
  have ok : ∀ b cs t, Bk w b cs t → (t = 62 ∨ t = 66 ∨ t = 68 ∨ t = 4 ∨ t = 5) → Bk w' b cs t := fun b cs t hb ht =>
    k.bk b cs t hb (by rcases ht with rfl | rfl | rfl | rfl | rfl <;> decide) (by rcases ht with rfl | rfl | rfl | rfl | rfl <;> decide) (by rcases ht with rfl | rfl | rfl | rfl | rfl <;> decide) (by rcases ht with rfl | rfl | rfl | rfl | rfl <;> decide) (fun e => absurd e (by rcases ht with rfl | rfl | rfl | rfl | rfl <;> decide))
  have ow : ∀ {B : Nat} {t : TypeId} {sz n : Nat} {v : Value} {ys : List Value}, w.ownsRow B t sz v n ys → (t = 66 ∨ t = 5) → w'.ownsRow B t sz v n ys := fun h ht => by
    refine ⟨h.1, ?_⟩
    rcases h.2 with h1 | ⟨g, cap, cur, h1, h2, h3, h4⟩
    · exact .inl h1
    · exact .inr ⟨g, cap, cur, h1, h2, ok g cur _ h3 (by rcases ht with rfl | rfl <;> simp), h4⟩
  refine ⟨h.ok, ok _ _ _ h.blk (.inl rfl), ow h.row (.inl rfl), fun i x q hx hq => ?_, ow h.tail (.inr rfl), h.nodup⟩
  obtain ⟨h1, ⟨s, h2⟩, ⟨u, h3⟩, h4, h5, h6, h7, h8⟩ := h.keys i x q hx hq
  exact ⟨ok _ _ _ h1 (by simp), ⟨s, ok _ _ _ h2 (by simp)⟩, ⟨u, ok _ _ _ h3 (by simp)⟩, h4, h5, h6, h7, h8⟩
/-- The marks that range statements have left. -/
def Marks8 (n₀ : Nat) : List Deferred → World → Prop
  | [], _ => True
  | d :: ds, W => (∃ D, d = { target := .collected D, args := #[] } ∧ n₀ ≤ D ∧ W.heap[D]? = some (.deferred (some [])) ∧ ∀ d' ∈ ds, d'.target ≠ .collected D) ∧ Marks8 n₀ ds W
theorem Marks8.keep {n₀ : Nat} {W W' : World} (hk : ∀ (k : Nat) (o : Obj), W.heap[k]? = some o → o.isCells = false → W'.heap[k]? = some o) : ∀ {ds : List Deferred}, Marks8 n₀ ds W → Marks8 n₀ ds W'
  | [], _ => trivial
  | d :: ds, ⟨⟨D, h1, h0, h2, h3⟩, h4⟩ => ⟨⟨D, h1, h0, hk _ _ h2 rfl, h3⟩, Marks8.keep hk h4⟩
theorem Marks8.put {n₀ : Nat} {W : World} {D : Nat} (o : Obj) : ∀ {ds : List Deferred}, (∀ d' ∈ ds, d'.target ≠ .collected D) → Marks8 n₀ ds W → Marks8 n₀ ds (W.putObj D o)
  | [], _, _ => trivial
  | d :: ds, hd, ⟨⟨D', h1, h0, h2, h3⟩, h4⟩ => ⟨⟨D', h1, h0, (World.putObj_heap_other (fun e => hd d (by simp) (by rw [h1, e]))).trans h2, h3⟩, Marks8.put o (fun d' hd' => hd d' (by simp [hd'])) h4⟩
theorem Marks8.lt {n₀ : Nat} {W : World} : ∀ {ds : List Deferred}, Marks8 n₀ ds W → ∀ d ∈ ds, ∀ D, d.target = .collected D → D < W.heap.size
  | [], _, d, hd, _, _ => by simp at hd
  | d :: ds, ⟨⟨D', h1, h0, h2, h3⟩, h4⟩, d', hd, D, hD => by
    rcases List.mem_cons.1 hd with rfl | hd
    · rw [h1] at hD
      simp at hD
      subst hD
      exact (Array.getElem?_eq_some_iff.1 h2).1
    · exact Marks8.lt h4 d' hd D hD
theorem Marks8.iter {n₀ n₁ : Nat} {A B : World} {row : Option Nat} : ∀ {ds : List Deferred}, Marks8 n₀ ds A → (∀ d ∈ ds, ∀ D, d.target = .collected D → D < n₁) → A.grownBy B row → (∀ r, row = some r → n₁ ≤ r) → Marks8 n₀ ds B
  | [], _, _, _, _ => trivial
  | d :: ds, ⟨⟨D', h1, h0, h2, h3⟩, h4⟩, hb, hg, hr => ⟨⟨D', h1, h0, (hg.block D' (Array.getElem?_eq_some_iff.1 h2).1 (fun e => by
      have := hb d (by simp) D' (by rw [h1])
      have := hr D' e.symm
      omega)).trans h2, h3⟩, Marks8.iter h4 (fun d' hd' => hb d' (by simp [hd'])) hg hr⟩
theorem Marks8.keepF {n₀ B : Nat} {W W' : World} (hB : B ≤ n₀) (hk : KeepsFrom B W W') : ∀ {ds : List Deferred}, Marks8 n₀ ds W → Marks8 n₀ ds W'
  | [], _ => trivial
  | d :: ds, ⟨⟨D, h1, h0, h2, h3⟩, h4⟩ => ⟨⟨D, h1, h0, hk.same _ _ (Nat.le_trans hB h0) h2 rfl, h3⟩, Marks8.keepF hB hk h4⟩
theorem keepsFrom_le {B B' : Nat} {W W' : World} (h : KeepsFrom B W W') (hB : B ≤ B') : KeepsFrom B' W W' := ⟨h.size, fun k o h1 h2 h3 => h.same k o (Nat.le_trans hB h1) h2 h3⟩
/-- A function that ranged leaves: its marks are taken. -/
theorem leaves8 {F : Fence} {m : Nat} {P : Program} {fn : Func} {tmps : Array Value} {R : Ending → World → Prop} {n₀ : Nat} {I : World → Prop} (hI : ∀ (W : World) (D : Nat) (o : Obj), I W → n₀ ≤ D → W.heap[D]? = some o → o.isCells = false → ∀ o', I (W.putObj D o')) :
    ∀ (ds : List Deferred) (W : World), Marks8 n₀ ds W → I W → (∀ W', I W' → LeavesInM F m P fn tmps R [] .returning W') → LeavesInM F m P fn tmps R ds .returning W
  | [], W, _, hs, hf => hf W hs
  | d :: ds, W, ⟨⟨D, h1, h0, h2, h3⟩, h4⟩, hs, hf => by
    refine ⟨by simp, .inl ⟨D, _, by rw [h1], run_takeDeferred h2, ?_⟩⟩
    exact leaves8 hI ds _ (Marks8.put _ h3 h4) (hI W D _ hs h0 h2 rfl _) hf
/-- What the iterator over the free pieces has captured. -/
structure FCaps (w : World) (L : List Nat) (b1 b2 S D : Nat) (s : StM) (T : Nat) (kv : Value) (xs : List KB) (tb : Option Addr) (tc : Nat) (side : Int) : Prop where
  c1 : Bk w b1 #[.pointer (some ⟨S, 0, none⟩)] 26
  c2 : Bk w b2 #[.int .i64 side] 3
  n2 : b2 ∉ L
  st : StAt w S D s T kv xs tb tc
theorem FCaps.kp {w w' : World} {L : List Nat} {b1 b2 S D : Nat} {s : StM} {T : Nat} {kv : Value} {xs : List KB} {tb : Option Addr} {tc : Nat} {side : Int} (h : FCaps w L b1 b2 S D s T kv xs tb tc side) (k : KpS L w w') : FCaps w' L b1 b2 S D s T kv xs tb tc side :=
  ⟨k.bk _ _ _ h.c1 (by decide) (by decide) (by decide) (by decide) (fun e => absurd e (by decide)), k.bk _ _ _ h.c2 (by decide) (by decide) (by decide) (by decide) (fun _ => h.n2), h.n2,
   ⟨k.bk _ _ _ h.st.blk (by decide) (by decide) (by decide) (by decide) (fun e => absurd e (by decide)), h.st.js.kp k, h.st.ok⟩⟩
abbrev freeLb (b1 b2 : Nat) : Array Value := #[.pointer (some ⟨b1, 0, none⟩), .pointer (some ⟨b2, 0, none⟩)]
theorem yieldAt_round8 {m : Nat} (m' l2 : Nat) {l : Nat} {P : Program} {args : Array Value} {W : World} {R : Ending → World → Prop} (h : YieldAt Fence.wide m P l args W R) : YieldAt (Fence.wide.inRound l2) m' P l args W R := by
  obtain ⟨fn, tmps, assign, body, hy, hR⟩ := h
  exact ⟨fn, tmps, assign, body, hy, ⟨hR.1, fun c cs _ => hR.2 c cs (room_wide _)⟩⟩
theorem KpS.grown {L : List Nat} {A B : World} {row : Option Nat} (hg : A.grownBy B row) (hr : ∀ r, row = some r → ∃ o : Obj, A.heap[r]? = some o ∧ o.isCells = false) : KpS L A B :=
  ⟨hg.size, fun b cs t hb _ _ _ _ _ => (hg.block b hb.lt (fun e => by
    obtain ⟨o, h1, h2⟩ := hr b e.symm
    unfold Bk at hb
    rw [hb] at h1; cases h1; cases h2)).trans hb⟩
theorem freeL_split {side : Int} {keys : List Ky} {i : Nat} {k : Ky} (h : keys[i]? = some k) : freeL keys side = (keys.take i).flatMap (freeK side) ++ (freeK side k ++ (keys.drop (i + 1)).flatMap (freeK side)) := by
  obtain ⟨hi, rfl⟩ := List.getElem?_eq_some_iff.1 h
  have e : keys = keys.take i ++ keys[i] :: keys.drop (i + 1) := by rw [← List.drop_eq_getElem_cons hi, List.take_append_drop]
  have h2 := congrArg (fun z => z.flatMap (freeK side)) e
  rw [List.flatMap_append, List.flatMap_cons] at h2
  exact h2
set_option maxRecDepth 100000 in
set_option maxHeartbeats 4000000 in
theorem free1_any {L : List Nat} {b1 b2 S D : Nat} {s : StM} {T : Nat} {kv : Value} {xs : List KB} {tb : Option Addr} {tc : Nat} {side : Int} {w : World} (n : Nat) (hcp : FCaps w L b1 b2 S D s T kv xs tb tc side) (hL : ∀ k ∈ L, k < w.heap.size) :
    SeqVals Fence.wide n Try.prog 49 (freeLb b1 b2) (fun (x : Pc) a W => a = #[pcV x]) (KpS L) (freeL s.j.keys side) w := by
  intro l J Jx W hbw hAJ hAX hY hJ0
  have hJ : ∀ pre A B, J pre A → Below A.heap.size A B → J pre B := fun pre A B h hb => hAJ pre A B none h (grown_of_below8 hb) (fun r e => by cases e)
  have HAJ := Lib.hid hAJ; have HAX := Lib.hid hAX
  have hY2 : ∀ m pre x W1, pre ++ [x] <+: freeL s.j.keys side → J pre W1 → YieldAt Fence.wide m Try.prog l #[pcV x] W1 fun e W' => KeepsFrom W.heap.size W1 W' ∧ ((e = .returned (.bool true) ∧ J (pre ++ [x]) W' ∧ KpS L W1 W') ∨ (e = .returned (.bool false) ∧ Jx (pre ++ [x]) W')) :=
    fun m pre x W1 h1 h3 => yieldAt_any8 m (hY pre x #[pcV x] W1 h1 rfl h3)
  have HC0 := Lib.hid (hcp.kp (KpS.of_below hbw)); have HJ0 := Lib.hid hJ0; have HJ := Lib.hid hJ; have HY := Lib.hid hY2
  have HL : Hid (∀ k ∈ L, k < W.heap.size) := Lib.hid fun k hk => Nat.lt_of_lt_of_le (hL k hk) hbw.size
  clear hY hAJ hAX hbw hcp hJ0 hJ hY2 hL
  refine callsIn_wide.2 ?_
  show Calls Try.prog _ _ W (SeqE J Jx (freeL s.j.keys side))
  obtain ⟨kA, kc, hkv⟩ := HC0.out.st.js.form
  obtain ⟨W1, hW1⟩ : ∃ z, z = W.alloc (.cells #[.func (.yield l) #[] #[]] 97) := ⟨_, rfl⟩
  have hb1 : Below W.heap.size W W1 := by rw [hW1]; exact balloc _ _
  obtain ⟨b3, hb3⟩ : ∃ b, b = W.heap.size := ⟨_, rfl⟩
  have HC1 := Lib.hid (HC0.out.kp (KpS.of_below hb1))
  have HJ1 := Lib.hid (HJ.out _ _ _ HJ0.out hb1)
  have HY3 : Hid (Bk W1 b3 #[.func (.yield l) #[] #[]] 97) := Lib.hid (by rw [hW1, hb3]; exact Bk.new _ _ _)
  have HL1 : Hid (∀ k ∈ L, k < W1.heap.size) := Lib.hid fun k hk => Nat.lt_of_lt_of_le (HL.out k hk) hb1.size
  have c1 : W1.cell? ⟨b1, 0, none⟩ = some (.pointer (some ⟨S, 0, none⟩)) := HC1.out.c1.cell 0
  have c4 : W1.cell? ⟨S, 4, none⟩ = some (.pointer (some ⟨T, 0, none⟩)) := HC1.out.st.blk.cell 4
  have t0 : W1.cell? ⟨T, 0, none⟩ = some kv := HC1.out.st.js.blk.cell 0
  rw [hkv] at t0
  have HKV := Lib.hid hkv
  have hkl := HC0.out.st.js.ok.keys
  obtain ⟨kn, hkn⟩ : ∃ n, n = s.j.keys.length := ⟨_, rfl⟩
  have HKN := Lib.hid hkn
  rw [← hkn] at t0 hkl
  have HALL : Hid (freeL s.j.keys side = s.j.keys.flatMap (freeK side)) := Lib.hid rfl
  generalize freeL s.j.keys side = all at HALL HY ⊢
  clear hkv hkn
  simp only [freeLb, List.append_toArray, List.cons_append, List.nil_append]
  refine (callsIn_wide (n := 6)).1 ?_
  refine callsIn_of_wp_marks Try.func49 rfl trivial ?_ rfl
  simp only [Try.ntmps49, List.size_toArray, List.length_cons, List.length_nil, Nat.reduceAdd, Nat.reduceSub, Array.replicate_succ, Array.replicate_zero, List.push_toArray, List.append_toArray, List.nil_append, List.cons_append]
  refine wpIn_wide.2 ?_
  go_upto_region 1 with fail
  rw [← hW1, ← hb3]
  have HSW : Hid (W.heap.size ≤ W1.heap.size) := Lib.hid hb1.size
  clear hW1 hb1 hb3 HC0 HJ0 HL
  go_wp2_with fail
  refine wp_loop_ghost (fun r a' w' => ∃ (i : Nat) (pre : List Pc) (ds : List Deferred) (u5 u6 u7 u8 u9 u19 u20 u21 u22 u23 u24 u25 u26 u27 u28 u29 u30 u31 u32 u33 u34 u35 u36 u37 u38 u39 u40 u41 u42 u43 u44 u45 u46 u47 u48 u49 u50 u51 : Value), a' = { tmps := #[.func (.yield l) #[] #[], .pointer (some ⟨b1, 0, none⟩), .pointer (some ⟨b2, 0, none⟩), .pointer (some ⟨b3, 0, none⟩), undef, u5, u6, u7, u8, u9, .pointer (some ⟨S, 0, none⟩), .pointer (some ⟨S, 0, none⟩), .pointer (some ⟨S, 4, none⟩), .pointer (some ⟨T, 0, none⟩), .pointer (some ⟨T, 0, none⟩), .pointer (some ⟨T, 0, none⟩), .slice kA kn kc, .int .i64 (kn : Int), .int .i64 (i : Int), u19, u20, u21, u22, u23, u24, u25, u26, u27, u28, u29, u30, u31, u32, u33, u34, u35, u36, u37, u38, u39, u40, u41, u42, u43, u44, u45, u46, u47, u48, u49, u50, u51], defers := ds } ∧ i + r = kn ∧ pre = (s.j.keys.take i).flatMap (freeK side) ∧ J pre w' ∧ KpS L W1 w' ∧ Marks8 W1.heap.size ds w') kn ?_ ?_
  · exact ⟨0, [], [], _, _, _, _, _, _, _, _, _, _, _, _, _, _, _, _, _, _, _, _, _, _, _, _, _, _, _, _, _, _, _, _, _, _, _, _, _, _, rfl, by omega, rfl, HJ1.out, KpS.refl _ _, trivial⟩
  · rintro r a' wa ⟨i, pre, ds, u5, u6, u7, u8, u9, u19, u20, u21, u22, u23, u24, u25, u26, u27, u28, u29, u30, u31, u32, u33, u34, u35, u36, u37, u38, u39, u40, u41, u42, u43, u44, u45, u46, u47, u48, u49, u50, u51, rfl, hir, rfl, hj, hk, hm⟩
    have HJA := Lib.hid hj; have HKA := Lib.hid hk; have HMA := Lib.hid hm
    clear hj hk hm c1 c4 t0 HJ1
    cases r with
    | zero =>
      obtain rfl : i = kn := by omega
      have hki : ¬ (i : Int) < (i : Int) := by omega
      have HR : Hid ((s.j.keys.take i).flatMap (freeK side) = all) := Lib.hid (by rw [HALL.out, List.take_of_length_le (by rw [HKN.out]; exact Nat.le_refl _)])
      go_wp2_with fail
      refine leaves8 (n₀ := W1.heap.size) (I := fun W' => J all W') (fun W' D o h h0 ho hc o' => HAJ.out _ _ _ (some D) h (grownBy_putObj' W' D o') (fun r e => by cases e; exact ⟨Nat.le_trans HSW.out h0, o, ho, hc⟩)) _ _ HMA.out (by rw [← HR.out]; exact HJA.out) (fun W' hs' => ?_)
      refine ⟨_, results_none (by rfl) _ _ _, ?_⟩
      exact ⟨⟨_, rfl⟩, .inl hs'⟩
    | succ r =>
      have hki : (i : Int) < (kn : Int) := by omega
      have hil : i < s.j.keys.length := by have := HKN.out; omega
      have HCA := Lib.hid (HC1.out.kp HKA.out)
      obtain ⟨kg, kc', x, k, hkv, hcap, hx, hkk, ci, hat⟩ := HCA.out.st.js.ptr hil
      rw [HKV.out] at hkv
      injection hkv with hkv1 _ hkv2
      subst hkv1
      subst hkv2
      have HAT := Lib.hid hat; have HKK := Lib.hid hkk
      unfold KB.pv at ci
      have hsp := freeL_split (side := side) HKK.out
      have HSP : Hid (all = (s.j.keys.take i).flatMap (freeK side) ++ (freeK side k ++ (s.j.keys.drop (i + 1)).flatMap (freeK side))) := Lib.hid (HALL.out.trans hsp)
      have hlen : k.used.length ≤ 1000 := HAT.out.big
      obtain ⟨lo, hi, hlh⟩ : ∃ lo hi, (lo, hi) = laneN k.used.length side := ⟨_, _, rfl⟩
      have hle := laneN_le k.used.length side
      have HFK : Hid (freeK side k = (runsL k.used false lo hi).map fun x => (⟨k.id, x.1, x.2⟩ : Pc)) := Lib.hid (by unfold freeK; rw [← hlh])
      have HLN : Hid (∀ W : World, Calls Try.prog 50 #[.int .i64 (k.used.length : Int), .int .i64 side] W fun e w' => e = .returned (.tuple #[.int .i64 (lo : Int), .int .i64 (hi : Int)]) ∧ W = w') := Lib.hid (fun W => by have h := lane_any k.used.length (by omega) side W; rw [← hlh] at h; exact h)
      rw [← hlh] at hle
      dsimp only at hle
      have HLE := Lib.hid hle
      clear hx hkk hat hcap hsp hle hlh
      go_upto_region 4 with fail
      obtain ⟨W2, hW2⟩ : ∃ z, z = wa.alloc (.cells #[.pointer (some ⟨x.kb, 0, none⟩)] 66) := ⟨_, rfl⟩
      obtain ⟨bk, hbk⟩ : ∃ z, z = wa.heap.size := ⟨_, rfl⟩
      have hb2 : Below wa.heap.size wa W2 := by rw [hW2]; exact balloc _ _
      have hk2 : Bk W2 bk #[.pointer (some ⟨x.kb, 0, none⟩)] 66 := by rw [hW2, hbk]; exact Bk.new _ _ _
      rw [← hW2, ← hbk]
      have HB2 := Lib.hid hb2; have HBK := Lib.hid hk2
      have hcb : Below W2.heap.size W2 W2 := Below.refl _ _
      have HC2 := Lib.hid (HCA.out.kp (KpS.of_below hb2))
      have HK2 : Hid (Bk W2 x.kb #[.int .i64 (k.id : Int), .slice (some ⟨x.bb, 0, none⟩) k.bits.length x.cb, .slice (some ⟨x.ub, 0, none⟩) k.used.length x.cu] 68) := Lib.hid (HAT.out.blk.past hb2 HAT.out.blk.lt)
      have l1 : W2.cell? ⟨bk, 0, none⟩ = some (.pointer (some ⟨x.kb, 0, none⟩)) := hk2.cell 0
      have l2 : W2.cell? ⟨x.kb, 1, none⟩ = some (.slice (some ⟨x.bb, 0, none⟩) k.used.length x.cb) := by have h := HK2.out.cell 1; rw [HAT.out.len] at h; exact h
      have l3 : W2.cell? ⟨b2, 0, none⟩ = some (.int .i64 side) := HC2.out.c2.cell 0
      clear hW2 hbk hb2 hk2 ci hcb
      go_quiet ((go_at_call 50; exact quiet_e (HLN.out _)))
      obtain ⟨W3, hW3⟩ : ∃ z, z = W2.drewN nq := ⟨_, rfl⟩
      have hb3 : Below W2.heap.size W2 W3 := by rw [hW3]; exact Qw.below ⟨nq, rfl⟩ _
      rw [← hW3]
      have HB3 := Lib.hid (bnextK HB2.out hb3); have HBQ := Lib.hid hb3
      have m1 : W3.cell? ⟨bk, 0, none⟩ = some (.pointer (some ⟨x.kb, 0, none⟩)) := (HBK.out.past hb3 HBK.out.lt).cell 0
      have m2 : W3.cell? ⟨x.kb, 2, none⟩ = some (.slice (some ⟨x.ub, 0, none⟩) k.used.length x.cu) := (HK2.out.past hb3 HK2.out.lt).cell 2
      obtain ⟨su, hsu⟩ := HAT.out.used
      have HUB : Hid (Bk W3 x.ub (k.used.map Value.bool ++ su).toArray 4) := Lib.hid (by
        have h := hsu.past HB2.out hsu.lt
        exact h.past hb3 h.lt)
      have HLL : Hid (∀ n ∈ L, n < W3.heap.size) := Lib.hid fun n hn => Nat.lt_of_lt_of_le (HL1.out n hn) (Nat.le_trans HKA.out.size HB3.out.size)
      clear hsu hW3 hb3 l1 l2 l3
      go_upto_region 5 with fail
      go_wp2_with (refine (runs_any (L := L) (lo := lo) (hi := hi) false HUB.out (by have := HLE.out; omega) hlen HLL.out).mono ?_; rintro e w4 ⟨rfl, hcap, hb4⟩; have HCAP := Lib.hid hcap; have HB4 := Lib.hid hb4; clear hcap hb4)
      have HSQ := Lib.hid (runs1_any 5 HCAP.out)
      have HB5 := Lib.hid (bnextK HB3.out HB4.out)
      have HK4 := Lib.hid (HKA.out.trans (KpS.of_below HB5.out))
      have HJ4 := Lib.hid (HJ.out _ _ _ HJA.out HB5.out)
      have HM4 : Hid (Marks8 W1.heap.size ds w4) := Lib.hid (HMA.out.keep (fun k o ho _ => (HB5.out.block k (Array.getElem?_eq_some_iff.1 ho).1).trans ho))
      have HMB : Hid (∀ d ∈ ds, ∀ D, d.target = .collected D → D < w4.heap.size) := Lib.hid fun d hd D hD => HM4.out.lt d hd D hD
      have HSZ : Hid (W.heap.size ≤ w4.heap.size) := Lib.hid (Nat.le_trans HSW.out HK4.out.size)
      have HY4 : Hid (Bk w4 b3 #[.func (.yield l) #[] #[]] 97) := Lib.hid (HK4.out.bk _ _ _ HY3.out (by decide) (by decide) (by decide) (by decide) (fun e => absurd e (by decide)))
      have HBK4 : Hid (Bk w4 bk #[.pointer (some ⟨x.kb, 0, none⟩)] 66) := Lib.hid (by
        have h := HBK.out.past HBQ.out HBK.out.lt
        exact h.past HB4.out h.lt)
      have HKK4 : Hid (Bk w4 x.kb #[.int .i64 (k.id : Int), .slice (some ⟨x.bb, 0, none⟩) k.bits.length x.cb, .slice (some ⟨x.ub, 0, none⟩) k.used.length x.cu] 68) := Lib.hid (HAT.out.blk.past HB5.out HAT.out.blk.lt)
      refine (wpIn_wide (n := 6)).1 ?_
      refine wpIn_rangeFunc_ownV rfl (by decide) (gf := 54) (lb := runLb (W3.heap.size + 1) (W3.heap.size + 1 + 1) W3.heap.size (W3.heap.size + 1 + 1 + 1)) rfl trivial (enters_of Try.func54 (by kernel_rfl) rfl) HSQ.out (fun _ _ _ _ _ _ h _ _ _ => h) (fun h1 h2 => h1.trans h2) (fun W l o o' _ ho hc _ => KpS.putObj L W l o o' ho hc) (Below.refl _ _) (fun x v W h => by subst h; rfl)
        (fun pre WW => J ((s.j.keys.take i).flatMap (freeK side) ++ pre.map fun x => (⟨k.id, x.1, x.2⟩ : Pc)) WW ∧ KpS L w4 WW ∧ Marks8 W1.heap.size ds WW)
        (fun c pre WW => c = .ret ∧ ∃ q, q <+: all ∧ Jx q WW ∧ Marks8 W1.heap.size ds WW)
        ?hI ?hIx ⟨by simpa using HJ4.out, KpS.refl _ _, HM4.out⟩ (fun pv => { tmps := #[.func (.yield l) #[] #[], .pointer (some ⟨b1, 0, none⟩), .pointer (some ⟨b2, 0, none⟩), .pointer (some ⟨b3, 0, none⟩), undef, .pointer (some ⟨bk, 0, none⟩), .int .i64 (lo : Int), .int .i64 (hi : Int), pv.getD 0 undef, pv.getD 1 undef, .pointer (some ⟨S, 0, none⟩), .pointer (some ⟨S, 0, none⟩), .pointer (some ⟨S, 4, none⟩), .pointer (some ⟨T, 0, none⟩), .pointer (some ⟨T, 0, none⟩), .pointer (some ⟨T, 0, none⟩), .slice (some ⟨kg, 0, none⟩) kn kc, .int .i64 (kn : Int), .int .i64 (i : Int), .bool true, .pointer (some ⟨kg, i, none⟩), .pointer (some ⟨x.kb, 0, none⟩), .tuple #[.int .i64 (lo : Int), .int .i64 (hi : Int)], .pointer (some ⟨x.kb, 0, none⟩), .pointer (some ⟨x.kb, 0, none⟩), .pointer (some ⟨x.kb, 1, none⟩), .slice (some ⟨x.bb, 0, none⟩) k.used.length x.cb, .int .i64 (k.used.length : Int), .int .i64 side, .tuple #[.int .i64 (lo : Int), .int .i64 (hi : Int)], .int .i64 (lo : Int), .int .i64 (hi : Int), .pointer (some ⟨x.kb, 0, none⟩), .pointer (some ⟨x.kb, 0, none⟩), .pointer (some ⟨x.kb, 2, none⟩), .slice (some ⟨x.ub, 0, none⟩) k.used.length x.cu, .int .i64 (lo : Int), .int .i64 (hi : Int), .func (.func 54) #[] (runLb (W3.heap.size + 1) (W3.heap.size + 1 + 1) W3.heap.size (W3.heap.size + 1 + 1 + 1)), pv.getD 0 undef, pv.getD 1 undef, u41, u42, u43, u44, u45, u46, u47, u48, u49, u50, u51], defers := [] }) ?assign ?body ?done ?stop
      case hI =>
        rintro pre A B row ⟨h1, h2, h3⟩ hg hr
        exact ⟨HAJ.out _ A B row h1 hg (fun r e => ⟨Nat.le_trans HSZ.out (hr r e).1, (hr r e).2⟩), h2.trans (KpS.grown hg (fun r e => (hr r e).2)), h3.iter HMB.out hg (fun r e => (hr r e).1)⟩
      case hIx =>
        rintro c pre A B row ⟨h0, q, h1, h2, h3⟩ hg hr
        exact ⟨h0, q, h1, HAX.out _ A B row h2 hg (fun r e => ⟨Nat.le_trans HSZ.out (hr r e).1, (hr r e).2⟩), h3.iter HMB.out hg (fun r e => (hr r e).1)⟩
      case assign =>
        rintro l2 y v WW K rfl hK
        unfold runV at hK ⊢
        gi_wp2_with fail
        exact hK
      case body =>
        rintro l2 pre y v WW hpre rfl ⟨hj, hk, hm⟩
        dsimp only
        rw [show (runV y).getD 0 undef = .int .i64 (y.1 : Int) from rfl, show (runV y).getD 1 undef = .int .i64 (y.2 : Int) from rfl]
        have c41 : WW.cell? ⟨b3, 0, none⟩ = some (.func (.yield l) #[] #[]) := (hk.bk _ _ _ HY4.out (by decide) (by decide) (by decide) (by decide) (fun e => absurd e (by decide))).cell 0
        have c42 : WW.cell? ⟨bk, 0, none⟩ = some (.pointer (some ⟨x.kb, 0, none⟩)) := (hk.bk _ _ _ HBK4.out (by decide) (by decide) (by decide) (by decide) (fun e => absurd e (by decide))).cell 0
        have c45 : WW.cell? ⟨x.kb, 0, none⟩ = some (.int .i64 (k.id : Int)) := (hk.bk _ _ _ HKK4.out (by decide) (by decide) (by decide) (by decide) (fun e => absurd e (by decide))).cell 0
        have hqw : Below WW.heap.size WW WW.drew := Qw.below ⟨1, rfl⟩ _
        have hpp : ((s.j.keys.take i).flatMap (freeK side) ++ pre.map fun x => (⟨k.id, x.1, x.2⟩ : Pc)) ++ [⟨k.id, y.1, y.2⟩] <+: all := by
          obtain ⟨tl, htl⟩ := hpre
          rw [HSP.out, HFK.out, ← htl]
          exact ⟨(tl.map fun x => (⟨k.id, x.1, x.2⟩ : Pc)) ++ (s.j.keys.drop (i + 1)).flatMap (freeK side), by simp⟩
        have hyy := yieldAt_any8 3 (HY.out 0 _ _ WW.drew hpp (HJ.out _ _ _ hj hqw))
        have HK := Lib.hid hk; have HM := Lib.hid hm; have HPP := Lib.hid hpp; have HQW := Lib.hid hqw
        clear hk hm hpp hqw hj hpre
        unfold pcV at hyy
        dsimp only at hyy
        obtain ⟨fn, tmps, assign, body, hy, hRR⟩ := hyy
        have HKD : Hid (∀ w', KeepsFrom W.heap.size WW.drew w' → KeepsFrom W.heap.size WW w') := Lib.hid fun w' h => KeepsFrom.trans ⟨HQW.out.size, fun k o _ ho _ => (HQW.out.block k (Array.getElem?_eq_some_iff.1 ho).1).trans ho⟩ h
        have HPD : Hid (∀ w', KpS L WW.drew w' → KpS L WW w') := Lib.hid fun w' h => (KpS.of_below HQW.out).trans h
        replace hRR := hRR.mono (fun e w' h => show ∃ b : Bool, e = .returned (.bool (!b)) ∧ KeepsFrom W.heap.size WW w' ∧ ((b = false ∧ J (((s.j.keys.take i).flatMap (freeK side) ++ pre.map fun x => (⟨k.id, x.1, x.2⟩ : Pc)) ++ [⟨k.id, y.1, y.2⟩]) w' ∧ KpS L WW w') ∨ (b = true ∧ Jx (((s.j.keys.take i).flatMap (freeK side) ++ pre.map fun x => (⟨k.id, x.1, x.2⟩ : Pc)) ++ [⟨k.id, y.1, y.2⟩]) w')) by
          obtain ⟨h1, ⟨h2, h3⟩ | ⟨h2, h3⟩⟩ := h
          · exact ⟨false, h2, HKD.out _ h1, .inl ⟨rfl, h3.1, HPD.out _ h3.2⟩⟩
          · exact ⟨true, h2, HKD.out _ h1, .inr ⟨rfl, h3⟩⟩)
        gi_upto_region 8 with fail
        refine wpIn_mono (Q := fun e a w' => e = .normal ∧ ∃ b : Bool, a = { tmps := #[.func (.yield l) #[] #[], .pointer (some ⟨b1, 0, none⟩), .pointer (some ⟨b2, 0, none⟩), .pointer (some ⟨b3, 0, none⟩), undef, .pointer (some ⟨bk, 0, none⟩), .int .i64 (lo : Int), .int .i64 (hi : Int), .int .i64 (y.1 : Int), .int .i64 (y.2 : Int), .pointer (some ⟨S, 0, none⟩), .pointer (some ⟨S, 0, none⟩), .pointer (some ⟨S, 4, none⟩), .pointer (some ⟨T, 0, none⟩), .pointer (some ⟨T, 0, none⟩), .pointer (some ⟨T, 0, none⟩), .slice (some ⟨kg, 0, none⟩) kn kc, .int .i64 (kn : Int), .int .i64 (i : Int), .bool true, .pointer (some ⟨kg, i, none⟩), .pointer (some ⟨x.kb, 0, none⟩), .tuple #[.int .i64 (lo : Int), .int .i64 (hi : Int)], .pointer (some ⟨x.kb, 0, none⟩), .pointer (some ⟨x.kb, 0, none⟩), .pointer (some ⟨x.kb, 1, none⟩), .slice (some ⟨x.bb, 0, none⟩) k.used.length x.cb, .int .i64 (k.used.length : Int), .int .i64 side, .tuple #[.int .i64 (lo : Int), .int .i64 (hi : Int)], .int .i64 (lo : Int), .int .i64 (hi : Int), .pointer (some ⟨x.kb, 0, none⟩), .pointer (some ⟨x.kb, 0, none⟩), .pointer (some ⟨x.kb, 2, none⟩), .slice (some ⟨x.ub, 0, none⟩) k.used.length x.cu, .int .i64 (lo : Int), .int .i64 (hi : Int), .func (.func 54) #[] (runLb (W3.heap.size + 1) (W3.heap.size + 1 + 1) W3.heap.size (W3.heap.size + 1 + 1 + 1)), .int .i64 (y.1 : Int), .int .i64 (y.2 : Int), .func (.yield l) #[] #[], .pointer (some ⟨x.kb, 0, none⟩), .pointer (some ⟨x.kb, 0, none⟩), .pointer (some ⟨x.kb, 0, none⟩), .int .i64 (k.id : Int), .int .i64 (y.1 : Int), .int .i64 (y.2 : Int), .agg #[.int .i64 (k.id : Int), .int .i64 (y.1 : Int), .int .i64 (y.2 : Int)], .bool (!b), .bool b, u51], defers := [] } ∧ KeepsFrom W.heap.size WW w' ∧ ((b = false ∧ J (((s.j.keys.take i).flatMap (freeK side) ++ pre.map fun x => (⟨k.id, x.1, x.2⟩ : Pc)) ++ [⟨k.id, y.1, y.2⟩]) w' ∧ KpS L WW w') ∨ (b = true ∧ Jx (((s.j.keys.take i).flatMap (freeK side) ++ pre.map fun x => (⟨k.id, x.1, x.2⟩ : Pc)) ++ [⟨k.id, y.1, y.2⟩]) w'))) ?reg ?cont
        case reg =>
          refine wpIn_region_round8 (by kernel_rfl) (by kernel_rfl) ?_
          refine wpAnyIn_take (i := 5) (v := ?_) rfl rfl (by kernel_rfl) (by kernel_rfl) (by kernel_rfl) (fun _ _ _ h => absurd h.1 (by simp)) ⟨Or.inl ⟨by rfl, ?_⟩, fun _ => rfl⟩ ?_
          rotate_left
          · (intro w; go_simp; try with_reducible rfl)
          try simp only [Act.put, List.setIfInBounds_toArray, List.set_cons_zero, List.set_cons_succ]
          refine wpAnyIn_take (i := 6) (v := ?_) rfl rfl (by kernel_rfl) (by kernel_rfl) (by kernel_rfl) (fun _ _ _ h => absurd h.1 (by simp)) ⟨Or.inl ⟨by rfl, ?_⟩, fun _ => rfl⟩ ?_
          rotate_left
          · (intro w; go_simp; try with_reducible rfl)
          try simp only [Act.put, List.setIfInBounds_toArray, List.set_cons_zero, List.set_cons_succ]
          refine wpAnyIn_ready (rs := [0, 1]) (by kernel_rfl) (by simp) ?_
          refine AllReadyIn.cons rfl (fun K hK => ?_) ?_
          · skip
            go_simp
            refine hK _ _ ?_
            clear hK K
            try simp only [Act.put, List.setIfInBounds_toArray, List.set_cons_zero, List.set_cons_succ]
            refine wpAnyIn_ready (rs := [1]) (by kernel_rfl) (by simp) ?_
            refine AllReadyIn.cons rfl (fun K hK => ?_) AllReadyIn.nil
            go_simp
            refine hK _ _ ?_
            clear hK K
            try simp only [Act.put, List.setIfInBounds_toArray, List.set_cons_zero, List.set_cons_succ]
            refine wpAnyIn_take (i := 2) (v := ?_) rfl rfl (by kernel_rfl) (by kernel_rfl) (by kernel_rfl) (fun _ _ _ h => absurd h.1 (by simp)) ⟨Or.inl ⟨by rfl, ?_⟩, fun _ => rfl⟩ ?_
            rotate_left
            · (intro w; go_simp; try with_reducible rfl)
            try simp only [Act.put, List.setIfInBounds_toArray, List.set_cons_zero, List.set_cons_succ]
            refine wpAnyIn_take (i := 3) (v := ?_) rfl rfl (by kernel_rfl) (by kernel_rfl) (by kernel_rfl) (fun _ _ _ h => absurd h.1 (by simp)) ⟨Or.inl ⟨by rfl, ?_⟩, fun _ => rfl⟩ ?_
            rotate_left
            · (intro w; go_simp; try with_reducible rfl)
            try simp only [Act.put, List.setIfInBounds_toArray, List.set_cons_zero, List.set_cons_succ]
            refine wpAnyIn_ready (rs := [4]) (by kernel_rfl) (by simp) ?_
            refine AllReadyIn.cons rfl (fun K hK => ?_) AllReadyIn.nil
            go_simp
            refine hK _ _ ?_
            clear hK K
            try simp only [Act.put, List.setIfInBounds_toArray, List.set_cons_zero, List.set_cons_succ]
            refine wpAnyIn_take (i := 7) (v := ?_) rfl rfl (by kernel_rfl) (by kernel_rfl) (by kernel_rfl) (fun _ _ _ h => absurd h.1 (by simp)) ⟨Or.inl ⟨by rfl, ?_⟩, fun _ => rfl⟩ ?_
            rotate_left
            · (intro w; go_simp; try with_reducible rfl)
            try simp only [Act.put, List.setIfInBounds_toArray, List.set_cons_zero, List.set_cons_succ]
            refine wpAnyIn_ready (rs := [8]) (by kernel_rfl) (by simp) ?_
            refine AllReadyIn.cons rfl (fun K hK => ?_) AllReadyIn.nil
            go_simp
            refine hRR.mono ?_
            rintro e w9 ⟨b, rfl, hres⟩
            have HRES := Lib.hid hres
            clear hres
            dsimp only
            refine hK _ _ ?_
            clear hK K
            try simp only [Act.put, List.setIfInBounds_toArray, List.set_cons_zero, List.set_cons_succ]
            refine wpAnyIn_take (i := 9) (v := ?_) rfl rfl (by kernel_rfl) (by kernel_rfl) (by kernel_rfl) (fun _ _ _ h => absurd h.1 (by simp)) ⟨Or.inl ⟨by rfl, ?_⟩, fun _ => rfl⟩ ?_
            rotate_left
            · (intro w; go_simp; try with_reducible rfl)
            try simp only [Act.put, List.setIfInBounds_toArray, List.set_cons_zero, List.set_cons_succ]
            refine wpAnyIn_done (by kernel_rfl) ?_ _
            exact ⟨rfl, b, rfl, HRES.out⟩
          refine AllReadyIn.cons rfl (fun K hK => ?_) AllReadyIn.nil
          go_simp
          refine hK _ _ ?_
          clear hK K
          try simp only [Act.put, List.setIfInBounds_toArray, List.set_cons_zero, List.set_cons_succ]
          refine wpAnyIn_take (i := 2) (v := ?_) rfl rfl (by kernel_rfl) (by kernel_rfl) (by kernel_rfl) (fun _ _ _ h => absurd h.1 (by simp)) ⟨Or.inl ⟨by rfl, ?_⟩, fun _ => rfl⟩ ?_
          rotate_left
          · (intro w; go_simp; try with_reducible rfl)
          try simp only [Act.put, List.setIfInBounds_toArray, List.set_cons_zero, List.set_cons_succ]
          refine wpAnyIn_take (i := 3) (v := ?_) rfl rfl (by kernel_rfl) (by kernel_rfl) (by kernel_rfl) (fun _ _ _ h => absurd h.1 (by simp)) ⟨Or.inl ⟨by rfl, ?_⟩, fun _ => rfl⟩ ?_
          rotate_left
          · (intro w; go_simp; try with_reducible rfl)
          try simp only [Act.put, List.setIfInBounds_toArray, List.set_cons_zero, List.set_cons_succ]
          refine wpAnyIn_ready (rs := [0, 4]) (by kernel_rfl) (by simp) ?_
          refine AllReadyIn.cons rfl (fun K hK => ?_) ?_
          · skip
            go_simp
            refine hK _ _ ?_
            clear hK K
            try simp only [Act.put, List.setIfInBounds_toArray, List.set_cons_zero, List.set_cons_succ]
            refine wpAnyIn_ready (rs := [4]) (by kernel_rfl) (by simp) ?_
            refine AllReadyIn.cons rfl (fun K hK => ?_) AllReadyIn.nil
            go_simp
            refine hK _ _ ?_
            clear hK K
            try simp only [Act.put, List.setIfInBounds_toArray, List.set_cons_zero, List.set_cons_succ]
            refine wpAnyIn_take (i := 7) (v := ?_) rfl rfl (by kernel_rfl) (by kernel_rfl) (by kernel_rfl) (fun _ _ _ h => absurd h.1 (by simp)) ⟨Or.inl ⟨by rfl, ?_⟩, fun _ => rfl⟩ ?_
            rotate_left
            · (intro w; go_simp; try with_reducible rfl)
            try simp only [Act.put, List.setIfInBounds_toArray, List.set_cons_zero, List.set_cons_succ]
            refine wpAnyIn_ready (rs := [8]) (by kernel_rfl) (by simp) ?_
            refine AllReadyIn.cons rfl (fun K hK => ?_) AllReadyIn.nil
            go_simp
            refine hRR.mono ?_
            rintro e w9 ⟨b, rfl, hres⟩
            have HRES := Lib.hid hres
            clear hres
            dsimp only
            refine hK _ _ ?_
            clear hK K
            try simp only [Act.put, List.setIfInBounds_toArray, List.set_cons_zero, List.set_cons_succ]
            refine wpAnyIn_take (i := 9) (v := ?_) rfl rfl (by kernel_rfl) (by kernel_rfl) (by kernel_rfl) (fun _ _ _ h => absurd h.1 (by simp)) ⟨Or.inl ⟨by rfl, ?_⟩, fun _ => rfl⟩ ?_
            rotate_left
            · (intro w; go_simp; try with_reducible rfl)
            try simp only [Act.put, List.setIfInBounds_toArray, List.set_cons_zero, List.set_cons_succ]
            refine wpAnyIn_done (by kernel_rfl) ?_ _
            exact ⟨rfl, b, rfl, HRES.out⟩
          refine AllReadyIn.cons rfl (fun K hK => ?_) AllReadyIn.nil
          go_simp
          refine hK _ _ ?_
          clear hK K
          try simp only [Act.put, List.setIfInBounds_toArray, List.set_cons_zero, List.set_cons_succ]
          refine wpAnyIn_take (i := 7) (v := ?_) rfl rfl (by kernel_rfl) (by kernel_rfl) (by kernel_rfl) (fun _ _ _ h => absurd h.1 (by simp)) ⟨Or.inl ⟨by rfl, ?_⟩, fun _ => rfl⟩ ?_
          rotate_left
          · (intro w; go_simp; try with_reducible rfl)
          try simp only [Act.put, List.setIfInBounds_toArray, List.set_cons_zero, List.set_cons_succ]
          refine wpAnyIn_ready (rs := [0]) (by kernel_rfl) (by simp) ?_
          refine AllReadyIn.cons rfl (fun K hK => ?_) AllReadyIn.nil
          go_simp
          refine hK _ _ ?_
          clear hK K
          try simp only [Act.put, List.setIfInBounds_toArray, List.set_cons_zero, List.set_cons_succ]
          refine wpAnyIn_ready (rs := [8]) (by kernel_rfl) (by simp) ?_
          refine AllReadyIn.cons rfl (fun K hK => ?_) AllReadyIn.nil
          go_simp
          refine hRR.mono ?_
          rintro e w9 ⟨b, rfl, hres⟩
          have HRES := Lib.hid hres
          clear hres
          dsimp only
          refine hK _ _ ?_
          clear hK K
          try simp only [Act.put, List.setIfInBounds_toArray, List.set_cons_zero, List.set_cons_succ]
          refine wpAnyIn_take (i := 9) (v := ?_) rfl rfl (by kernel_rfl) (by kernel_rfl) (by kernel_rfl) (fun _ _ _ h => absurd h.1 (by simp)) ⟨Or.inl ⟨by rfl, ?_⟩, fun _ => rfl⟩ ?_
          rotate_left
          · (intro w; go_simp; try with_reducible rfl)
          try simp only [Act.put, List.setIfInBounds_toArray, List.set_cons_zero, List.set_cons_succ]
          refine wpAnyIn_done (by kernel_rfl) ?_ _
          exact ⟨rfl, b, rfl, HRES.out⟩
        case cont =>
          rintro e a w5 ⟨rfl, b, rfl, hkf, ⟨rfl, hj5, hk5⟩ | ⟨rfl, hx5⟩⟩
          · have HKF := Lib.hid hkf; have HJ5 := Lib.hid hj5; have HK5 := Lib.hid hk5
            clear hkf hj5 hk5 hy hRR
            gi_wp2_with fail
            exact ⟨keepsFrom_le HKF.out HSZ.out, HK5.out, by rw [List.map_append, List.map_singleton, ← List.append_assoc]; exact HJ5.out, HK.out.trans HK5.out, HM.out.keepF HSW.out HKF.out⟩
          · have HKF := Lib.hid hkf; have HX5 := Lib.hid hx5
            clear hkf hx5 hy hRR
            gi_wp2_with fail
            exact ⟨keepsFrom_le HKF.out HSZ.out, rfl, _, HPP.out, HX5.out, HM.out.keepF HSW.out HKF.out⟩
      case done =>
        rintro D WW hD ⟨hj, hk, hm⟩ hK
        have HTK : Hid ((s.j.keys.take (i + 1)).flatMap (freeK side) = (s.j.keys.take i).flatMap (freeK side) ++ (runsL k.used false lo hi).map fun x => (⟨k.id, x.1, x.2⟩ : Pc)) := Lib.hid (by
          rw [← HFK.out, List.take_add_one, HKK.out]; simp)
        have HJD := Lib.hid hj
        have HKD := Lib.hid (HK4.out.trans hk)
        have HMD : Hid (Marks8 W1.heap.size ({ target := .collected D, args := #[] } :: ds) WW) := Lib.hid ⟨⟨D, rfl, Nat.le_trans (HK4.out.size) hD, hK, fun d' hd' e => by have := HMB.out d' hd' D e; omega⟩, hm⟩
        clear hj hk hm hK
        go_wp2_with fail
        exact ⟨r, by omega, i + 1, _, _, _, _, _, _, _, _, _, _, _, _, _, _, _, _, _, _, _, _, _, _, _, _, _, _, _, _, _, _, _, _, _, _, _, _, _, _, _, _,  rfl, by omega, rfl, by rw [HTK.out]; exact HJD.out, HKD.out, HMD.out⟩
      case stop =>
        rintro D c pre WW hD hpre ⟨rfl, q, hq, hjx, hm⟩ hK
        have HMD : Hid (Marks8 W1.heap.size ({ target := .collected D, args := #[] } :: ds) WW) := Lib.hid ⟨⟨D, rfl, Nat.le_trans (HK4.out.size) hD, hK, fun d' hd' e => by have := HMB.out d' hd' D e; omega⟩, hm⟩
        have HQ := Lib.hid hq; have HX := Lib.hid hjx
        clear hq hjx hm hK hpre
        refine wpIn_wide.2 ?_
        go_wp2_with fail
        refine leaves8 (n₀ := W1.heap.size) (I := fun W' => Jx q W') (fun W' D o h h0 ho hc o' => HAX.out _ _ _ (some D) h (grownBy_putObj' W' D o') (fun r e => by cases e; exact ⟨Nat.le_trans HSW.out h0, o, ho, hc⟩)) _ _ HMD.out HX.out (fun W' hs' => ?_)
        refine ⟨_, results_none (by rfl) _ _ _, ?_⟩
        exact ⟨⟨_, rfl⟩, .inr ⟨_, HQ.out, hs'⟩⟩
#print axioms free1_any
end Go.Proofs.Ytdgmjedkhjeadaa
/- Store.free: its iterator. Conditions: as each statement says. -/
namespace Go.Proofs.Ytdgmjedkhjeadaa
open Go.RowKit
set_option linter.unusedVariables false
attribute [local go_sem] Oper.semAt_some
set_option maxRecDepth 100000 in
theorem free_any {L : List Nat} {w : World} {S D : Nat} {s : StM} {T : Nat} {kv : Value} {xs : List KB} {tb : Option Addr} {tc : Nat} (hst : StAt w S D s T kv xs tb tc) (side : Int) (hL : ∀ k ∈ L, k < w.heap.size) :
    Calls Try.prog 31 #[.pointer (some ⟨S, 0, none⟩), .int .i64 side] w fun e w' => e = .returned (.func (.func 49) #[] (freeLb w.heap.size (w.heap.size + 1))) ∧ FCaps w' L w.heap.size (w.heap.size + 1) S D s T kv xs tb tc side ∧ Below w.heap.size w w' := by
  have HST := Lib.hid hst; have HL := Lib.hid hL
  clear hst hL
  go_enter Try.func31, Try.ntmps31
  go_wp2_with fail
  go_ret
  have e1 : (w.alloc (.cells #[.pointer (some ⟨S, 0, none⟩)] 26)).heap.size = w.heap.size + 1 := by simp
  obtain ⟨w1, h1⟩ : ∃ z, z = w.alloc (.cells #[.pointer (some ⟨S, 0, none⟩)] 26) := ⟨_, rfl⟩
  rw [← h1] at e1 ⊢
  obtain ⟨w2, h2⟩ : ∃ z, z = w1.alloc (.cells #[.int .i64 side] 3) := ⟨_, rfl⟩
  rw [← h2]
  have b1 : Below w.heap.size w w1 := by rw [h1]; exact balloc _ _
  have b2 : Below w1.heap.size w1 w2 := by rw [h2]; exact balloc _ _
  have k1 : Bk w1 w.heap.size #[.pointer (some ⟨S, 0, none⟩)] 26 := by rw [h1]; exact Bk.new _ _ _
  have k2 : Bk w2 (w.heap.size + 1) #[.int .i64 side] 3 := by rw [← e1, h2]; exact Bk.new _ _ _
  have B2 := bnextK b1 b2
  have hk : KpS L w w2 := KpS.of_below B2
  exact ⟨rfl, ⟨k1.past b2 k1.lt, k2, fun h => by have := HL.out _ h; omega, ⟨hk.bk _ _ _ HST.out.blk (by decide) (by decide) (by decide) (by decide) (fun e => absurd e (by decide)), HST.out.js.kp hk, HST.out.ok⟩⟩, B2⟩
#print axioms free_any
end Go.Proofs.Ytdgmjedkhjeadaa
