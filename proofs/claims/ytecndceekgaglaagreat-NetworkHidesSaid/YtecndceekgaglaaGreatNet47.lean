/- Deliver. Conditions: as each statement says. -/
import Derived.Test.YtecndceekgaglaaGreatNet44
import Derived.Test.YtecndceekgaglaaGreatThruRef
namespace Go.Proofs.YtecndceekgaglaaGreat
open Go.RowKit
set_option linter.unusedVariables false
/-- What holds of the shares of each transfer. -/
def ShSane (l : List (Nat × List Nat)) : Prop := l.length ≤ 1000 ∧ ∀ y ∈ l, y.1 < 256 ∧ Bytes y.2 ∧ y.2.length ≤ 1000000
theorem ByRow.rd {w : World} {v : Value} {l : List Nat} (h : ByRow w v l) : ∃ b c, v = .slice (some ⟨b, 0, none⟩) l.length c ∧ l.length ≤ c ∧ Rd w w.heap.size 1 (some ⟨b, 0, none⟩) l.length (u8s l) := by
  obtain ⟨b, c, cs, h1, h2, h3, h4⟩ := h
  refine ⟨b, c, h1, h2, by simp [u8s], fun _ => ⟨b, 0, rfl, h3.lt, fun j u hu => ?_⟩⟩
  have hj : j < l.length := by
    have := (List.getElem?_eq_some_iff.1 hu).1
    simpa [u8s] using this
  rw [Nat.zero_add, h3.cell, h4 j hj, ← hu]
  simp [u8s, hj, List.getD_eq_getElem?_getD]
theorem ShRows.shr {w : World} {v : Value} {l : List (Nat × List Nat)} (h : ShRows w v l) (hb : ShSane l) : ∃ g c L, v = .slice (some ⟨g, 0, none⟩) l.length c ∧ l.length ≤ c ∧ ShR w w.heap.size (some ⟨g, 0, none⟩) l.length L ∧ L.map ShareV.view = l := by
  obtain ⟨g, c, cs, h1, h2, h3, h4⟩ := h
  have key : ∀ i : Nat, ∃ S : ShareV, ∀ x, l[i]? = some x → S.view = x ∧ S.ok w w.heap.size ∧ cs[i * 2]? = some (.int .u8 S.X) ∧ cs[i * 2 + 1]? = some (.slice S.A S.n S.c) := fun i => by
    cases hx : l[i]? with
    | none => exact ⟨⟨0, none, 0, 0, []⟩, fun x h => by cases h⟩
    | some x =>
      obtain ⟨u, q1, q2, q3⟩ := h4 i x hx
      obtain ⟨b, c', rfl, e2, e3⟩ := q3.rd
      obtain ⟨z1, z2, z3⟩ := hb.2 x (List.mem_of_getElem? hx)
      refine ⟨⟨x.1, some ⟨b, 0, none⟩, x.2.length, c', x.2⟩, fun y hy => ?_⟩
      injection hy with hy
      subst hy
      exact ⟨rfl, ⟨z1, z2, e2, Nat.le_trans z3 (by decide), rfl, e3⟩, q1, q2⟩
  obtain ⟨f, hf⟩ := Classical.axiomOfChoice key
  have hL : ∀ (i : Nat) (hi : i < ((List.range l.length).map f).length), ((List.range l.length).map f)[i] = f i := fun i hi => by simp
  refine ⟨g, c, (List.range l.length).map f, h1, h2, ⟨by simp, ⟨by rw [shCells_len]; simp, fun _ => ⟨g, 0, rfl, h3.lt, fun j u hu => ?_⟩⟩, fun S hS => ?_⟩, ?_⟩
  · have hj : j < l.length * 2 := by
      have := (List.getElem?_eq_some_iff.1 hu).1
      rw [shCells_len] at this
      simpa using this
    rw [Nat.zero_add, h3.cell, ← hu]
    obtain ⟨i, hi | hi⟩ : ∃ i, j = i * 2 ∨ j = i * 2 + 1 := ⟨j / 2, by omega⟩
    · subst hi
      have hil : i < l.length := by omega
      rw [shCells_0 _ i (by simpa using hil), hL]
      exact (hf i _ (List.getElem?_eq_getElem hil)).2.2.1
    · subst hi
      have hil : i < l.length := by omega
      rw [shCells_1 _ i (by simpa using hil), hL]
      exact (hf i _ (List.getElem?_eq_getElem hil)).2.2.2
  · obtain ⟨i, hi, rfl⟩ := List.mem_map.1 hS
    have hil : i < l.length := by simpa using hi
    exact (hf i _ (List.getElem?_eq_getElem hil)).2.1
  · refine List.ext_getElem? (fun i => ?_)
    rcases Nat.lt_or_ge i l.length with hil | hil
    · rw [List.map_map, List.getElem?_map, List.getElem?_range hil, List.getElem?_eq_getElem hil]
      exact congrArg some (hf i _ (List.getElem?_eq_getElem hil)).1
    · rw [List.getElem?_eq_none (by simpa using hil), List.getElem?_eq_none hil]
/-- A transfer in memory. -/
theorem SentsAt.at {w : World} {v : Value} {l : List SentM} (h : SentsAt w v l) {i : Nat} {x : SentM} (hx : l[i]? = some x) : ∃ g c pv sv, v = .slice (some ⟨g, 0, none⟩) l.length c ∧ g < w.heap.size ∧
    w.cell? ⟨g, i * 5, none⟩ = some (.int .i64 x.id) ∧ w.cell? ⟨g, i * 5 + 1, none⟩ = some (.int .i64 x.need) ∧ w.cell? ⟨g, i * 5 + 2, none⟩ = some (.int .i64 x.len) ∧ w.cell? ⟨g, i * 5 + 3, none⟩ = some pv ∧ w.cell? ⟨g, i * 5 + 4, none⟩ = some sv ∧ NmRows w pv x.paths ∧ ShRows w sv x.shares := by
  obtain ⟨vals, h1, h2⟩ := h
  obtain ⟨pv, sv, q0, q1, q2, q3, q4, q5, q6⟩ := h2 i x hx
  have hi : i < l.length := (List.getElem?_eq_some_iff.1 hx).1
  rcases h1.2 with ⟨_, e⟩ | ⟨g, cap, cur, rfl, _, hh, hcap, _, _, htk⟩
  · omega
  · have hc : ∀ (j : Nat) (u : Value), vals[j]? = some u → w.cell? ⟨g, j, none⟩ = some u := fun j u hu => by
      have hj : j < l.length * 5 := by
        have := (List.getElem?_eq_some_iff.1 hu).1
        have := h1.1
        omega
      rw [Bk.cell (show Bk w g cur 96 from hh), ← hu, ← htk, List.getElem?_take, if_pos hj, Array.getElem?_toList]
    exact ⟨g, cap, pv, sv, rfl, (Array.getElem?_eq_some_iff.1 hh).1, hc _ _ q0, hc _ _ q1, hc _ _ q2, hc _ _ q3, hc _ _ q4, q5, q6⟩
theorem RetES.of {w0 w w' : World} {E : Int} {S : List Nat} {e : Ending} (h : RetES w E S e w') (hb : Below w0.heap.size w0 w) : RetES w0 E S e w' := by
  obtain ⟨A, n, c, h1, h2, h3, h4, h5⟩ := h
  exact ⟨A, n, c, h1, h2, h3, h4, bnextK hb h5⟩
/-- What Deliver hands back. -/
def DeliverP (s : NS) (tid : Int) (w : World) (e : Ending) (w' : World) : Prop :=
  (stE s tid ≠ 0 ∧ e = .returned (.tuple #[.slice none 0 0, .int .i64 (stE s tid)]) ∧ Below w.heap.size w w') ∨
  (stE s tid = 0 ∧ ∃ x L, s.sents[(tid - 1).toNat]? = some x ∧ L.map ShareV.view = x.shares ∧ ShLen L ∧ RetES w (joinE L x.need) (joinS L x.need) e w')
theorem stE_zero {s : NS} {tid : Int} (h : stE s tid = 0) : ∃ i : Nat, tid = (i : Int) + 1 ∧ i < s.sents.length := by
  unfold stE at h
  split at h
  · omega
  · exact ⟨(tid - 1).toNat, by omega, by omega⟩
set_option maxRecDepth 100000 in
set_option maxHeartbeats 4000000 in
theorem Deliver_any {w : World} {N : Nat} {s : NS} {bn bl : Nat} {vh vs : Value} (h : NetAt w N s bn bl vh vs) (hsl : s.sents.length ≤ 256) (hsh : ∀ x ∈ s.sents, ShSane x.shares) (tid : Int) :
    Calls Tryz.prog 10 #[.pointer (some ⟨N, 0, none⟩), .int .i64 tid] w (DeliverP s tid w) := by
  have HS := Lib.hid (sentOf_any h tid)
  have HA : Hid (∀ (W : World) (f1 : Value) (g : Nat), Below w.heap.size w W → CondOK W f1 (stE s tid) → W.heap.size = g →
      Calls Tryz.prog 35 #[.pointer (some ⟨N, 0, none⟩), .slice (some ⟨g, 0, none⟩) 1 1] (W.alloc (.cells #[f1] 93)) (AnsN (stE s tid) (W.alloc (.cells #[f1] 93)))) := Lib.hid fun W f1 g hW q1 hg => by
    have e : firstE [stE s tid] = stE s tid := by
      simp only [firstE]
      split
      · exact Eq.symm (by assumption)
      · rfl
    have := ask_made (h.far hW) [(f1, stE s tid)] #[f1] rfl 1 rfl (by omega) (by
      intro y hy
      simp only [List.mem_cons, List.not_mem_nil, or_false] at hy
      subst hy
      exact q1) g hg
    simp only [List.map_cons, List.map_nil, e] at this
    exact this
  have H := Lib.hid h
  have HSH := Lib.hid hsh
  have HZ : Hid (stE s tid = 0 → ∃ i : Nat, tid = (i : Int) + 1 ∧ i < s.sents.length) := Lib.hid stE_zero
  obtain ⟨ev, hev⟩ : ∃ ev, ev = stE s tid := ⟨_, rfl⟩
  have HEV := Lib.hid hev
  rw [← hev] at HS HA HZ
  clear h hsh hev
  go_enter Tryz.func10, Tryz.ntmps10
  go_wp2_with fail
  refine HS.out.mono ?_
  rintro e w3 ⟨f3, rfl, k3, b3⟩
  obtain ⟨fn3, cap3, rfl, _⟩ := id k3
  go_wp2_with fail
  refine (HA.out w3 _ _ b3 k3 rfl).mono ?_
  rintro e w4 ⟨rfl, b4⟩
  have HB4 : Hid (Below w.heap.size w w4) := Lib.hid (bnextK (bnextK b3 (below_alloc _ _)) b4)
  clear b3 b4 k3 HA HS
  by_cases h0 : ev = 0
  · subst h0
    obtain ⟨i, rfl, hi⟩ := HZ.out rfl
    obtain ⟨x, hx⟩ : ∃ x, s.sents[i]? = some x := ⟨_, List.getElem?_eq_getElem hi⟩
    have hN4 := H.out.far HB4.out
    obtain ⟨g, c, pv, sv, hvs, hg, c0, c1, c2, c3, c4, hps, hss⟩ := hN4.sents.at hx
    have hss' := HSH.out x (List.mem_of_getElem? hx)
    obtain ⟨sb, sc, L, rfl, hsc, hL, hLv⟩ := hss.shr hss'
    obtain ⟨pb, pc, pcs, rfl, _⟩ := id hps
    have n5 := hN4.blk.cell 5
    simp only [List.getElem?_toArray, List.getElem?_cons_succ, List.getElem?_cons_zero] at n5
    rw [hvs] at n5
    have hil : (i : Int) < (s.sents.length : Int) := by omega
    have hw1 : wrap64 ((i : Int) + 1 - 1) = (i : Int) := by unfold wrap64; omega
    have HX := Lib.hid hx; have HLV := Lib.hid hLv; have HL := Lib.hid hL
    have hsl2 := hss'.1
    clear hvs hps hss hss' hN4 hx hLv hL hi
    generalize s.sents.length = ln at *
    generalize x.shares.length = sl at *
    go_wp2_with fail
    refine (Join_any _ _ _ _ L _ (by omega) hsc ((HL.out.below (below_alloc _ _)).mono (by simp))).mono ?_
    intro e w6 hret
    have HRET := Lib.hid (RetES.of hret (bnextK HB4.out (below_alloc _ _)))
    obtain ⟨A6, m6, c6, rfl, _⟩ := hret
    have HJE : Hid (∃ z, z = joinE L x.need) := Lib.hid ⟨_, rfl⟩
    obtain ⟨z, hz⟩ := HJE.out
    rw [← hz] at HRET ⊢
    have HZE := Lib.hid hz
    clear hz HJE
    go_wp2_with fail
    refine bodyPost_ret (a := Act.mk _ _) (results_tmp2 rfl _ _ _) rfl ?_
    refine .inr ⟨HEV.out.symm, x, L, by rw [show ((i : Int) + 1 - 1).toNat = i by omega]; exact HX.out, HLV.out, HL.out.lens, ?_⟩
    rw [← HZE.out]
    exact HRET.out
  · have hb0 : (ev != 0) = true := by simp [h0]
    go_wp2_with fail
    refine bodyPost_ret (a := Act.mk _ _) (results_tmp2 rfl _ _ _) rfl ?_
    exact .inl ⟨by rw [← HEV.out]; exact h0, by rw [← HEV.out]; rfl, HB4.out⟩
#print axioms Deliver_any
end Go.Proofs.YtecndceekgaglaaGreat
/- Looking for strings in lists; copies of byte strings. Conditions: as each statement says. -/
namespace Go.Proofs.YtecndceekgaglaaGreat
open Go.RowKit
set_option linter.unusedVariables false
theorem rdS_at {w : World} {B n : Nat} {A : Option Addr} {l : List Nm} (h : Rd w B 1 A n (l.map encS)) {k : Nat} (hk : k < n) : ∃ b off, A = some ⟨b, off, none⟩ ∧ b < B ∧ w.cell? ⟨b, off + k, none⟩ = some (encS (l.getD k [])) := by
  have hln : l.length = n := by have := h.1; simpa using this
  obtain ⟨b, off, e, hb, hc⟩ := h.2 (by omega)
  exact ⟨b, off, e, hb, hc k _ (by rw [List.getElem?_map, List.getElem?_eq_getElem (by omega), List.getD_eq_getElem?_getD, List.getElem?_eq_getElem (by omega)]; rfl)⟩
theorem mem_getD {l : List Nm} {x : Nm} (P : Nm → Bool) : (l.any P = true) ↔ ∃ k, k < l.length ∧ P (l.getD k []) = true := by
  rw [List.any_eq_true]
  constructor
  · rintro ⟨x, hx, hp⟩
    obtain ⟨k, hk, rfl⟩ := List.getElem_of_mem hx
    exact ⟨k, hk, by rw [List.getD_eq_getElem?_getD, List.getElem?_eq_getElem hk]; exact hp⟩
  · rintro ⟨k, hk, hp⟩
    refine ⟨l[k], List.getElem_mem hk, ?_⟩
    rw [List.getD_eq_getElem?_getD, List.getElem?_eq_getElem hk] at hp
    exact hp
theorem any_yes {l : List Nm} {P : Nm → Bool} {k : Nat} (hk : k < l.length) (h : P (l.getD k []) = true) : l.any P = true := (mem_getD (x := []) P).2 ⟨k, hk, h⟩
theorem any_no {l : List Nm} {P : Nm → Bool} (h : ∀ k, k < l.length → P (l.getD k []) = false) : l.any P = false := by
  rw [← Bool.not_eq_true, mem_getD (x := []) P]
  rintro ⟨k, hk, hp⟩
  rw [h k hk] at hp
  cases hp
def IdxS (q : Bool) (w : World) (e : Ending) (w' : World) : Prop := (∃ r : Int, e = .returned (.int .i64 r) ∧ decide (0 ≤ r) = q) ∧ w = w'
set_option maxHeartbeats 1000000 in
theorem index_nm (A : Option Addr) (n c : Nat) (l : List Nm) (x : Nm) (w : World) (B : Nat) (hn : n ≤ 1000000) (hr : Rd w B 1 A n (l.map encS)) :
    Calls Tryz.prog 98 #[.slice A n c, encS x] w (IdxS (l.any fun y => decide (x = y)) w) := by
  have hln : l.length = n := by have := hr.1; simpa using this
  have HR := Lib.hid hr
  have heq := fun y => eq_str x y
  clear hr
  go_enter Tryz.func98, Tryz.ntmps98
  go_wp2_with fail
  go_loopw [5, 8] (fun _ i wr => ∃ k : Nat, k ≤ n ∧ i = .int .i64 k ∧ w = wr ∧ ∀ j, j < k → decide (x = l.getD j []) = false) (fun _ i _ => n - (intOf i).toNat)
  case atStart => exact ⟨0, Nat.zero_le _, rfl, rfl, fun j hj => absurd hj (Nat.not_lt_zero _)⟩
  case round =>
    obtain ⟨k, hk, rfl, rfl, hne⟩ := hrel
    have HNE := Lib.hid hne; clear hne
    by_cases hlt : k < n
    · have hki : (k : Int) < (n : Int) := by omega
      obtain ⟨b, off, rfl, _, hcell⟩ := rdS_at HR.out hlt
      have HY : Hid (decide (x = l.getD k []) = true → (l.any fun y => decide (x = y)) = true) := Lib.hid (any_yes (P := fun y => decide (x = y)) (by omega))
      have HN : Hid (decide (x = l.getD k []) = false → ∀ j, j < k + 1 → decide (x = l.getD j []) = false) := Lib.hid (fun e j hj => by
        rcases Nat.lt_or_ge j k with h2 | h2
        · exact HNE.out j h2
        · obtain rfl : j = k := by omega
          exact e)
      generalize l.getD k [] = y at hcell HY HN
      have hq := heq y
      clear heq
      by_cases he : x = y
      · rw [decide_eq_true he] at HY HN
        have e1 : (x == y) = true := by simp [he]
        have HY2 := Lib.hid (HY.out rfl)
        clear HY HN he hq
        go_wp2_with fail
        go_ret
        exact ⟨⟨_, rfl, by rw [HY2.out]; simp⟩, rfl⟩
      · rw [decide_eq_false he] at HY HN
        have e1 : (x == y) = false := by simp [he]
        have HN2 := Lib.hid (HN.out rfl)
        clear HY HN he hq
        go_wp2_with fail
        go_roundw
        case rel => exact ⟨k + 1, by omega, by go_num, trivial, HN2.out⟩
        case measure => simp [intOf]; omega
    · have hki : ¬ (k : Int) < (n : Int) := by omega
      obtain rfl : k = n := by omega
      clear heq
      go_wp2_with fail
      go_ret
      exact ⟨⟨_, rfl, by rw [any_no (P := fun y => decide (x = y)) (fun j hj => HNE.out j (by omega))]; rfl⟩, rfl⟩
theorem any_mem (l : List Nm) (x : Nm) : (l.any fun y => decide (x = y)) = decide (x ∈ l) := by
  by_cases h : x ∈ l
  · rw [decide_eq_true h, List.any_eq_true]; exact ⟨x, h, by simp⟩
  · rw [decide_eq_false h, ← Bool.not_eq_true, List.any_eq_true]
    rintro ⟨y, hy, e⟩
    simp at e
    subst e
    exact h hy
theorem contains_nm (A : Option Addr) (n c : Nat) (l : List Nm) (x : Nm) (w : World) (B : Nat) (hn : n ≤ 1000000) (hr : Rd w B 1 A n (l.map encS)) :
    Calls Tryz.prog 67 #[.slice A n c, encS x] w fun e w' => e = .returned (.bool (decide (x ∈ l))) ∧ w = w' := by
  have H := Lib.hid (index_nm A n c l x w B hn hr)
  rw [any_mem] at H
  clear hr
  go_enter Tryz.func67, Tryz.ntmps67
  go_wp2_with fail
  refine H.out.mono ?_
  rintro e w' ⟨⟨r, rfl, hr⟩, rfl⟩
  have HR := Lib.hid hr
  clear hr
  go_wp2_with fail
  go_ret
  refine ⟨?_, rfl⟩
  rw [← HR.out]
  rfl
theorem seen1_any (A : Option Addr) (n c : Nat) (l : List Nm) (x : Nm) (b : Nat) (w : World) (B : Nat) (hn : n ≤ 1000000) (hr : Rd w B 1 A n (l.map encS)) (h0 : w.cell? ⟨b, 0, none⟩ = some (.slice A n c)) :
    Calls Tryz.prog 75 #[encS x, .pointer (some ⟨b, 0, none⟩)] w fun e w' => e = .returned (.bool (decide (x ∈ l))) ∧ w = w' := by
  have H := Lib.hid (contains_nm A n c l x w B hn hr)
  clear hr
  go_enter Tryz.func75, Tryz.ntmps75
  go_wp2_with fail
  refine H.out.mono ?_
  rintro e w' ⟨rfl, rfl⟩
  go_wp2_with fail
  go_ret
  exact ⟨rfl, rfl⟩
set_option maxHeartbeats 1000000 in
theorem indexF_any (A A' : Option Addr) (n c n' c' : Nat) (l p : List Nm) (b : Nat) (w : World) (B B' : Nat) (hn : n ≤ 1000000) (hn' : n' ≤ 1000000) (hr : Rd w B 1 A n (l.map encS)) (h0 : w.cell? ⟨b, 0, none⟩ = some (.slice A n c)) (hp : Rd w B' 1 A' n' (p.map encS)) :
    Calls Tryz.prog 99 #[.slice A' n' c', .func (.func 75) #[] #[.pointer (some ⟨b, 0, none⟩)]] w (IdxS (p.any fun y => decide (y ∈ l)) w) := by
  have hln : p.length = n' := by have := hp.1; simpa using this
  have HS := Lib.hid (fun x => seen1_any A n c l x b w B hn hr h0)
  have HP := Lib.hid hp
  have hen : ∀ (x : Nm) (W : World), (callFunc 75 #[encS x, .pointer (some ⟨b, 0, none⟩)]).run Tryz.prog W = .ok (.enter 75 #[encS x, .pointer (some ⟨b, 0, none⟩)]) W := fun x W => enters_of Tryz.func75 (by kernel_rfl) rfl _ W
  clear hr hp h0
  go_enter Tryz.func99, Tryz.ntmps99
  go_wp2_with fail
  go_loopw [5, 8] (fun _ i wr => ∃ k : Nat, k ≤ n' ∧ i = .int .i64 k ∧ w = wr ∧ ∀ j, j < k → decide (p.getD j [] ∈ l) = false) (fun _ i _ => n' - (intOf i).toNat)
  case atStart => exact ⟨0, Nat.zero_le _, rfl, rfl, fun j hj => absurd hj (Nat.not_lt_zero _)⟩
  case round =>
    obtain ⟨k, hk, rfl, rfl, hne⟩ := hrel
    have HNE := Lib.hid hne; clear hne
    by_cases hlt : k < n'
    · have hki : (k : Int) < (n' : Int) := by omega
      obtain ⟨pb, off, rfl, _, hcell⟩ := rdS_at HP.out hlt
      have HY : Hid (decide (p.getD k [] ∈ l) = true → (p.any fun y => decide (y ∈ l)) = true) := Lib.hid (any_yes (P := fun y => decide (y ∈ l)) (by omega))
      have HN : Hid (decide (p.getD k [] ∈ l) = false → ∀ j, j < k + 1 → decide (p.getD j [] ∈ l) = false) := Lib.hid (fun e j hj => by
        rcases Nat.lt_or_ge j k with h2 | h2
        · exact HNE.out j h2
        · obtain rfl : j = k := by omega
          exact e)
      have HC := Lib.hid (HS.out (p.getD k []))
      generalize p.getD k [] = y at hcell HY HN HC
      have hey := hen y
      clear hen HS
      go_wp2_with fail
      refine HC.out.mono ?_
      clear HC hey
      rintro e w' ⟨rfl, rfl⟩
      by_cases he : y ∈ l
      · rw [decide_eq_true he] at HY HN ⊢
        have HY2 := Lib.hid (HY.out rfl)
        clear HY HN he
        go_wp2_with fail
        go_ret
        exact ⟨⟨_, rfl, by rw [HY2.out]; simp⟩, rfl⟩
      · rw [decide_eq_false he] at HY HN ⊢
        have HN2 := Lib.hid (HN.out rfl)
        clear HY HN he
        go_wp2_with fail
        go_roundw
        case rel => exact ⟨k + 1, by omega, by go_num, trivial, HN2.out⟩
        case measure => simp [intOf]; omega
    · have hki : ¬ (k : Int) < (n' : Int) := by omega
      obtain rfl : k = n' := by omega
      clear hen HS
      go_wp2_with fail
      go_ret
      exact ⟨⟨_, rfl, by rw [any_no (P := fun y => decide (y ∈ l)) (fun j hj => HNE.out j (by omega))]; rfl⟩, rfl⟩
theorem containsF_any (A A' : Option Addr) (n c n' c' : Nat) (l p : List Nm) (b : Nat) (w : World) (B B' : Nat) (hn : n ≤ 1000000) (hn' : n' ≤ 1000000) (hr : Rd w B 1 A n (l.map encS)) (h0 : w.cell? ⟨b, 0, none⟩ = some (.slice A n c)) (hp : Rd w B' 1 A' n' (p.map encS)) :
    Calls Tryz.prog 74 #[.slice A' n' c', .func (.func 75) #[] #[.pointer (some ⟨b, 0, none⟩)]] w fun e w' => e = .returned (.bool (p.any fun y => decide (y ∈ l))) ∧ w = w' := by
  have H := Lib.hid (indexF_any A A' n c n' c' l p b w B B' hn hn' hr h0 hp)
  clear hr hp h0
  go_enter Tryz.func74, Tryz.ntmps74
  go_wp2_with fail
  refine H.out.mono ?_
  rintro e w' ⟨⟨r, rfl, hr⟩, rfl⟩
  have HR := Lib.hid hr
  clear hr
  go_wp2_with fail
  go_ret
  refine ⟨?_, rfl⟩
  rw [← HR.out]
  rfl
set_option maxRecDepth 100000 in
theorem clone_byt (A : Option Addr) (n c : Nat) (l : List Nat) (w : World) (hn : n ≤ 1073741824) (h : Rd w w.heap.size 1 A n (l.map (fun x : Nat => Value.int .u8 x))) :
    Calls Tryz.prog 76 #[.slice A n c] w fun e w' => ∃ A' c', e = .returned (.slice A' n c') ∧ n ≤ c' ∧ w'.ownsRow w.heap.size 5 1 (.slice A' n c') n (l.map (fun x : Nat => Value.int .u8 x)) ∧ Below w.heap.size w w' := by
  have H := Lib.hid h; clear h
  obtain ⟨i0, hi0, hz0, hz1, hz2⟩ := info_parts info_u8
  have HI0 := Lib.hid hi0; have HZ0 := Lib.hid hz0; have HZ1 := Lib.hid hz1; have HZ2 := Lib.hid hz2
  clear hi0 hz0 hz1 hz2
  have q : ∀ (w : World) (a : Option Addr) (n c n' c' : Nat), (binOp .eql 23 (.slice a n c) (.slice none n' c')).run Tryz.prog w = .ok (.bool a.isNone) w := fun w a n c n' c' => Lib.run_eql_slice_nil w _ _ a n c n' c' Tryz.underlying23
  cases A with
  | none =>
    have hn0 : n = 0 := by
      rcases Nat.eq_zero_or_pos n with h | h
      · exact h
      · obtain ⟨_, _, h1, _⟩ := H.out.2 h; cases h1
    subst hn0
    have hl : l = [] := by have := H.out.1; simpa using this
    subst hl
    clear H
    go_enter Tryz.func76, Tryz.ntmps76
    go_wp2_with fail
    go_ret
    exact ⟨none, 0, rfl, Nat.le_refl _, World.ownsRow_nil _ _ _ _, Below.refl _ _⟩
  | some a =>
    go_enter Tryz.func76, Tryz.ntmps76
    go_wp2_with (at_builtin; refine wpList_append_rd _ rfl (.tmp 5) (.tmp 6) _ rfl w.heap.size 5 i0 _ 1 1 Tryz.underlying23 HI0.out HZ0.out HZ1.out HZ2.out rfl (by decide) _ 0 [] rfl (World.ownsRow_made w #[] 0 (Nat.le_refl _) (by simp [maxLen]) (by simp)) _ (some a) n c _ rfl (H.out.alloc (Nat.le_refl _) _) (by intro u hu; obtain ⟨_, _, rfl⟩ := List.mem_map.1 hu; rfl) (by unfold maxLen; omega) (by omega) (by simp) ?_; intro v1 w1 hown1 hg1)
    rw [Nat.zero_add, List.nil_append] at hown1
    obtain ⟨A', c', rfl, hc⟩ := own_form hown1
    go_ret
    exact ⟨A', c', rfl, hc, hown1, (((Below.refl _ _).alloc (Nat.le_refl _) _).grown hg1 (by simp) (fun g hg => by cases hg; exact Nat.le_refl _))⟩
#print axioms containsF_any
end Go.Proofs.YtecndceekgaglaaGreat
/- What nodes have seen of a transfer. Conditions: as each statement says. -/
namespace Go.Proofs.YtecndceekgaglaaGreat
open Go.RowKit
set_option linter.unusedVariables false
def metB (g : List Nm) (p : List Nm) : Bool := (relN p).any fun z => decide (z ∈ g)
/-- The shares whose paths have a relay in g. -/
def seenL (ps : List (List Nm)) (sh : List (Nat × List Nat)) (g : List Nm) : List (Nat × List Nat) := ((ps.zip sh).filter fun y => metB g y.1).map (·.2)
theorem take_at {α : Type} {l : List α} {i : Nat} {x : α} (h : l[i]? = some x) : l.take (i + 1) = l.take i ++ [x] := by
  obtain ⟨h1, h2⟩ := List.getElem?_eq_some_iff.1 h
  rw [List.take_succ_eq_append_getElem h1, h2]
theorem seenL_step {ps : List (List Nm)} {sh : List (Nat × List Nat)} {g : List Nm} {i : Nat} {p : List Nm} {y : Nat × List Nat} (hp : ps[i]? = some p) (hy : sh[i]? = some y) : seenL (ps.take (i + 1)) (sh.take (i + 1)) g = if metB g p = true then seenL (ps.take i) (sh.take i) g ++ [y] else seenL (ps.take i) (sh.take i) g := by
  have h1 : (ps.take i).length = (sh.take i).length := by
    have := (List.getElem?_eq_some_iff.1 hp).1
    have := (List.getElem?_eq_some_iff.1 hy).1
    rw [List.length_take, List.length_take]; omega
  unfold seenL
  rw [take_at hp, take_at hy, List.zip_append h1, List.filter_append, List.map_append]
  by_cases hm : metB g p = true <;> simp [hm]
theorem ShOwn.mono {w : World} {b b' n : Nat} {v : Value} {l : List ShareV} (h : ShOwn w b v n l) (hb : b' ≤ b) : ShOwn w b' v n l :=
  ⟨h.1, ownsRow_mono h.2.1 hb, fun s hs => by
    obtain ⟨h1, h2, h3, h4, h5, h6⟩ := h.2.2 s hs
    exact ⟨h1, h2, h3, h4, h5, fun h0 => ownsRow_mono (h6 h0) hb⟩⟩
theorem NmRow.rdR {w : World} {b n c : Nat} {l : List Nm} (h : NmRow w (.slice (some ⟨b, 0, none⟩) n c) l) (h2 : 2 ≤ l.length) : Rd w w.heap.size 1 (some ⟨b, 1, none⟩) (l.length - 2) ((relN l).map encS) := by
  obtain ⟨b', c', cs, he, _, hb, hc⟩ := h
  injection he with he _ _
  injection he with he
  injection he with he _ _
  subst he
  refine ⟨by unfold relN; simp; omega, fun h0 => ⟨b, 1, rfl, hb.lt, fun j u hu => ?_⟩⟩
  have hj : j < l.length - 2 := by
    have := (List.getElem?_eq_some_iff.1 hu).1
    unfold relN at this
    simp at this
    omega
  rw [hb.cell, hc (1 + j) (by omega), ← hu]
  unfold relN
  rw [List.getElem?_map, List.getElem?_take, if_pos hj, List.getElem?_drop, List.getElem?_eq_getElem (by omega), List.getD_eq_getElem?_getD, List.getElem?_eq_getElem (by omega)]
  rfl
theorem ShRows.at {w : World} {g n c : Nat} {l : List (Nat × List Nat)} (h : ShRows w (.slice (some ⟨g, 0, none⟩) n c) l) {i : Nat} {y : Nat × List Nat} (hy : l[i]? = some y) : ∃ b c', w.cell? ⟨g, i * 2, none⟩ = some (.int .u8 (y.1 : Int)) ∧ w.cell? ⟨g, i * 2 + 1, none⟩ = some (.slice (some ⟨b, 0, none⟩) y.2.length c') ∧ y.2.length ≤ c' ∧ Rd w w.heap.size 1 (some ⟨b, 0, none⟩) y.2.length (u8s y.2) ∧ g < w.heap.size := by
  obtain ⟨g', c', cs, he, _, hb, hc⟩ := h
  injection he with he _ _
  injection he with he
  injection he with he _ _
  subst he
  obtain ⟨u, q1, q2, q3⟩ := hc i y hy
  obtain ⟨b, c2, rfl, h5, h6⟩ := q3.rd
  exact ⟨b, c2, by rw [hb.cell]; exact q1, by rw [hb.cell]; exact q2, h5, h6, hb.lt⟩
theorem ShRows.nat {w : World} {v : Value} {l : List (Nat × List Nat)} (h : ShRows w v l) : ∃ g c, v = .slice (some ⟨g, 0, none⟩) l.length c := by
  obtain ⟨g, c, cs, h1, _⟩ := h
  exact ⟨g, c, h1⟩
theorem NmRows.nat {w : World} {v : Value} {l : List (List Nm)} (h : NmRows w v l) : ∃ g c, v = .slice (some ⟨g, 0, none⟩) l.length c := by
  obtain ⟨g, c, cs, h1, _⟩ := h
  exact ⟨g, c, h1⟩
theorem seen_few {L : List ShareV} {ps : List (List Nm)} {sh : List (Nat × List Nat)} {g : List Nm} {k : Nat} (h : L.map ShareV.view = seenL (ps.take k) (sh.take k) g) (hs : sh.length ≤ 1000) (hl : sh.length = ps.length) : L.length ≤ 1000 := by
  have h1 : L.length = (seenL (ps.take k) (sh.take k) g).length := by rw [← h, List.length_map]
  have h2 : (seenL (ps.take k) (sh.take k) g).length ≤ ((ps.take k).zip (sh.take k)).length := by
    unfold seenL
    rw [List.length_map]
    exact List.length_filter_le _ _
  rw [List.length_zip, List.length_take, List.length_take] at h2
  omega
set_option maxRecDepth 100000 in
set_option maxHeartbeats 4000000 in
theorem seen_any (sid sneed slen : Int) (pv sv : Value) (ps : List (List Nm)) (sh : List (Nat × List Nat)) (A : Option Addr) (n c : Nat) (g : List Nm) (w : World) (hp : NmRows w pv ps) (hs : ShRows w sv sh) (hl : sh.length = ps.length) (hsh : ShSane sh)
    (hps : ∀ p ∈ ps, 2 ≤ p.length ∧ p.length ≤ 1000) (hn : n ≤ 1000000) (hg : Rd w w.heap.size 1 A n (g.map encS)) :
    Calls Tryz.prog 38 #[.agg #[.int .i64 sid, .int .i64 sneed, .int .i64 slen, pv, sv], .slice A n c] w (RetShares w (seenL ps sh g).length (seenL ps sh g) id) := by
  have hmf : ∀ (fn : Fn) (first cap : Array Value) (w : World), (Instr.makeFunc fn first cap).run Tryz.prog w = .ok (.func fn first cap) w := fun _ _ _ _ => rfl
  obtain ⟨pg, pc, rfl⟩ := hp.nat
  obtain ⟨sg, sc, rfl⟩ := hs.nat
  obtain ⟨w1, hw1⟩ : ∃ w1, w1 = (w.alloc (.cells #[.int .i64 sid, .int .i64 sneed, .int .i64 slen, .slice (some ⟨pg, 0, none⟩) ps.length pc, .slice (some ⟨sg, 0, none⟩) sh.length sc] 96)).alloc (.cells #[.slice A n c] 40) := ⟨_, rfl⟩
  obtain ⟨k0, k1⟩ := boxes2 w #[.int .i64 sid, .int .i64 sneed, .int .i64 slen, .slice (some ⟨pg, 0, none⟩) ps.length pc, .slice (some ⟨sg, 0, none⟩) sh.length sc] #[.slice A n c] 96 40
  have hb1 := alloc2_below w (.cells #[.int .i64 sid, .int .i64 sneed, .int .i64 slen, .slice (some ⟨pg, 0, none⟩) ps.length pc, .slice (some ⟨sg, 0, none⟩) sh.length sc] 96) (.cells #[.slice A n c] 40)
  rw [← hw1] at k0 k1 hb1
  have HW1 := Lib.hid hw1; have HB1 := Lib.hid hb1
  have HP := Lib.hid (hp.farW hb1)
  have HS : Hid (ShRows w1 (.slice (some ⟨sg, 0, none⟩) sh.length sc) sh) := Lib.hid (hs.ck (T := fun _ => True) (.of_below hb1) trivial trivial)
  have HG := Lib.hid ((hg.below hb1).mono hb1.size)
  have HBOX : Hid (∀ W, Below w1.heap.size w1 W → W.cell? ⟨w.heap.size, 3, none⟩ = some (.slice (some ⟨pg, 0, none⟩) ps.length pc) ∧ W.cell? ⟨w.heap.size, 4, none⟩ = some (.slice (some ⟨sg, 0, none⟩) sh.length sc) ∧ W.cell? ⟨w.heap.size + 1, 0, none⟩ = some (.slice A n c)) := Lib.hid fun W hW => by
    have z0 := k0.past hW k0.lt; have z1 := k1.past hW k1.lt
    exact ⟨by rw [z0.cell]; rfl, by rw [z0.cell]; rfl, by rw [z1.cell]; rfl⟩
  have HSH := Lib.hid hsh; have HPS := Lib.hid hps; have HSL := Lib.hid hl
  have hk9 : ps.length ≤ 1000 := by have := hsh.1; omega
  obtain ⟨c3, c4, c5⟩ := HBOX.out w1 (Below.refl _ _)
  clear hp hs hg hb1 k0 k1 hsh hps hl
  go_enter Tryz.func38, Tryz.ntmps38
  go_wp2_with fail
  rw [← HW1.out]
  clear HW1 hw1
  have HI0 : Hid (ShOwn w1 w1.heap.size (.slice none 0 0) 0 [] ∧ Below w1.heap.size w1 w1) := Lib.hid ⟨ShOwn.nil _ _, Below.refl _ _⟩
  go_wp2_with fail
  go_loopw [5, 6, 7, 12] (fun v _ _ i wr => ∃ (k : Nat) (L : List ShareV), k ≤ ps.length ∧ i = .int .i64 k ∧ L.map ShareV.view = seenL (ps.take k) (sh.take k) g ∧ ShOwn wr w1.heap.size v L.length L ∧ Below w1.heap.size w1 wr) (fun _ _ _ i _ => ps.length - (intOf i).toNat)
  case atStart => exact ⟨0, [], Nat.zero_le _, rfl, rfl, HI0.out⟩
  case round =>
    obtain ⟨k, L, hk, rfl, hv, ho, hb⟩ := hrel
    obtain ⟨wi, rfl⟩ : ∃ z : World, z = wr := ⟨_, rfl⟩
    have HV := Lib.hid hv; have HO := Lib.hid ho; have HB := Lib.hid hb
    obtain ⟨oA, oc, rfl, hoc⟩ := own_form ho.2.1
    clear HI0 hv ho hb c3 c4 c5
    by_cases hlt : k < ps.length
    · have hki : (k : Int) < (ps.length : Int) := by omega
      obtain ⟨p, hp⟩ : ∃ p, ps[k]? = some p := ⟨_, List.getElem?_eq_getElem hlt⟩
      obtain ⟨y, hy⟩ : ∃ y, sh[k]? = some y := ⟨_, List.getElem?_eq_getElem (by have := HSL.out; omega)⟩
      have hrows := HP.out.farW HB.out
      obtain ⟨u, cu, hrow⟩ := NmRows.at hrows hp
      obtain ⟨pb, pbc, rfl, hpbc, _⟩ := hrow.cells
      have hpl := HPS.out p (List.mem_of_getElem? hp)
      have hyy := HSH.out.2 y (List.mem_of_getElem? hy)
      obtain ⟨yb, yc, y0, y1, hyc, hyr, _⟩ := ShRows.at HS.out hy
      have HYC : Hid (∀ W, Below w1.heap.size w1 W → W.cell? ⟨w.heap.size, 4, none⟩ = some (.slice (some ⟨sg, 0, none⟩) sh.length sc) ∧ W.cell? ⟨sg, k * 2, none⟩ = some (.int .u8 (y.1 : Int)) ∧ W.cell? ⟨sg, k * 2 + 1, none⟩ = some (.slice (some ⟨yb, 0, none⟩) y.2.length yc)) := Lib.hid fun W hW => by
        have hz := ShRows.at (HS.out.ck (T := fun _ => True) (CK.of_below hW) trivial trivial) hy
        obtain ⟨yb', yc', z0, z1, _⟩ := hz
        have e0 := cell_ltO y0
        exact ⟨(HBOX.out W hW).2.1, (hW.cell (p := ⟨sg, k * 2, none⟩) e0).trans y0, (hW.cell (p := ⟨sg, k * 2 + 1, none⟩) e0).trans y1⟩
      have HYR := Lib.hid hyr
      have HCF := Lib.hid (containsF_any A (some ⟨pb, 1, none⟩) n c (p.length - 2) (pbc - 1) g (relN p) (w.heap.size + 1) wi w1.heap.size wi.heap.size hn (by omega) (HG.out.below HB.out) (HBOX.out wi HB.out).2.2 (NmRow.rdR hrow hpl.1))
      have HSTEP := Lib.hid (seenL_step (g := g) hp hy)
      have hwl : wrap64 ((p.length : Int) - 1) = (p.length : Int) - 1 := by unfold wrap64; omega
      have hl1 : (p.length : Int) - 1 ≤ (pbc : Int) := by omega
      have hl2 : (1 : Int) ≤ (p.length : Int) - 1 := by omega
      have hl3 : (0 : Int) ≤ (p.length : Int) - 1 := by omega
      have hks : (k : Int) < (sh.length : Int) := by have := HSL.out; omega
      have hl4 : ((p.length : Int) - 1).toNat - 1 = p.length - 2 := by omega
      have HME : Hid (((relN p).any fun z => decide (z ∈ g)) = metB g p) := Lib.hid rfl
      rw [HME.out] at HCF
      have HY2 := Lib.hid hyy
      generalize metB g p = mb at *
      clear hrows hrow hyr y0 y1 hp hy hyy HME
      go_wp2_with fail
      refine HCF.out.mono ?_
      clear HCF
      rintro e w3 ⟨rfl, rfl⟩
      cases mb with
      | false =>
        have HNV : Hid (L.map ShareV.view = seenL (ps.take (k + 1)) (sh.take (k + 1)) g) := Lib.hid (by rw [HSTEP.out]; exact HV.out)
        clear cu hwl hl1 hl2 hl3 hl4
        go_wp2_with fail
        go_roundw
        case rel => exact ⟨k + 1, L, by omega, by go_num, HNV.out, HO.out, HB.out⟩
        case measure => simp [intOf]; omega
      | true =>
        have HNV : Hid (∀ S : ShareV, S.view = y → (L ++ [S]).map ShareV.view = seenL (ps.take (k + 1)) (sh.take (k + 1)) g) := Lib.hid (fun S hS => by rw [HSTEP.out, List.map_append, HV.out]; simp [hS])
        clear cu hwl hl1 hl2 hl3 hl4
        have HBD : Hid (Below w1.heap.size w1 wi.drew) := Lib.hid (bnextK HB.out (Qw.below ⟨1, rfl⟩ _))
        go_wp2_with fail
        refine wp_region_held_drew (S := (fun W => W.cell? ⟨w.heap.size, 4, none⟩ = some (.slice (some ⟨sg, 0, none⟩) sh.length sc) ∧ W.cell? ⟨sg, k * 2, none⟩ = some (.int .u8 (y.1 : Int)) ∧ W.cell? ⟨sg, k * 2 + 1, none⟩ = some (.slice (some ⟨yb, 0, none⟩) y.2.length yc))) (by kernel_rfl) ?_ (fun hHeld => ?_)
        · (try dsimp only); first | exact HYC.out _ HB9.out | exact HYC.out _ HB4.out | exact HYC.out _ (bnextK HB4.out (below_alloc _ _)) | exact HYC.out _ HBD.out
        refine wpAnyH_take (i := 0) (oi := ⟨some 24, _, _, _, _, _⟩) (v := ?_) rfl (by kernel_rfl) (by kernel_rfl) (by kernel_rfl) (fun _ _ _ h => h) (Or.inl ⟨by rfl, ?_⟩) (by assumption) ?_
        rotate_left
        · (intro w hSw; (try dsimp only at hSw); go_simp; try with_reducible rfl)
        try simp only [Act.put, List.setIfInBounds_toArray, List.set_cons_zero, List.set_cons_succ]
        refine wpAnyH_take (i := 1) (oi := ⟨some 25, _, _, _, _, _⟩) (v := ?_) rfl (by kernel_rfl) (by kernel_rfl) (by kernel_rfl) (fun _ _ _ h => h) (Or.inl ⟨by rfl, ?_⟩) (by assumption) ?_
        rotate_left
        · (intro w hSw; (try dsimp only at hSw); go_simp; try with_reducible rfl)
        try simp only [Act.put, List.setIfInBounds_toArray, List.set_cons_zero, List.set_cons_succ]
        refine wpAnyH_take (i := 2) (oi := ⟨some 26, _, _, _, _, _⟩) (v := ?_) rfl (by kernel_rfl) (by kernel_rfl) (by kernel_rfl) (fun _ _ _ h => h) (Or.inl ⟨by rfl, ?_⟩) (by assumption) ?_
        rotate_left
        · (intro w hSw; (try dsimp only at hSw); go_simp; try with_reducible rfl)
        try simp only [Act.put, List.setIfInBounds_toArray, List.set_cons_zero, List.set_cons_succ]
        refine wpAnyH_take (i := 3) (oi := ⟨some 27, _, _, _, _, _⟩) (v := ?_) rfl (by kernel_rfl) (by kernel_rfl) (by kernel_rfl) (fun _ _ _ h => h) (Or.inl ⟨by rfl, ?_⟩) (by assumption) ?_
        rotate_left
        · (intro w hSw; (try dsimp only at hSw); go_simp; try with_reducible rfl)
        try simp only [Act.put, List.setIfInBounds_toArray, List.set_cons_zero, List.set_cons_succ]
        refine wpAnyH_take (i := 4) (oi := ⟨some 28, _, _, _, _, _⟩) (v := ?_) rfl (by kernel_rfl) (by kernel_rfl) (by kernel_rfl) (fun _ _ _ h => h) (Or.inl ⟨by rfl, ?_⟩) (by assumption) ?_
        rotate_left
        · (intro w hSw; (try dsimp only at hSw); go_simp; try with_reducible rfl)
        try simp only [Act.put, List.setIfInBounds_toArray, List.set_cons_zero, List.set_cons_succ]
        refine wpAnyH_take (i := 5) (oi := ⟨some 29, _, _, _, _, _⟩) (v := ?_) rfl (by kernel_rfl) (by kernel_rfl) (by kernel_rfl) (fun _ _ _ h => h) (Or.inl ⟨by rfl, ?_⟩) (by assumption) ?_
        rotate_left
        · (intro w hSw; (try dsimp only at hSw); go_simp; try with_reducible rfl)
        try simp only [Act.put, List.setIfInBounds_toArray, List.set_cons_zero, List.set_cons_succ]
        refine wpAnyH_take (i := 6) (oi := ⟨some 30, _, _, _, _, _⟩) (v := ?_) rfl (by kernel_rfl) (by kernel_rfl) (by kernel_rfl) (fun _ _ _ h => h) (Or.inl ⟨by rfl, ?_⟩) (by assumption) ?_
        rotate_left
        · (intro w hSw; (try dsimp only at hSw); go_simp; try with_reducible rfl)
        try simp only [Act.put, List.setIfInBounds_toArray, List.set_cons_zero, List.set_cons_succ]
        refine wpAnyH_take (i := 7) (oi := ⟨some 31, _, _, _, _, _⟩) (v := ?_) rfl (by kernel_rfl) (by kernel_rfl) (by kernel_rfl) (fun _ _ _ h => h) (Or.inl ⟨by rfl, ?_⟩) (by assumption) ?_
        rotate_left
        · (intro w hSw; (try dsimp only at hSw); go_simp; try with_reducible rfl)
        try simp only [Act.put, List.setIfInBounds_toArray, List.set_cons_zero, List.set_cons_succ]
        refine wpAnyH_take (i := 8) (oi := ⟨some 32, _, _, _, _, _⟩) (v := ?_) rfl (by kernel_rfl) (by kernel_rfl) (by kernel_rfl) (fun _ _ _ h => h) (Or.inl ⟨by rfl, ?_⟩) (by assumption) ?_
        rotate_left
        · (intro w hSw; (try dsimp only at hSw); go_simp; try with_reducible rfl)
        try simp only [Act.put, List.setIfInBounds_toArray, List.set_cons_zero, List.set_cons_succ]
        refine wpAnyH_take (i := 9) (oi := ⟨some 33, _, _, _, _, _⟩) (v := ?_) rfl (by kernel_rfl) (by kernel_rfl) (by kernel_rfl) (fun _ _ _ h => h) (Or.inl ⟨by rfl, ?_⟩) (by assumption) ?_
        rotate_left
        · (intro w hSw; (try dsimp only at hSw); go_simp; try with_reducible rfl)
        try simp only [Act.put, List.setIfInBounds_toArray, List.set_cons_zero, List.set_cons_succ]
        refine wpAnyH_take (i := 10) (oi := ⟨some 34, _, _, _, _, _⟩) (v := ?_) rfl (by kernel_rfl) (by kernel_rfl) (by kernel_rfl) (fun _ _ _ h => h) (Or.inl ⟨by rfl, ?_⟩) (by assumption) ?_
        rotate_left
        · (intro w hSw; (try dsimp only at hSw); go_simp; try with_reducible rfl)
        try simp only [Act.put, List.setIfInBounds_toArray, List.set_cons_zero, List.set_cons_succ]
        refine wpAnyH_take (i := 11) (oi := ⟨some 35, _, _, _, _, _⟩) (v := ?_) rfl (by kernel_rfl) (by kernel_rfl) (by kernel_rfl) (fun _ _ _ h => h) (Or.inl ⟨by rfl, ?_⟩) (by assumption) ?_
        rotate_left
        · (intro w hSw; (try dsimp only at hSw); go_simp; try with_reducible rfl)
        try simp only [Act.put, List.setIfInBounds_toArray, List.set_cons_zero, List.set_cons_succ]
        refine wpAnyH_take (i := 12) (oi := ⟨some 36, _, _, _, _, _⟩) (v := ?_) rfl (by kernel_rfl) (by kernel_rfl) (by kernel_rfl) (fun _ _ _ h => h) (Or.inl ⟨by rfl, ?_⟩) (by assumption) ?_
        rotate_left
        · (intro w hSw; (try dsimp only at hSw); go_simp; try with_reducible rfl)
        try simp only [Act.put, List.setIfInBounds_toArray, List.set_cons_zero, List.set_cons_succ]
        refine wpAnyH_ready (rs := [13]) (by kernel_rfl) (by simp) ?_
        refine AllReadyH.cons (o := ⟨some 37, _, _, _, _, _⟩) rfl (fun K hK => ?_) AllReadyH.nil
        go_simp
        refine (clone_byt (some ⟨yb, 0, none⟩) y.2.length yc y.2 _ (Nat.le_trans HY2.out.2.2 (by decide)) ((HYR.out.below HBD.out).mono HBD.out.size)).mono ?_
        rintro e w4 ⟨A4, c4, rfl, hc4, ho4, hb4⟩
        have HO4 := Lib.hid ho4; have HB4 := Lib.hid (bnextK HBD.out hb4); have HBI := Lib.hid (bnextK (Qw.below ⟨1, rfl⟩ wi.heap.size) hb4)
        have HBX := Lib.hid hb4
        clear ho4 hb4
        go_wp2_with fail
        refine hK.out _ _ ?_ (fun hHeld => ?_)
        · (try dsimp only); first | exact HYC.out _ HB9.out | exact HYC.out _ HB4.out | exact HYC.out _ (bnextK HB4.out (below_alloc _ _)) | exact HYC.out _ HBD.out
        clear hK K
        try simp only [Act.put, List.setIfInBounds_toArray, List.set_cons_zero, List.set_cons_succ]
        refine wpAnyH_take (i := 14) (oi := ⟨some 38, _, _, _, _, _⟩) (v := ?_) rfl (by kernel_rfl) (by kernel_rfl) (by kernel_rfl) (fun _ _ _ h => h) (Or.inl ⟨by rfl, ?_⟩) (by assumption) ?_
        rotate_left
        · (intro w hSw; (try dsimp only at hSw); go_simp; try with_reducible rfl)
        try simp only [Act.put, List.setIfInBounds_toArray, List.set_cons_zero, List.set_cons_succ]
        refine wpAnyH_ready (rs := [15]) (by kernel_rfl) (by simp) ?_
        refine AllReadyH.cons (o := ⟨some 39, _, _, _, _, _⟩) rfl (fun K hK => ?_) AllReadyH.nil
        go_simp
        refine hK.out _ _ ?_ (fun hHeld => ?_)
        · (try dsimp only); first | exact HYC.out _ HB9.out | exact HYC.out _ HB4.out | exact HYC.out _ (bnextK HB4.out (below_alloc _ _)) | exact HYC.out _ HBD.out
        clear hK K
        try simp only [Act.put, List.setIfInBounds_toArray, List.set_cons_zero, List.set_cons_succ]
        refine wpAnyH_ready (rs := [16]) (by kernel_rfl) (by simp) ?_
        refine AllReadyH.cons (o := ⟨some 40, _, _, _, _, _⟩) rfl (fun K hK => ?_) AllReadyH.nil
        have hsh4 := HO.out.past HBI.out
        refine step_push (wa := w4) (us := #[.int .u8 (y.1 : Int), .slice A4 y.2.length c4]) (tu := 106) elB_share (.tmp 24) (.tmp 39) rfl rfl w1.heap.size L.length _ rfl hsh4.2.1 rfl rfl (by intro u hu; simp only [List.mem_cons, List.not_mem_nil, or_false] at hu; rcases hu with rfl | rfl <;> rfl) (Nat.le_trans (seen_few HV.out HSH.out.1 HSL.out) (by decide)) (by decide) HB4.out.size ?_
        intro v9 w9 hown9 hb9 hg9
        obtain ⟨A9, d9, rfl, hd9⟩ := own_form hown9
        have HN9 : Hid (ShOwn w9 w1.heap.size (.slice A9 (L.length + 1) d9) (L.length + 1) (L ++ [⟨y.1, A4, y.2.length, c4, y.2⟩])) := Lib.hid (hsh4.push (s := ⟨y.1, A4, y.2.length, c4, y.2⟩) ⟨HY2.out.1, HY2.out.2.1, hc4, Nat.le_trans HY2.out.2.2 (by decide), rfl, fun _ => ownsRow_mono HO4.out (by have := HBD.out.size; exact this)⟩ hown9 hg9)
        have HB9 := Lib.hid (HB4.out.trans hb9)
        clear hown9 hb9 hg9 hsh4
        refine hK.out _ _ ?_ (fun hHeld => ?_)
        · (try dsimp only); first | exact HYC.out _ HB9.out | exact HYC.out _ HB4.out | exact HYC.out _ (bnextK HB4.out (below_alloc _ _)) | exact HYC.out _ HBD.out
        clear hK K
        try simp only [Act.put, List.setIfInBounds_toArray, List.set_cons_zero, List.set_cons_succ]
        refine wpAnyH_take (i := 17) (oi := ⟨some 5, _, _, _, _, _⟩) (v := ?_) rfl (by kernel_rfl) (by kernel_rfl) (by kernel_rfl) (fun _ _ _ h => h) (Or.inl ⟨by rfl, ?_⟩) (by assumption) ?_
        rotate_left
        · (intro w hSw; (try dsimp only at hSw); go_simp; try with_reducible rfl)
        try simp only [Act.put, List.setIfInBounds_toArray, List.set_cons_zero, List.set_cons_succ]
        refine wpAnyH_done (by kernel_rfl) ?_ _
        go_wp2_with fail
        go_roundw
        case rel => exact ⟨k + 1, L ++ [⟨y.1, A4, y.2.length, c4, y.2⟩], by omega, by go_num, HNV.out _ rfl, by rw [List.length_append]; exact HN9.out, HB9.out⟩
        case measure => simp [intOf]; omega
    · have hki : ¬ (k : Int) < (ps.length : Int) := by omega
      obtain rfl : k = ps.length := by omega
      have HF : Hid (L.map ShareV.view = seenL ps sh g) := Lib.hid (by
        have := HV.out
        rw [List.take_of_length_le (Nat.le_refl _), List.take_of_length_le (by have := HSL.out; omega)] at this
        exact this)
      have HLL : Hid (L.length = (seenL ps sh g).length) := Lib.hid (by rw [← HF.out, List.length_map])
      go_wp2_with fail
      go_ret
      rw [← HLL.out]
      exact RetShares.of (mk := id) (HO.out.mono (by have := HB1.out.size; exact this)) HF.out (HB1.out.trans (HB.out.mono HB1.out.size))
#print axioms seen_any
end Go.Proofs.YtecndceekgaglaaGreat
/- The contracts of View and Exposed. Conditions: as each statement says. -/
namespace Go.Proofs.YtecndceekgaglaaGreat
open Go.RowKit
set_option linter.unusedVariables false
set_option linter.unusedSimpArgs false
def SentSane (x : SentM) : Prop := ShSane x.shares ∧ x.shares.length = x.paths.length ∧ ∀ p ∈ x.paths, 2 ≤ p.length ∧ p.length ≤ 1000
def viewE (s : NS) (tid : Int) (l : List Nm) : Int := firstE [stE s tid, allE s l]
def ViewP (s : NS) (tid : Int) (l : List Nm) (w : World) (e : Ending) (w' : World) : Prop :=
  (viewE s tid l ≠ 0 ∧ e = .returned (.tuple #[.slice none 0 0, .int .i64 (viewE s tid l)]) ∧ Below w.heap.size w w') ∨
  (viewE s tid l = 0 ∧ ∃ x, s.sents[(tid - 1).toNat]? = some x ∧ RetShares w (seenL x.paths x.shares l).length (seenL x.paths x.shares l) (fun v => .tuple #[v, .int .i64 0]) e w')
theorem firstE_one (x : Int) : firstE [x] = x := by
  simp only [firstE]
  split
  · exact Eq.symm (by assumption)
  · rfl
set_option maxRecDepth 100000 in
set_option maxHeartbeats 4000000 in
theorem View_any {w : World} {N : Nat} {s : NS} {bn bl : Nat} {vh vs : Value} (h : NetAt w N s bn bl vh vs) (hsl : s.sents.length ≤ 256) (hsh : ∀ x ∈ s.sents, SentSane x) (tid : Int) (A : Option Addr) (n c : Nat) (l : List Nm) (hl : ∀ x ∈ l, x.length ≤ maxLen) (hn : n ≤ 1000000) (hr : Rd w w.heap.size 1 A n (l.map encS)) :
    Calls Tryz.prog 13 #[.pointer (some ⟨N, 0, none⟩), .int .i64 tid, .slice A n c] w (ViewP s tid l w) := by
  have HS := Lib.hid (sentOf_any h tid)
  have HL : Hid (∀ W, Below w.heap.size w W → Calls Tryz.prog 37 #[.pointer (some ⟨N, 0, none⟩), .slice A n c] W (CondP (allE s l) W)) := Lib.hid fun W hW => all_any (h.far hW) A n c l hl hn ((hr.below hW).mono hW.size)
  have HA : Hid (∀ (W : World) (f1 f2 : Value) (g : Nat), Below w.heap.size w W → CondOK W f1 (stE s tid) → CondOK W f2 (allE s l) → W.heap.size = g →
      Calls Tryz.prog 35 #[.pointer (some ⟨N, 0, none⟩), .slice (some ⟨g, 0, none⟩) 2 2] (W.alloc (.cells #[f1, f2] 93)) (AnsN (viewE s tid l) (W.alloc (.cells #[f1, f2] 93)))) := Lib.hid fun W f1 f2 g hW q1 q2 hg => by
    refine ask_made (h.far hW) [(f1, stE s tid), (f2, allE s l)] _ rfl 2 rfl (by omega) ?_ g hg
    intro y hy
    simp only [List.mem_cons, List.not_mem_nil, or_false] at hy
    rcases hy with rfl | rfl
    · exact q1
    · exact q2
  have H := Lib.hid h
  have HSH := Lib.hid hsh
  have HR := Lib.hid hr
  have HZ : Hid (viewE s tid l = 0 → ∃ i : Nat, tid = (i : Int) + 1 ∧ i < s.sents.length) := Lib.hid fun e => stE_zero (firstE2 e).1
  obtain ⟨ev, hev⟩ : ∃ ev, ev = viewE s tid l := ⟨_, rfl⟩
  have HEV := Lib.hid hev
  rw [← hev] at HA HZ
  clear h hsh hev hr hl
  go_enter Tryz.func13, Tryz.ntmps13
  go_wp2_with fail
  refine HS.out.mono ?_
  rintro e w3 ⟨f3, rfl, k3, b3⟩
  obtain ⟨fn3, cap3, rfl, _⟩ := id k3
  go_wp2_with fail
  refine (HL.out _ b3).mono ?_
  rintro e w4 ⟨f4, rfl, k4, b4⟩
  obtain ⟨fn4, cap4, rfl, _⟩ := id k4
  go_wp2_with fail
  refine (HA.out w4 _ _ _ (bnextK b3 b4) (k3.far b4) k4 rfl).mono ?_
  rintro e w5 ⟨rfl, b5⟩
  have HB5 : Hid (Below w.heap.size w w5) := Lib.hid (bnextK (bnextK (bnextK b3 b4) (below_alloc _ _)) b5)
  clear b3 b4 b5 k3 k4 HA HS HL
  by_cases h0 : ev = 0
  · subst h0
    obtain ⟨i, rfl, hi⟩ := HZ.out rfl
    obtain ⟨x, hx⟩ : ∃ x, s.sents[i]? = some x := ⟨_, List.getElem?_eq_getElem hi⟩
    have hN5 := H.out.far HB5.out
    obtain ⟨g, c', pv, sv, hvs, hg, c0, c1, c2, c3, c4, hps, hss⟩ := hN5.sents.at hx
    obtain ⟨z1, z2, z3⟩ := HSH.out x (List.mem_of_getElem? hx)
    have HC := Lib.hid (seen_any x.id x.need x.len pv sv x.paths x.shares A n c l w5 hps hss z2 z1 z3 hn ((HR.out.below HB5.out).mono HB5.out.size))
    obtain ⟨pg, pc, rfl⟩ := hps.nat
    obtain ⟨sg, sc, rfl⟩ := hss.nat
    have n5 := hN5.blk.cell 5
    simp only [List.getElem?_toArray, List.getElem?_cons_succ, List.getElem?_cons_zero] at n5
    rw [hvs] at n5
    have hil : (i : Int) < (s.sents.length : Int) := by omega
    have hw1 : wrap64 ((i : Int) + 1 - 1) = (i : Int) := by unfold wrap64; omega
    have HX := Lib.hid hx
    have HSL := Lib.hid hsl
    clear hvs hps hss hN5 hx hi z1 z2 z3
    generalize s.sents.length = ln at *
    go_wp2_with fail
    refine HC.out.mono ?_
    clear HC
    rintro e w6 ⟨A6, c6, L, rfl, hc6, ho6, hv6, hb6⟩
    have HO6 := Lib.hid ho6; have HV6 := Lib.hid hv6; have HB6 := Lib.hid (bnextK HB5.out hb6)
    clear ho6 hv6 hb6
    obtain ⟨m, hm⟩ : ∃ m, m = (seenL x.paths x.shares l).length := ⟨_, rfl⟩
    have HM := Lib.hid hm
    rw [← hm] at hc6 HO6 ⊢
    clear hm
    dsimp only [id]
    go_wp2_with fail
    refine bodyPost_ret (a := Act.mk _ _) (results_tmp2 rfl _ _ _) rfl ?_
    refine .inr ⟨HEV.out.symm, x, by rw [show ((i : Int) + 1 - 1).toNat = i by omega]; exact HX.out, ?_⟩
    rw [← HM.out]
    exact ⟨A6, c6, L, rfl, hc6, HO6.out.mono HB5.out.size, HV6.out, HB6.out⟩
  · have hb0 : (ev != 0) = true := by simp [h0]
    go_wp2_with fail
    refine bodyPost_ret (a := Act.mk _ _) (results_tmp2 rfl _ _ _) rfl ?_
    exact .inl ⟨by rw [← HEV.out]; exact h0, by rw [← HEV.out]; rfl, HB5.out⟩
def exB (l : List Nm) (x : SentM) : Bool := decide (x.need ≤ ((seenL x.paths x.shares l).length : Int))
def expoL (l : List Nm) (ss : List SentM) : List Int := (ss.filter (exB l)).map SentM.id
theorem expoL_step {l : List Nm} {ss : List SentM} {i : Nat} {x : SentM} (h : ss[i]? = some x) : expoL l (ss.take (i + 1)) = if exB l x = true then expoL l (ss.take i) ++ [x.id] else expoL l (ss.take i) := by
  unfold expoL
  rw [take_at h, List.filter_append, List.map_append]
  by_cases hm : exB l x = true <;> simp [hm]
theorem expoL_len (l : List Nm) (ss : List SentM) : (expoL l ss).length ≤ ss.length := by
  unfold expoL
  rw [List.length_map]
  exact List.length_filter_le _ _
def ExpP (s : NS) (l : List Nm) (w : World) (e : Ending) (w' : World) : Prop :=
  ((allE s l ≠ 0 ∧ e = .returned (.tuple #[.slice none 0 0, .int .i64 (allE s l)])) ∨
  (allE s l = 0 ∧ ∃ A c, e = .returned (.tuple #[.slice A (expoL l s.sents).length c, .int .i64 0]) ∧ w'.ownsRow w.heap.size 3 1 (.slice A (expoL l s.sents).length c) (expoL l s.sents).length ((expoL l s.sents).map (Value.int .i64)))) ∧ Below w.heap.size w w'
theorem info_int49 : (Tryz.prog.info? 3).map (fun i => (i.zero, i.size, i.bytes)) = some (some (.int .i64 0), 1, 8) := by kernel_rfl
theorem elB_int49 : ElemB Tryz.prog 43 3 1 8 := ElemB.of Tryz.underlying43 info_int49 rfl (by decide)
set_option maxRecDepth 100000 in
set_option maxHeartbeats 4000000 in
theorem Exposed_any {w : World} {N : Nat} {s : NS} {bn bl : Nat} {vh vs : Value} (h : NetAt w N s bn bl vh vs) (hsl : s.sents.length ≤ 256) (hsh : ∀ x ∈ s.sents, SentSane x) (A : Option Addr) (n c : Nat) (l : List Nm) (hl : ∀ x ∈ l, x.length ≤ maxLen) (hn : n ≤ 1000000) (hr : Rd w w.heap.size 1 A n (l.map encS)) :
    Calls Tryz.prog 15 #[.pointer (some ⟨N, 0, none⟩), .slice A n c] w (ExpP s l w) := by
  have HL := Lib.hid (all_any h A n c l hl hn hr)
  have HA : Hid (∀ (W : World) (f1 : Value) (g : Nat), Below w.heap.size w W → CondOK W f1 (allE s l) → W.heap.size = g →
      Calls Tryz.prog 35 #[.pointer (some ⟨N, 0, none⟩), .slice (some ⟨g, 0, none⟩) 1 1] (W.alloc (.cells #[f1] 93)) (AnsN (allE s l) (W.alloc (.cells #[f1] 93)))) := Lib.hid fun W f1 g hW q1 hg => by
    have := ask_made (h.far hW) [(f1, allE s l)] #[f1] rfl 1 rfl (by omega) (by
      intro y hy
      simp only [List.mem_cons, List.not_mem_nil, or_false] at hy
      subst hy
      exact q1) g hg
    simp only [List.map_cons, List.map_nil, firstE_one] at this
    exact this
  have H := Lib.hid h
  have HSH := Lib.hid hsh
  have HR := Lib.hid hr
  obtain ⟨ev, hev⟩ : ∃ ev, ev = allE s l := ⟨_, rfl⟩
  have HEV := Lib.hid hev
  rw [← hev] at HA HL
  clear h hsh hev hr hl
  go_enter Tryz.func15, Tryz.ntmps15
  go_wp2_with fail
  refine HL.out.mono ?_
  rintro e w3 ⟨f3, rfl, k3, b3⟩
  obtain ⟨fn3, cap3, rfl, _⟩ := id k3
  go_wp2_with fail
  refine (HA.out w3 _ _ b3 k3 rfl).mono ?_
  rintro e w5 ⟨rfl, b5⟩
  have HB5 : Hid (Below w.heap.size w w5) := Lib.hid (bnextK (bnextK b3 (below_alloc _ _)) b5)
  clear b3 b5 k3 HA HL
  by_cases h0 : ev = 0
  · subst h0
    have hN5 := H.out.far HB5.out
    obtain ⟨vA, vc, hvs, _⟩ := hN5.sents.form
    have n5 := hN5.blk.cell 5
    simp only [List.getElem?_toArray, List.getElem?_cons_succ, List.getElem?_cons_zero] at n5
    rw [hvs] at n5
    have HVS := Lib.hid hvs
    have HI0 : Hid (w5.ownsRow w5.heap.size 3 1 (.slice none 0 0) 0 [] ∧ Below w5.heap.size w5 w5) := Lib.hid ⟨World.ownsRow_nil _ _ _ _, Below.refl _ _⟩
    obtain ⟨ln, hln⟩ : ∃ ln, ln = s.sents.length := ⟨_, rfl⟩
    have HLN := Lib.hid hln
    rw [← hln] at n5 hsl
    clear hN5 hvs hln
    go_wp2_with fail
    go_loopw [7, 9, 24] (fun v _ i wr => ∃ (k : Nat), k ≤ ln ∧ i = .int .i64 k ∧ wr.ownsRow w5.heap.size 3 1 v (expoL l (s.sents.take k)).length ((expoL l (s.sents.take k)).map (Value.int .i64)) ∧ Below w5.heap.size w5 wr) (fun _ _ i _ => ln - (intOf i).toNat)
    case atStart => exact ⟨0, Nat.zero_le _, rfl, HI0.out⟩
    case round =>
      obtain ⟨k, hk, rfl, ho, hb⟩ := hrel
      obtain ⟨wi, rfl⟩ : ∃ z : World, z = wr := ⟨_, rfl⟩
      have HO := Lib.hid ho; have HB := Lib.hid hb
      obtain ⟨oA, oc, rfl, hoc⟩ := own_form ho
      clear HI0 ho hb n5
      by_cases hlt : k < ln
      · have hki : (k : Int) < (ln : Int) := by omega
        obtain ⟨x, hx⟩ : ∃ x, s.sents[k]? = some x := ⟨_, List.getElem?_eq_getElem (by rw [← HLN.out]; exact hlt)⟩
        have hBi := bnextK HB5.out HB.out
        have hNi := H.out.far hBi
        obtain ⟨g, c', pv, sv, hvs, hg, c0, c1, c2, c3, c4, hps, hss⟩ := hNi.sents.at hx
        obtain ⟨z1, z2, z3⟩ := HSH.out x (List.mem_of_getElem? hx)
        rw [HVS.out] at hvs
        injection hvs with hva hvn hvc
        subst hva
        have HSEEN : Hid (∀ W, Below wi.heap.size wi W → Calls Tryz.prog 38 #[.agg #[.int .i64 x.id, .int .i64 x.need, .int .i64 x.len, pv, sv], .slice A n c] W (RetShares W (seenL x.paths x.shares l).length (seenL x.paths x.shares l) id)) := Lib.hid fun W hW =>
          seen_any x.id x.need x.len pv sv x.paths x.shares A n c l W (hps.farW hW) (hss.ck (T := fun _ => True) (.of_below hW) trivial trivial) z2 z1 z3 hn ((HR.out.below (bnextK hBi hW)).mono (bnextK hBi hW).size)
        have HSTEP := Lib.hid (expoL_step (l := l) hx)
        have HEX : Hid (exB l x = decide (x.need ≤ ((seenL x.paths x.shares l).length : Int))) := Lib.hid rfl
        have hkl := expoL_len l (s.sents.take k)
        rw [List.length_take] at hkl
        have hm9 : (expoL l (s.sents.take k)).length ≤ 1000 := by omega
        obtain ⟨pg, pc, rfl⟩ := hps.nat
        obtain ⟨sg, sc, rfl⟩ := hss.nat
        clear hvn hvc hNi hps hss hx z1 z2 z3 hBi hkl
        obtain ⟨rl, hrl⟩ : ∃ rl, rl = expoL l (s.sents.take k) := ⟨_, rfl⟩
        rw [← hrl] at HO hm9 hoc HSTEP ⊢
        clear hrl
        generalize (seenL x.paths x.shares l) = vl at *
        generalize x.id = xid at *
        generalize x.need = xneed at *
        generalize x.len = xlen at *
        generalize x.paths.length = xpl at *
        generalize x.shares.length = xsl at *
        go_wp2_with fail
        obtain ⟨w6, hw6⟩ : ∃ w6, w6 = wi.alloc (.cells #[.int .i64 xid, .int .i64 xneed, .int .i64 xlen, .slice (some ⟨pg, 0, none⟩) xpl pc, .slice (some ⟨sg, 0, none⟩) xsl sc] 96) := ⟨_, rfl⟩
        have HB6 : Hid (Below wi.heap.size wi w6) := Lib.hid (by rw [hw6]; exact below_alloc _ _)
        have HK6 : Hid (Bk w6 wi.heap.size #[.int .i64 xid, .int .i64 xneed, .int .i64 xlen, .slice (some ⟨pg, 0, none⟩) xpl pc, .slice (some ⟨sg, 0, none⟩) xsl sc] 96) := Lib.hid (by rw [hw6]; exact Bk.new _ _ _)
        rw [← hw6]
        clear hw6 c0 c1 c2 c3 c4
        have HS6 : Hid (∀ W, Below w6.heap.size w6 W → W.cell? ⟨wi.heap.size, 0, none⟩ = some (.int .i64 xid) ∧ W.cell? ⟨wi.heap.size, 1, none⟩ = some (.int .i64 xneed) ∧ W.cell? ⟨wi.heap.size, 2, none⟩ = some (.int .i64 xlen) ∧ W.cell? ⟨wi.heap.size, 3, none⟩ = some (.slice (some ⟨pg, 0, none⟩) xpl pc) ∧ W.cell? ⟨wi.heap.size, 4, none⟩ = some (.slice (some ⟨sg, 0, none⟩) xsl sc)) := Lib.hid fun W hW => by
          have hx := HK6.out.past hW HK6.out.lt
          exact ⟨by rw [hx.cell]; rfl, by rw [hx.cell]; rfl, by rw [hx.cell]; rfl, by rw [hx.cell]; rfl, by rw [hx.cell]; rfl⟩
        have HNOW : Hid (Below w6.heap.size w6 w6.drew) := Lib.hid (Qw.below ⟨1, rfl⟩ _)
        go_cut [7, 9, 24, 35] from 24 to 42 (fun v7 v9 v24 v35 wc => v7 = .slice oA rl.length oc ∧ v9 = .pointer (some ⟨wi.heap.size, 0, none⟩) ∧ v24 = .int .i64 k ∧ v35 = .bool (exB l x) ∧ Below w6.heap.size w6 wc)
        case first =>
          refine wp_region_held_drew (S := (fun W => W.cell? ⟨wi.heap.size, 0, none⟩ = some (.int .i64 xid) ∧ W.cell? ⟨wi.heap.size, 1, none⟩ = some (.int .i64 xneed) ∧ W.cell? ⟨wi.heap.size, 2, none⟩ = some (.int .i64 xlen) ∧ W.cell? ⟨wi.heap.size, 3, none⟩ = some (.slice (some ⟨pg, 0, none⟩) xpl pc) ∧ W.cell? ⟨wi.heap.size, 4, none⟩ = some (.slice (some ⟨sg, 0, none⟩) xsl sc))) (by kernel_rfl) ?_ (fun hHeld => ?_)
          · (try dsimp only); exact HS6.out _ HNOW.out
          refine wpAnyH_take (i := 0) (oi := ⟨some 28, _, _, _, _, _⟩) (v := ?_) rfl (by kernel_rfl) (by kernel_rfl) (by kernel_rfl) (fun _ _ _ h => h) (Or.inl ⟨by rfl, ?_⟩) (by assumption) ?_
          rotate_left
          · (intro w hSw; (try dsimp only at hSw); go_simp; try with_reducible rfl)
          try simp only [Act.put, List.setIfInBounds_toArray, List.set_cons_zero, List.set_cons_succ]
          refine wpAnyH_take (i := 1) (oi := ⟨some 29, _, _, _, _, _⟩) (v := ?_) rfl (by kernel_rfl) (by kernel_rfl) (by kernel_rfl) (fun _ _ _ h => h) (Or.inl ⟨by rfl, ?_⟩) (by assumption) ?_
          rotate_left
          · (intro w hSw; (try dsimp only at hSw); go_simp; try with_reducible rfl)
          try simp only [Act.put, List.setIfInBounds_toArray, List.set_cons_zero, List.set_cons_succ]
          refine wpAnyH_take (i := 4) (oi := ⟨some 32, _, _, _, _, _⟩) (v := ?_) rfl (by kernel_rfl) (by kernel_rfl) (by kernel_rfl) (fun _ _ _ h => h) (Or.inl ⟨by rfl, ?_⟩) (by assumption) ?_
          rotate_left
          · (intro w hSw; (try dsimp only at hSw); go_simp; try with_reducible rfl)
          try simp only [Act.put, List.setIfInBounds_toArray, List.set_cons_zero, List.set_cons_succ]
          refine wpAnyH_take (i := 5) (oi := ⟨some 33, _, _, _, _, _⟩) (v := ?_) rfl (by kernel_rfl) (by kernel_rfl) (by kernel_rfl) (fun _ _ _ h => h) (Or.inl ⟨by rfl, ?_⟩) (by assumption) ?_
          rotate_left
          · (intro w hSw; (try dsimp only at hSw); go_simp; try with_reducible rfl)
          try simp only [Act.put, List.setIfInBounds_toArray, List.set_cons_zero, List.set_cons_succ]
          refine wpAnyH_take (i := 6) (oi := ⟨some 34, _, _, _, _, _⟩) (v := ?_) rfl (by kernel_rfl) (by kernel_rfl) (by kernel_rfl) (fun _ _ _ h => h) (Or.inl ⟨by rfl, ?_⟩) (by assumption) ?_
          rotate_left
          · (intro w hSw; (try dsimp only at hSw); go_simp; try with_reducible rfl)
          try simp only [Act.put, List.setIfInBounds_toArray, List.set_cons_zero, List.set_cons_succ]
          refine wpAnyH_ready (rs := [2]) (by kernel_rfl) (by simp) ?_
          refine AllReadyH.cons (o := ⟨some 30, _, _, _, _, _⟩) rfl (fun K hK => ?_) AllReadyH.nil
          go_simp
          refine (HSEEN.out _ (bnextK HB6.out HNOW.out)).mono ?_
          rintro e w7 ⟨A7, c7, L7, rfl, hc7, ho7, hv7, hb7⟩
          have HNOW := Lib.hid (bnextK HNOW.out hb7)
          clear ho7 hv7 hb7
          dsimp only [id]
          go_wp2_with fail
          refine hK.out _ _ ?_ (fun hHeld => ?_)
          · (try dsimp only); exact HS6.out _ HNOW.out
          clear hK K
          try simp only [Act.put, List.setIfInBounds_toArray, List.set_cons_zero, List.set_cons_succ]
          refine wpAnyH_take (i := 3) (oi := ⟨some 31, _, _, _, _, _⟩) (v := ?_) rfl (by kernel_rfl) (by kernel_rfl) (by kernel_rfl) (fun _ _ _ h => h) (Or.inl ⟨by rfl, ?_⟩) (by assumption) ?_
          rotate_left
          · (intro w hSw; (try dsimp only at hSw); go_simp; try with_reducible rfl)
          try simp only [Act.put, List.setIfInBounds_toArray, List.set_cons_zero, List.set_cons_succ]
          refine wpAnyH_take (i := 7) (oi := ⟨some 35, _, _, _, _, _⟩) (v := ?_) rfl (by kernel_rfl) (by kernel_rfl) (by kernel_rfl) (fun _ _ _ h => h) (Or.inl ⟨by rfl, ?_⟩) (by assumption) ?_
          rotate_left
          · (intro w hSw; (try dsimp only at hSw); go_simp; try with_reducible rfl)
          try simp only [Act.put, List.setIfInBounds_toArray, List.set_cons_zero, List.set_cons_succ]
          refine wpAnyH_done (by kernel_rfl) ?_ _
          go_wp2_with fail
          go_meet
          exact ⟨rfl, rfl, rfl, by rw [HEX.out], HNOW.out⟩
        case rest =>
          obtain ⟨w8, rfl⟩ : ∃ z : World, z = wc := ⟨_, rfl⟩
          obtain ⟨rfl, rfl, rfl, rfl, hb8⟩ := hcut
          have c0 := (HK6.out.past hb8 HK6.out.lt).cell 0
          simp only [List.getElem?_toArray, List.getElem?_cons_succ, List.getElem?_cons_zero] at c0
          have HB8 : Hid (Below w5.heap.size w5 w8) := Lib.hid ((HB.out.trans (HB6.out.mono HB.out.size)).trans (hb8.mono (Nat.le_trans HB.out.size HB6.out.size)))
          have HO8 : Hid (w8.ownsRow w5.heap.size 3 1 (.slice oA rl.length oc) rl.length (rl.map (Value.int .i64))) := Lib.hid (ownsRow_below HO.out (bnextK HB6.out hb8) (Nat.le_refl _))
          have hsz8 := HB8.out.size
          have HSTEP2 := HSTEP
          clear hb8 HS6 HNOW HEX HSEEN HSTEP HSH H HR
          generalize exB l x = xb at *
          cases xb with
          | false =>
            go_wp2_with fail
            go_roundw
            case rel => exact ⟨k + 1, by omega, by go_num, by rw [HSTEP2.out]; exact HO8.out, HB8.out⟩
            case measure => simp [intOf]; omega
          | true =>
            go_wp2_with (at_builtin
                         refine wpList_push elB_int49 (.tmp 36) (.tmp 40) rfl rfl w5.heap.size rl.length _ rfl HO8.out rfl rfl (one_cell1 rfl) (by omega) (by decide) hsz8 ?_
                         intro v9 w9 hown9 hb9 hg9
                         obtain ⟨A9, d9, rfl, hd9⟩ := own_form hown9
                         have HO9 : Hid (w9.ownsRow w5.heap.size 3 1 (.slice A9 (rl.length + 1) d9) (rl ++ [xid]).length ((rl ++ [xid]).map (Value.int .i64))) := Lib.hid (by rw [List.length_append, List.map_append]; exact hown9)
                         have HB9 := Lib.hid (HB8.out.trans hb9)
                         clear hown9 hb9 hg9)
            go_roundw
            case rel => exact ⟨k + 1, by omega, by go_num, by rw [HSTEP2.out]; exact HO9.out, HB9.out⟩
            case measure => simp [intOf]; omega
      · have hki : ¬ (k : Int) < (ln : Int) := by omega
        obtain rfl : k = ln := by omega
        have HF : Hid (expoL l (s.sents.take k) = expoL l s.sents) := Lib.hid (by rw [List.take_of_length_le (by rw [← HLN.out]; exact Nat.le_refl _)])
        rw [HF.out] at HO ⊢
        obtain ⟨m, hm⟩ : ∃ m, m = (expoL l s.sents).length := ⟨_, rfl⟩
        have HM := Lib.hid hm
        rw [← hm] at HO ⊢
        clear hm hoc
        go_wp2_with fail
        refine bodyPost_ret (a := Act.mk _ _) (results_tmp2 rfl _ _ _) rfl ?_
        refine ⟨.inr ⟨HEV.out.symm, oA, oc, by rw [← HM.out]; rfl, ?_⟩, bnextK HB5.out HB.out⟩
        rw [← HM.out]
        exact ownsRow_mono HO.out HB5.out.size
  · have hb0 : (ev != 0) = true := by simp [h0]
    go_wp2_with fail
    refine bodyPost_ret (a := Act.mk _ _) (results_tmp2 rfl _ _ _) rfl ?_
    exact ⟨.inl ⟨by rw [← HEV.out]; exact h0, by rw [← HEV.out]; rfl⟩, HB5.out⟩
#print axioms Exposed_any
end Go.Proofs.YtecndceekgaglaaGreat
