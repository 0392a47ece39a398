/- What Send does to a network, plainly, and what it leaves in memory. Conditions: as each statement says. -/
import Derived.Test.YtblilfbhohnbgaaGreatNet35
import Derived.Test.YtblilfbhohnbgaaGreatShare
namespace Go.Proofs.YtblilfbhohnbgaaGreat
open List (setIfInBounds_toArray set_cons_zero set_cons_succ)
open Go.RowKit
set_option linter.unusedVariables false
/-- The shares of a secret. -/
def sendSh (sec co : List Nat) (q n k : Nat) : List (Nat × List Nat) := (List.range k).map fun t => (t + 1, shareY sec co q (t + 1) n)
def sendPs (s : NS) (a b : Nm) (n k : Nat) : List (List Nm) := (pathsG s (8 * (n : Int)) a b k).map (nmP s)
def sendN (s : NS) (a b : Nm) (sec co : List Nat) (n k q : Nat) : NS := { moves s (sendPs s a b n k) (-8 * (n : Int)) 0 (8 * (n : Int)) with sents := s.sents ++ [⟨(s.sents.length : Int) + 1, (q : Int) + 1, n, sendPs s a b n k, sendSh sec co q n k⟩] }
/-- What Send hands back and leaves. -/
def SendP (N : Nat) (s : NS) (bn bl : Nat) (vh vs : Value) (a b : Nm) (sec co : List Nat) (n m : Nat) (k need : Int) (w : World) (e : Ending) (w' : World) : Prop :=
  ∃ id z : Int, e = .returned (.tuple #[.int .i64 id, .int .i64 z]) ∧
    ((z ≠ 0 ∧ (z = sendE s a b n k need m ∨ (sendE s a b n k need m = 0 ∧ z = 21 ∧ pathsG s (8 * (n : Int)) a b k.toNat = [])) ∧ id = 0 ∧ NetAt w' N s bn bl vh vs ∧ Below w.heap.size w w') ∨
    (z = 0 ∧ sendE s a b n k need m = 0 ∧ pathsG s (8 * (n : Int)) a b k.toNat ≠ [] ∧ id = (s.sents.length : Int) + 1 ∧ ∃ vs', NetAt w' N (sendN s a b sec co n k.toNat (need.toNat - 1)) bn bl vh vs' ∧ KeepL (N :: bl :: vs.ownBlock.toList) w w' ∧ ∀ x, vs'.ownBlock = some x → vs.ownBlock = some x ∨ w.heap.size ≤ x))
theorem RowAt.names {s : NS} {w : World} {v : Value} {p : List Nat} (hr : RowAt w (namesG s) v p) : NmRow w v (nmP s p) := by
  obtain ⟨g, c, cs, h1, h2, h3, h4⟩ := hr
  refine ⟨g, c, cs, by rw [nmP_len]; exact h1, by rw [nmP_len]; exact h2, h3, fun i hi => ?_⟩
  rw [nmP_len] at hi
  rw [h4 i hi, nmP_getD s hi]
theorem OutAt.rows {s : NS} {w : World} {n₀ : Nat} {v : Value} {ps : List (List Nat)} (ho : OutAt w n₀ (namesG s) v ps) (h0 : ps ≠ []) : NmRows w v (ps.map (nmP s)) := by
  obtain ⟨g, cap, cur, h1, h2, _, h4, h5⟩ := ho.slice h0
  refine ⟨g, cap, cur, by rw [List.length_map]; exact h1, by rw [List.length_map]; exact h2, h4, fun i x hx => ?_⟩
  rw [List.getElem?_map] at hx
  cases hp : ps[i]? with
  | none => rw [hp] at hx; cases hx
  | some p =>
    rw [hp] at hx
    injection hx with hx
    subst hx
    obtain ⟨u, q1, q2⟩ := h5 i p hp
    exact ⟨u, q1, q2.names⟩
theorem sendSh_len (sec co : List Nat) (q n k : Nat) : (sendSh sec co q n k).length = k := by simp [sendSh]
theorem SharesW.rows {w : World} {B n N q : Nat} {sec co : List Nat} (h : SharesW w B n N q sec co N) : ShRows w (.slice (some ⟨B, 0, none⟩) N N) (sendSh sec co q n N) := by
  obtain ⟨_, cs, h1, h2, h3⟩ := h
  refine ⟨B, N, cs, by rw [sendSh_len], by rw [sendSh_len]; exact Nat.le_refl _, h1, fun i x hx => ?_⟩
  have hi : i < N := by
    have := (List.getElem?_eq_some_iff.1 hx).1
    rwa [sendSh_len] at this
  obtain ⟨a1, a2, a3⟩ := h3 i hi
  have hx' : x = (i + 1, shareY sec co q (i + 1) n) := by
    unfold sendSh at hx
    rw [List.getElem?_map, List.getElem?_range hi] at hx
    injection hx with hx
    exact hx.symm
  subst hx'
  refine ⟨_, by rw [a1]; rfl, a2, ⟨_, n, _, by rw [shareY_len], by rw [shareY_len]; exact Nat.le_refl _, a3, fun j hj => ?_⟩⟩
  rw [shareY_len] at hj
  have hl : j < (shareY sec co q (i + 1) n).length := by rw [shareY_len]; exact hj
  simp [u8s, hl, List.getD_eq_getElem?_getD]
theorem info_sent : (Tryz.prog.info? 102).map (fun i => (i.zero, i.size, i.bytes)) = some (some (.agg #[.int .i64 0, .int .i64 0, .int .i64 0, .slice none 0 0, .slice none 0 0]), 5, 72) := by kernel_rfl
theorem elB_sent : ElemB Tryz.prog 54 102 5 72 := ElemB.of Tryz.underlying54 info_sent rfl (by decide)
section
variable {P : Program} {t e : TypeId} {size bytes : Nat}
/-- append of one element of more bytes. -/
theorem run_pushS (T : ElemB P t e size bytes) (ty : TypeId) (B : Nat) (v : Value) (n : Nat) (xs : List Value) (wa : World) (hown : wa.ownsRow B e size v n xs) (us : Array Value) (tu : TypeId) (hus : us.size = size) (h1 : ∀ u ∈ us.toList, u.oneCell' = true)
    (hn : n ≤ 1000000) (hb : bytes ≤ 1024) (hB : B ≤ wa.heap.size) :
    ∃ v' w', (Builtin.append_ #[t, t] ty #[v, .slice (some ⟨wa.heap.size, 0, none⟩) 1 1]).run P (wa.alloc (.cells us tu)) = .ok v' w' ∧ w'.ownsRow B e size v' (n + 1) (xs ++ us.toList) ∧ Below B wa w' ∧ wa.grownBy w' v.ownBlock ∧ Lies v v' (wa.heap.size + 1) := by
  obtain ⟨i, z, ht, hi, hz, hs, hby, hzs, hp⟩ := T
  have hby2 : (n + 1) * bytes ≤ (n + 1) * 1024 := Nat.mul_le_mul_left _ hb
  obtain ⟨v', w', hrun, h2, h3, _, h6⟩ := run_append_own_at (P := P) (wa.alloc (.cells us tu)) B t ty e i z size bytes ht hi hz hs hby hzs hp v n xs (hown.alloc _) ⟨wa.heap.size, 0, none⟩ 1 1 us.toList (by simp [hus])
    (fun j u hu => by
      rw [addr_add, Nat.zero_add, cell_of_row _ _ _ _ _ _ (heap_alloc_new wa _)]; simpa using hu) h1 (by unfold maxLen; omega) (by omega) (by simp; omega)
  obtain ⟨h4, h5⟩ := below_push hown hB h3
  exact ⟨v', w', hrun, h2, h4, h5, by simpa [Lies] using h6⟩
theorem step_pushS {ops : Array Oper} {o : Oper} {a : Act} {K : Act → World → Prop} {Q : Exit → Act → World → Prop} {E : Prop} {wa : World} {us : Array Value} {tu : TypeId} (T : ElemB P t e size bytes) (s x : Operand) (hgd : o.guard = none)
    (ho : o.op = .call { callee := .builtin .append, args := #[s, x], argTypes := #[t, t] }) (B : Nat) (n : Nat) (xs : List Value) {v : Value} (hs : a.eval s = v) (hown : wa.ownsRow B e size v n xs)
    (hx : a.eval x = .slice (some ⟨wa.heap.size, 0, none⟩) 1 1) (hus : us.size = size) (h1 : ∀ u ∈ us.toList, u.oneCell' = true) (hn : n ≤ 1000000) (hb : bytes ≤ 1024) (hB : B ≤ wa.heap.size)
    (h : ∀ v' w', w'.ownsRow B e size v' (n + 1) (xs ++ us.toList) → Below B wa w' → wa.grownBy w' v.ownBlock → Lies v v' (wa.heap.size + 1) → K (a.put o.dst v') w') :
    if Region.wanted o (yielded ops a.tmps) = true then Oper.wp P o a (wa.alloc (.cells us tu)) K Q else E := by
  rw [if_pos (by simp [Region.wanted, hgd])]
  obtain ⟨v', w', hrun, h2, h3, h4, h5⟩ := run_pushS (P := P) T o.type B v n xs wa hown us tu hus h1 hn hb hB
  unfold Oper.wp execOp
  simp only [ho, resolve, invoke, builtin, Sem.run_bind, Sem.run_pure, Result.andThen_ok, List.map_toArray, List.map_cons, List.map_nil, hs, hx, hrun]
  exact h v' w' h2 h3 h4 h5
end
theorem getE5 {α : Type} {vals us : List α} {n i : Nat} (hv : vals.length = n * 5) (j : Nat) : (i = n → (vals ++ us)[i * 5 + j]? = us[j]?) ∧ (i < n → j < 5 → (vals ++ us)[i * 5 + j]? = vals[i * 5 + j]?) := by
  refine ⟨fun h => ?_, fun h hj => ?_⟩
  · subst h
    rw [List.getElem?_append_right (by omega), show i * 5 + j - vals.length = j by omega]
  · rw [List.getElem?_append_left (by omega)]
theorem SentsAt.push {w w' : World} {v v' : Value} {l : List SentM} {x : SentM} {vals : List Value} {pv sv : Value} (ho : w.ownsRow 0 102 5 v l.length vals)
    (hv : ∀ (i : Nat) (x : SentM), l[i]? = some x → ∃ pv sv, vals[i * 5]? = some (.int .i64 x.id) ∧ vals[i * 5 + 1]? = some (.int .i64 x.need) ∧ vals[i * 5 + 2]? = some (.int .i64 x.len) ∧ vals[i * 5 + 3]? = some pv ∧ vals[i * 5 + 4]? = some sv ∧ NmRows w pv x.paths ∧ ShRows w sv x.shares)
    (hp : NmRows w pv x.paths) (hs : ShRows w sv x.shares) (hown : w'.ownsRow 0 102 5 v' (l.length + 1) (vals ++ [.int .i64 x.id, .int .i64 x.need, .int .i64 x.len, pv, sv])) (hg : w.grownBy w' v.ownBlock) : SentsAt w' v' (l ++ [x]) := by
  have hc := CK.grown_row ho hg
  have hl : vals.length = l.length * 5 := ho.1
  refine ⟨_, by simpa using hown, fun i y hy => ?_⟩
  have g0 := fun i j => getE5 (us := [Value.int .i64 x.id, .int .i64 x.need, .int .i64 x.len, pv, sv]) (i := i) hl j
  rcases Nat.lt_or_ge i l.length with hi | hi
  · rw [List.getElem?_append_left hi] at hy
    obtain ⟨pv', sv', q0, q1, q2, q3, q4, q5, q6⟩ := hv i y hy
    have z0 := ((g0 i 0).2 hi (by omega)); have z1 := ((g0 i 1).2 hi (by omega)); have z2 := ((g0 i 2).2 hi (by omega)); have z3 := ((g0 i 3).2 hi (by omega)); have z4 := ((g0 i 4).2 hi (by omega))
    rw [Nat.add_zero] at z0
    exact ⟨pv', sv', z0.trans q0, z1.trans q1, z2.trans q2, z3.trans q3, z4.trans q4, q5.ck hc (by decide) (by decide), q6.ck hc (by decide) (by decide)⟩
  · rw [List.getElem?_append_right hi] at hy
    have hi0 : i - l.length = 0 := by
      have := (List.getElem?_eq_some_iff.1 hy).1
      simpa using this
    rw [hi0] at hy
    obtain rfl : x = y := by simpa using hy
    have hil : i = l.length := by omega
    have z0 := (g0 i 0).1 hil; have z1 := (g0 i 1).1 hil; have z2 := (g0 i 2).1 hil; have z3 := (g0 i 3).1 hil; have z4 := (g0 i 4).1 hil
    rw [Nat.add_zero] at z0
    exact ⟨pv, sv, z0, z1, z2, z3, z4, hp.ck hc (by decide) (by decide), hs.ck hc (by decide) (by decide)⟩
theorem ownBlock_cells {w : World} {base : Nat} {t : TypeId} {sz n : Nat} {v : Value} {xs : List Value} (h : w.ownsRow base t sz v n xs) {k : Nat} (hk : v.ownBlock = some k) : ∃ cs, Bk w k cs t := by
  rcases h.2 with ⟨rfl, _⟩ | ⟨g, cap, cur, rfl, _, hh, _⟩
  · cases hk
  · obtain rfl : g = k := by simpa [Value.ownBlock] using hk
    exact ⟨cur, hh⟩
theorem MapL.noBk {w : World} {bl : Nat} {k : TypeId} {κ : Type} {K : KeyT k κ} {ks : List κ} {f : κ → Option Value} (m : MapL K w bl ks f) {cs : Array Value} {t : TypeId} (h : Bk w bl cs t) : False := by
  obtain ⟨es, cl, hm⟩ := m.at'.isMap
  unfold Bk at h
  rw [hm] at h
  cases h
theorem MapL.ckL {w w' : World} {bl : Nat} {k : TypeId} {κ : Type} {K : KeyT k κ} {ks : List κ} {f : κ → Option Value} (m : MapL K w bl ks f) (hk : KeepL [bl] w w') : CK (fun _ => True) w w' := CK.keepL hk (fun k hk cs t _ hb => by
  rw [List.mem_singleton] at hk
  subst hk
  exact m.noBk hb)
/-- A transfer more, and the field that says where they lie. -/
theorem NetAt.sent_to {w w' : World} {N : Nat} {s : NS} {bn bl : Nat} {vh vs vs' : Value} {x : SentM} {vals : List Value} (h : NetAt w N s bn bl vh vs) (ho : w.ownsRow 0 102 5 vs s.sents.length vals) (hg : w.grownBy w' vs.ownBlock) (hs : SentsAt w' vs' (s.sents ++ [x])) :
    NetAt (w'.setCell ⟨N, 5, none⟩ vs') N { s with sents := s.sents ++ [x] } bn bl vh vs' := by
  have hc := CK.grown_row ho hg
  have hN := hc _ _ _ (by decide) h.blk
  have hc2 : CK (fun t => t ≠ 56) w' (w'.setCell ⟨N, 5, none⟩ vs') := CK.setCell hN
  have hmap : ∀ {b : Nat} {k : TypeId} {κ : Type} {K : KeyT k κ} {ks : List κ} {f : κ → Option Value}, MapL K w b ks f → MapL K (w'.setCell ⟨N, 5, none⟩ vs') b ks f := fun {b k κ K ks f} m => by
    have m1 : MapL K w' b ks f := m.keep (hg.block b m.lt (fun e => by
      obtain ⟨cs, hb⟩ := ownBlock_cells ho e.symm
      exact m.noBk hb))
    refine m1.keep (Below.heap_setCell _ _ _ _ (fun e => ?_))
    have e' : b = N := e
    subst e'
    exact m1.noBk hN
  refine ⟨?_, hmap h.nodes, hmap h.links, (h.holds.ck hc (by decide) (by decide)).ck hc2 (by decide) (by decide), hs.ck hc2 (by decide) (by decide) (by decide) (by decide) (by decide), ⟨h.ok.nod, h.ok.nn, h.ok.named, h.ok.pod, h.ok.pn, h.ok.pin, h.ok.lk, h.ok.now⟩, h.ne⟩
  have := hN.set 5 vs'
  exact this
theorem lies_new {v v' : Value} {H w0 : Nat} (h : Lies v v' H) (hH : w0 ≤ H) : ∀ x, v'.ownBlock = some x → v.ownBlock = some x ∨ w0 ≤ x := fun x hx => by
  rcases h with h | h
  · exact .inl (h ▸ hx)
  · rw [h] at hx
    injection hx with hx
    exact .inr (hx ▸ hH)
theorem sendE_zero {s : NS} {a b : Nm} {n m : Nat} {k need : Int} (h : sendE s a b n k need m = 0) : namedB a = true ∧ namedB b = true ∧ a ≠ b ∧ a ∈ s.nodes ∧ b ∈ s.nodes ∧ (1 ≤ n ∧ n ≤ 256) ∧ (1 ≤ k ∧ k ≤ 4) ∧ (1 ≤ need ∧ need ≤ k) ∧ ((m : Int) = (need - 1) * n) ∧ s.sents.length ≠ 256 := by
  have key : ∀ (x y z u : Int), firstE [x, y, z, u] = 0 → x = 0 ∧ y = 0 ∧ z = 0 ∧ u = 0 := fun x y z u h => by
    simp only [firstE] at h
    split at h
    · split at h
      · split at h
        · split at h
          · exact ⟨by assumption, by assumption, by assumption, by assumption⟩
          · contradiction
        · contradiction
      · contradiction
    · contradiction
  obtain ⟨h1, h2, h3, h4⟩ := key _ _ _ _ h
  obtain ⟨e1, e2, e3, e4, e5, _, _⟩ := endsE_zero h1
  unfold lenE at h2; unfold argsE at h3
  split at h2
  case isFalse => omega
  split at h3
  case isTrue => omega
  obtain ⟨h5, h6⟩ := firstE2 h4
  unfold coinE at h5; unfold fullE at h6
  split at h5
  case isTrue => omega
  split at h6
  case isTrue => omega
  rename_i k2 k3 k5 k6
  have hneed : 1 ≤ need ∧ need ≤ 4 := by omega
  have hn : 1 ≤ n ∧ n ≤ 256 := by omega
  have e6 : IntKind.i64.wrap (need - 1) = need - 1 := by rw [IntKind.wrap_i64]; omega
  have hmul : 0 ≤ (need - 1) * (n : Int) ∧ (need - 1) * (n : Int) ≤ 3 * 256 := by
    refine ⟨Int.mul_nonneg (by omega) (by omega), ?_⟩
    exact Int.mul_le_mul (by omega) (by omega) (by omega) (by omega)
  have e7 : IntKind.i64.wrap (IntKind.i64.wrap (need - 1) * (n : Int)) = (need - 1) * n := by
    rw [e6, IntKind.wrap_i64]
    generalize (need - 1) * (n : Int) = z at *
    omega
  rw [e7] at k5
  refine ⟨e1, e2, e3, e4, e5, hn, by omega, by omega, ?_, k6⟩
  simpa using k5
theorem moves_send_ok {s : NS} (hok : NSOK s) {a b : Nm} (ha : a ∈ s.nodes) (hb : b ∈ s.nodes) (hab : a ≠ b) {n k : Nat} (h : pathsG s (8 * (n : Int)) a b k ≠ []) (j : Nat) : NSOK (moves s ((sendPs s a b n k).take j) (-8 * (n : Int)) 0 (8 * (n : Int))) := by
  obtain ⟨_, h1, h2, _⟩ := pathsN hok ha hb hab h
  refine moves_ok (by omega) (by omega) _ s hok (fun p hp => ?_) (h2.sublist (List.take_sublist _ _))
  have hg := h1 p (List.mem_of_mem_take hp)
  refine ⟨hg.nodup, fun i hi => ?_⟩
  obtain ⟨q1, q2⟩ := hg.link i hi
  have := hok.lk _ q1
  unfold MvL
  omega
end Go.Proofs.YtblilfbhohnbgaaGreat
namespace Go.Proofs.YtblilfbhohnbgaaGreat
open List (setIfInBounds_toArray set_cons_zero set_cons_succ)
open Go.RowKit
set_option linter.unusedVariables false
def holdV (h : HoldM) (pv : Value) : Value := .agg #[.int .i64 h.id, pv, .int .i64 h.bits, .int .i64 h.til]
/-- Holds in memory, from a base on. -/
def HoldsB (w : World) (base : Nat) (v : Value) (l : List HoldM) : Prop := ∃ vals, w.ownsRow base 79 4 v l.length vals ∧
  ∀ (i : Nat) (x : HoldM), l[i]? = some x → ∃ pv, vals[i * 4]? = some (.int .i64 x.id) ∧ vals[i * 4 + 1]? = some pv ∧ vals[i * 4 + 2]? = some (.int .i64 x.bits) ∧ vals[i * 4 + 3]? = some (.int .i64 x.til) ∧ NmRow w pv x.path
theorem HoldsB.at0 {w : World} {base : Nat} {v : Value} {l : List HoldM} (h : HoldsB w base v l) : HoldsAt w v l := by
  obtain ⟨vals, h1, h2⟩ := h
  exact ⟨vals, ownsRow_mono h1 (Nat.zero_le _), h2⟩
theorem HoldsB.ck {T : TypeId → Prop} {w w' : World} {base : Nat} {v : Value} {l : List HoldM} (h : HoldsB w base v l) (hb : CK T w w') (h1 : T 9) (h2 : T 79) : HoldsB w' base v l := by
  obtain ⟨vals, e1, e2⟩ := h
  refine ⟨vals, ownsRow_ck e1 hb h2, fun i x hx => ?_⟩
  obtain ⟨pv, q1, q2, q3, q4, q5⟩ := e2 i x hx
  exact ⟨pv, q1, q2, q3, q4, q5.ck hb h1⟩
theorem info_hold : (Tryz.prog.info? 79).map (fun i => (i.zero, i.size, i.bytes)) = some (some (.agg #[.int .i64 0, .slice none 0 0, .int .i64 0, .int .i64 0]), 4, 48) := by kernel_rfl
theorem elB_hold : ElemB Tryz.prog 53 79 4 48 := ElemB.of Tryz.underlying53 info_hold rfl (by decide)
theorem getE4 {α : Type} {vals us : List α} {n i : Nat} (hv : vals.length = n * 4) (j : Nat) : (i = n → (vals ++ us)[i * 4 + j]? = us[j]?) ∧ (i < n → j < 4 → (vals ++ us)[i * 4 + j]? = vals[i * 4 + j]?) := by
  refine ⟨fun h => ?_, fun h hj => ?_⟩
  · subst h
    rw [List.getElem?_append_right (by omega), show i * 4 + j - vals.length = j by omega]
  · rw [List.getElem?_append_left (by omega)]
theorem HoldsB.push {w w' : World} {base : Nat} {v v' : Value} {l : List HoldM} {x : HoldM} {vals : List Value} {pv : Value} (ho : w.ownsRow base 79 4 v l.length vals)
    (hv : ∀ (i : Nat) (x : HoldM), l[i]? = some x → ∃ pv, vals[i * 4]? = some (.int .i64 x.id) ∧ vals[i * 4 + 1]? = some pv ∧ vals[i * 4 + 2]? = some (.int .i64 x.bits) ∧ vals[i * 4 + 3]? = some (.int .i64 x.til) ∧ NmRow w pv x.path)
    (hp : NmRow w pv x.path) (hown : w'.ownsRow base 79 4 v' (l.length + 1) (vals ++ [.int .i64 x.id, pv, .int .i64 x.bits, .int .i64 x.til])) (hg : w.grownBy w' v.ownBlock) : HoldsB w' base v' (l ++ [x]) := by
  have hc := CK.grown_row ho hg
  have hl : vals.length = l.length * 4 := ho.1
  refine ⟨_, by simpa using hown, fun i y hy => ?_⟩
  have g0 := fun i j => getE4 (us := [Value.int .i64 x.id, pv, Value.int .i64 x.bits, Value.int .i64 x.til]) (i := i) hl j
  rcases Nat.lt_or_ge i l.length with hi | hi
  · rw [List.getElem?_append_left hi] at hy
    obtain ⟨pv', q0, q1, q2, q3, q4⟩ := hv i y hy
    have z0 := ((g0 i 0).2 hi (by omega)); have z1 := ((g0 i 1).2 hi (by omega)); have z2 := ((g0 i 2).2 hi (by omega)); have z3 := ((g0 i 3).2 hi (by omega))
    rw [Nat.add_zero] at z0
    exact ⟨pv', z0.trans q0, z1.trans q1, z2.trans q2, z3.trans q3, q4.ck hc (by decide)⟩
  · rw [List.getElem?_append_right hi] at hy
    have hi0 : i - l.length = 0 := by
      have := (List.getElem?_eq_some_iff.1 hy).1
      simpa using this
    rw [hi0] at hy
    obtain rfl : x = y := by simpa using hy
    have hil : i = l.length := by omega
    have z0 := (g0 i 0).1 hil; have z1 := (g0 i 1).1 hil; have z2 := (g0 i 2).1 hil; have z3 := (g0 i 3).1 hil
    rw [Nat.add_zero] at z0
    exact ⟨pv, z0, z1, z2, z3, hp.ck hc (by decide)⟩
/-- A hold in memory. -/
theorem HoldsAt.at {w : World} {v : Value} {l : List HoldM} (h : HoldsAt w v l) {i : Nat} {x : HoldM} (hx : l[i]? = some x) : ∃ g c pv, v = .slice (some ⟨g, 0, none⟩) l.length c ∧ g < w.heap.size ∧
    w.cell? ⟨g, i * 4, none⟩ = some (.int .i64 x.id) ∧ w.cell? ⟨g, i * 4 + 1, none⟩ = some pv ∧ w.cell? ⟨g, i * 4 + 2, none⟩ = some (.int .i64 x.bits) ∧ w.cell? ⟨g, i * 4 + 3, none⟩ = some (.int .i64 x.til) ∧ NmRow w pv x.path := by
  obtain ⟨vals, h1, h2⟩ := h
  obtain ⟨pv, q0, q1, q2, q3, q4⟩ := h2 i x hx
  have hi : i < l.length := (List.getElem?_eq_some_iff.1 hx).1
  rcases h1.2 with ⟨_, e⟩ | ⟨g, cap, cur, rfl, _, hh, hcap, _, _, htk⟩
  · omega
  · have hc : ∀ (j : Nat) (u : Value), vals[j]? = some u → w.cell? ⟨g, j, none⟩ = some u := fun j u hu => by
      have hj : j < l.length * 4 := by
        have := (List.getElem?_eq_some_iff.1 hu).1
        have := h1.1
        omega
      rw [Bk.cell (show Bk w g cur 79 from hh), ← hu, ← htk, List.getElem?_take, if_pos hj, Array.getElem?_toList]
    exact ⟨g, cap, pv, rfl, (Array.getElem?_eq_some_iff.1 hh).1, hc _ _ q0, hc _ _ q1, hc _ _ q2, hc _ _ q3, q4⟩
theorem HoldsAt.form {w : World} {v : Value} {l : List HoldM} (h : HoldsAt w v l) : ∃ A c, v = .slice A l.length c ∧ l.length ≤ c := by
  obtain ⟨vals, h1, _⟩ := h
  exact own_form h1
/-- A closure on holds, with one captured variable. -/
def PredOK (w : World) (bl : Nat) (fn : FuncId) (p : Nat) (P : HoldM → Bool) : Prop :=
  (∀ (v : Value) (W : World), (callFunc fn #[v, .pointer (some ⟨p, 0, none⟩)]).run Tryz.prog W = .ok (.enter fn #[v, .pointer (some ⟨p, 0, none⟩)]) W) ∧
  ∀ (W : World) (h : HoldM) (pv : Value), KeepL [bl] w W → NmRow W pv h.path → h.path.length ≤ 1000 → Calls Tryz.prog fn #[holdV h pv, .pointer (some ⟨p, 0, none⟩)] W fun e W' => e = .returned (.bool (P h)) ∧ Below W.heap.size W W'
def dropS (P : HoldM → Bool) (s : NS) : NS := { (dropF P s s.holds).1 with holds := (dropF P s s.holds).2 }
def DropP (N : Nat) (s : NS) (bn bl : Nat) (vs : Value) (P : HoldM → Bool) (w : World) (e : Ending) (w' : World) : Prop := e = .returned (.tuple #[]) ∧ (∃ vh', NetAt w' N (dropS P s) bn bl vh' vs ∧ ∀ x, vh'.ownBlock = some x → w.heap.size ≤ x) ∧ KeepL [N, bl] w w'
theorem NetAt.holds_to {w w' : World} {N : Nat} {s : NS} {bn bl : Nat} {vh vh' vs : Value} {l : List HoldM} (h : NetAt w N s bn bl vh vs) (hl : HoldsAt w vh' l) (hw : w' = w.setCell ⟨N, 3, none⟩ vh') : NetAt w' N { s with holds := l } bn bl vh' vs := by
  subst hw
  have hc2 : CK (fun t => t ≠ 56) w (w.setCell ⟨N, 3, none⟩ vh') := CK.setCell h.blk
  have hmap : ∀ {b : Nat} {k : TypeId} {κ : Type} {K : KeyT k κ} {ks : List κ} {f : κ → Option Value}, MapL K w b ks f → MapL K (w.setCell ⟨N, 3, none⟩ vh') b ks f := fun {b k κ K ks f} m => by
    refine m.keep (Below.heap_setCell _ _ _ _ (fun e => ?_))
    have e' : b = N := e
    subst e'
    exact m.noBk h.blk
  refine ⟨?_, hmap h.nodes, hmap h.links, hl.ck hc2 (by decide) (by decide), h.sents.ck hc2 (by decide) (by decide) (by decide) (by decide) (by decide), ⟨h.ok.nod, h.ok.nn, h.ok.named, h.ok.pod, h.ok.pn, h.ok.pin, h.ok.lk, h.ok.now⟩, h.ne⟩
  have := h.blk.set 3 vh'
  exact this
theorem wrap64_neg {b : Int} (h1 : 1 ≤ b) (h2 : b ≤ 65536) : wrap64 (-b) = -b := by unfold wrap64; omega
theorem hold_cells (x y z : Int) (A : Option Addr) (n c : Nat) : ∀ u ∈ (#[.int .i64 x, .slice A n c, .int .i64 y, .int .i64 z] : Array Value).toList, u.oneCell' = true := by
  intro u hu
  simp only [List.mem_cons, List.not_mem_nil, or_false] at hu
  rcases hu with rfl | rfl | rfl | rfl <;> rfl
/-- What grows beyond is no old memory. -/
theorem KeepL.trans' {L : List Nat} {a b c : World} {r : Option Nat} (h : KeepL L a b) (hg : b.grownBy c r) (hr : ∀ k, r = some k → a.heap.size ≤ k) : KeepL L a c :=
  ⟨hg.os.trans h.os, hg.tape.trans h.tape, hg.output.trans h.output, Nat.le_trans h.size hg.size, fun k hk hL => (hg.block k (Nat.lt_of_lt_of_le hk h.size) (fun e => by have := hr k e.symm; omega)).trans (h.block k hk hL)⟩
set_option maxRecDepth 100000 in
set_option maxHeartbeats 4000000 in
theorem drop_any {w : World} {N : Nat} {s : NS} {bn bl : Nat} {vh vs : Value} (h : NetAt w N s bn bl vh vs) (hh : HeldBy s s.holds) (hl64 : s.holds.length ≤ 64) (fn : FuncId) (p : Nat) (P : HoldM → Bool) (hp : PredOK w bl fn p P) :
    Calls Tryz.prog 38 #[.pointer (some ⟨N, 0, none⟩), .func (.func fn) #[] #[.pointer (some ⟨p, 0, none⟩)]] w (DropP N s bn bl vs P w) := by
  have H := Lib.hid h; have HH := Lib.hid hh
  have hen := hp.1
  have HPR := Lib.hid hp.2
  obtain ⟨hA, hc, rfl, hhc⟩ := h.holds.form
  have n3 := h.blk.cell 3
  simp only [List.getElem?_toArray, List.getElem?_cons_succ, List.getElem?_cons_zero] at n3
  obtain ⟨ln, hln⟩ : ∃ ln, ln = s.holds.length := ⟨_, rfl⟩
  have HLN := Lib.hid hln
  rw [← hln] at n3 hl64
  have HI0 : Hid (MapL pairK w bl s.pairs (linksF (dropF P s (s.holds.take 0)).1) ∧ KeepL [bl] w w ∧ HoldsB w w.heap.size (.slice none 0 0) (dropF P s (s.holds.take 0)).2) := Lib.hid ⟨h.links, KeepL.refl _ _, ⟨[], World.ownsRow_nil _ _ _ _, fun i x hx => by cases hx⟩⟩
  clear h hh hp hln hhc
  go_enter Tryz.func38, Tryz.ntmps38
  go_wp2_with fail
  go_loopw [4, 6, 12] (fun v _ i wr => ∃ k : Nat, k ≤ ln ∧ i = .int .i64 k ∧ MapL pairK wr bl s.pairs (linksF (dropF P s (s.holds.take k)).1) ∧ KeepL [bl] w wr ∧ HoldsB wr w.heap.size v (dropF P s (s.holds.take k)).2) (fun _ _ i _ => ln - (intOf i).toNat)
  case atStart => exact ⟨0, Nat.zero_le _, rfl, HI0.out⟩
  case round =>
    obtain ⟨k, hk, rfl, hm, hkp, hb⟩ := hrel
    obtain ⟨wi, rfl⟩ : ∃ z : World, z = wr := ⟨_, rfl⟩
    obtain ⟨i1, i2, i3⟩ := dropF_at (P := P) H.out.ok HH.out k (by rw [← HLN.out]; exact hk)
    have HNK := Lib.hid (H.out.links_to hkp hm i3 i1)
    have HKP := Lib.hid hkp; have HB := Lib.hid hb; have HI2 := Lib.hid i2; have HI3 := Lib.hid i3
    have HCK := Lib.hid (H.out.links.ckL hkp)
    obtain ⟨vals, hov, hvv⟩ := hb
    have HOV := Lib.hid hov; have HVV := Lib.hid hvv
    obtain ⟨oA, oc, rfl, hoc⟩ := own_form hov
    clear HI0 hm hkp i1 i2 i3 hov hvv n3
    by_cases hlt : k < ln
    · have hki : (k : Int) < (ln : Int) := by omega
      obtain ⟨x, hx⟩ : ∃ x, s.holds[k]? = some x := ⟨_, List.getElem?_eq_getElem (by rw [← HLN.out]; exact hlt)⟩
      have hhold := H.out.holds.ck HCK.out trivial trivial
      obtain ⟨g, c', pv, he, _, c0, c1, c2, c3, hrow⟩ := hhold.at hx
      injection he with he1 he2 he3
      subst he1
      have hok : HolOK s x := HH.out.each x (List.mem_of_getElem? hx)
      have hx16 := hok.len16 H.out.ok
      have HROW := Lib.hid hrow
      have HCALL := Lib.hid (HPR.out)
      have HTK : Hid (s.holds.take (k + 1) = s.holds.take k ++ [x]) := Lib.hid (by
        obtain ⟨q1, q2⟩ := List.getElem?_eq_some_iff.1 hx
        rw [List.take_succ_eq_append_getElem q1, q2])
      have HDR : Hid (s.holds.drop k = x :: s.holds.drop (k + 1)) := Lib.hid (by
        obtain ⟨q1, q2⟩ := List.getElem?_eq_some_iff.1 hx
        rw [List.drop_eq_getElem_cons q1, q2])
      have HB16 : Hid (x.path.length ≤ 16 ∧ 1 ≤ x.bits ∧ x.bits ≤ 65536) := Lib.hid ⟨hx16, hok.b1, hok.b2⟩
      have HOKX := Lib.hid hok
      obtain ⟨pb, pc, pcs, rfl, _⟩ := id hrow
      clear he2 he3 hhold hrow hok hx16 hx
      have hwn : wrap64 (-x.bits) = -x.bits := by
        have h1 := HB16.out.2.1
        have h2 := HB16.out.2.2
        exact wrap64_neg h1 h2
      have HP0 : Hid (∃ pb, pb = P x) := Lib.hid ⟨_, rfl⟩
      obtain ⟨px, hpx⟩ := HP0.out
      have HPX := Lib.hid hpx
      go_wp2_with fail
      obtain ⟨w6, hw6⟩ : ∃ w6, w6 = wi.alloc (.cells #[.int .i64 x.id, .slice (some ⟨pb, 0, none⟩) x.path.length pc, .int .i64 x.bits, .int .i64 x.til] 79) := ⟨_, rfl⟩
      have HB6 : Hid (Below wi.heap.size wi w6) := Lib.hid (by rw [hw6]; exact below_alloc _ _)
      have HK6 : Hid (Bk w6 wi.heap.size #[.int .i64 x.id, .slice (some ⟨pb, 0, none⟩) x.path.length pc, .int .i64 x.bits, .int .i64 x.til] 79) := Lib.hid (by rw [hw6]; exact Bk.new _ _ _)
      have HC6 := Lib.hid (HPR.out w6 x (.slice (some ⟨pb, 0, none⟩) x.path.length pc) (HKP.out.trans (KeepL.of_below HB6.out)) (HROW.out.far HB6.out) (by have := HB16.out.1; omega))
      rw [← hw6]
      clear hw6 c0 c1 c2 c3 hpx HP0 HCALL
      have hen6 := hen (holdV x (.slice (some ⟨pb, 0, none⟩) x.path.length pc)) w6
      unfold holdV at hen6 HC6
      refine HC6.out.mono ?_
      clear HC6 hen6
      rw [← HPX.out]
      rintro e w7 ⟨rfl, hb7⟩
      have HB7 := Lib.hid (bnextK HB6.out hb7)
      have HK7 := Lib.hid (HK6.out.past hb7 HK6.out.lt)
      have HROW7 := Lib.hid (HROW.out.far HB7.out)
      have k0 := HK7.out.cell 0; have k1 := HK7.out.cell 1; have k2 := HK7.out.cell 2; have k3 := HK7.out.cell 3
      simp only [List.getElem?_toArray, List.getElem?_cons_succ, List.getElem?_cons_zero] at k0 k1 k2 k3
      have HN7 := Lib.hid (HNK.out.far HB7.out)
      have HKP7 := Lib.hid (HKP.out.trans (KeepL.of_below HB7.out))
      have HBL7 : Hid (HoldsB w7 w.heap.size (.slice oA (dropF P s (s.holds.take k)).2.length oc) (dropF P s (s.holds.take k)).2) := Lib.hid (HB.out.ck (T := fun _ => True) (.of_below HB7.out) trivial trivial)
      have HFS : Hid (dropF P s (s.holds.take (k + 1)) = dropStep P (dropF P s (s.holds.take k)) x) := Lib.hid (by rw [HTK.out, dropF_snoc])
      clear hb7 HK6 HB6
      cases px with
      | true =>
        have HF1 : Hid ((dropF P s (s.holds.take (k + 1))).1 = moveG (dropF P s (s.holds.take k)).1 x.path x.bits (-x.bits) 0 ∧ (dropF P s (s.holds.take (k + 1))).2 = (dropF P s (s.holds.take k)).2) := Lib.hid (by rw [HFS.out]; unfold dropStep; rw [if_pos HPX.out.symm]; exact ⟨rfl, rfl⟩)
        have hi2 := HI2.out
        rw [HDR.out] at hi2
        have hback := hi2.back HNK.out.ok x.bits 0 (by omega) (by have := HB16.out.2.1; omega) (by omega)
        have HMV := Lib.hid (move_any HN7.out x.path (.slice (some ⟨pb, 0, none⟩) x.path.length pc) HROW7.out x.bits (-x.bits) 0 (by have := HOKX.out.len; omega) (by have := HB16.out.1; omega) HOKX.out.nodup (fun i hi => by rw [HI3.out.2.2.1]; exact HOKX.out.link i hi) hback.1 ⟨by have := HB16.out; omega, by have := HB16.out; omega⟩ ⟨by have := HB16.out; omega, by have := HB16.out; omega⟩ ⟨by omega, by omega⟩)
        clear hi2 hback k0 k3
        generalize (dropF P s (s.holds.take k)).2.length = dl at *
        go_wp2_with fail
        refine HMV.out.mono ?_
        clear HMV
        rintro e w8 ⟨rfl, hn8, hk8⟩
        have HN8 := Lib.hid hn8; have HK8 := Lib.hid (HKP7.out.trans hk8)
        have HBL8 : Hid (HoldsB w8 w.heap.size (.slice oA dl oc) (dropF P s (s.holds.take k)).2) := Lib.hid (HBL7.out.ck (HN7.out.links.ckL hk8) trivial trivial)
        have HM8 : Hid (MapL pairK w8 bl s.pairs (linksF (dropF P s (s.holds.take (k + 1))).1)) := Lib.hid (by
          rw [HF1.out.1]
          have := hn8.links
          rw [(moveG_same _ _ _ _ _).2.2.1, HI3.out.2.2.1] at this
          exact this)
        clear hn8 hk8 k1 k2
        go_wp2_with fail
        go_roundw
        case rel => exact ⟨k + 1, by omega, by go_num, HM8.out, HK8.out, by rw [HF1.out.2]; exact HBL8.out⟩
        case measure => simp [intOf]; omega
      | false =>
        have HF1 : Hid ((dropF P s (s.holds.take (k + 1))).1 = (dropF P s (s.holds.take k)).1 ∧ (dropF P s (s.holds.take (k + 1))).2 = (dropF P s (s.holds.take k)).2 ++ [x]) := Lib.hid (by rw [HFS.out]; unfold dropStep; rw [if_neg (by rw [← HPX.out]; simp)]; exact ⟨rfl, rfl⟩)
        obtain ⟨vals7, hov7, hvv7⟩ := HBL7.out
        have HOV7 := Lib.hid hov7; have HVV7 := Lib.hid hvv7
        have hsz7 := HKP7.out.size
        have hdl : (dropF P s (s.holds.take k)).2.length ≤ 64 := by
          rw [dropF_left]
          have h1 := List.length_filter_le (fun h => !P h) (s.holds.take k)
          rw [List.length_take] at h1
          omega
        have HDL := Lib.hid hdl
        clear hov7 hvv7 hdl
        obtain ⟨dl, hdl⟩ : ∃ dl, dl = (dropF P s (s.holds.take k)).2.length := ⟨_, rfl⟩
        have HDE := Lib.hid hdl
        rw [← hdl] at HOV7 HDL hoc ⊢
        clear hdl
        go_wp2_with (at_builtin
                     refine wpList_push elB_hold (.tmp 28) (.tmp 30) rfl rfl w.heap.size dl vals7 rfl HOV7.out rfl rfl (hold_cells _ _ _ _ _ _) (Nat.le_trans HDL.out (by decide)) (by decide) hsz7 ?_
                     intro v9 w9 hown9 hb9 hg9
                     obtain ⟨A9, d9, rfl, hd9⟩ := own_form hown9
                     have HC9 := Lib.hid (CK.grown_row HOV7.out hg9)
                     have HBL9 : Hid (HoldsB w9 w.heap.size (.slice A9 (dl + 1) d9) (dropF P s (s.holds.take (k + 1))).2) := Lib.hid (by
                       rw [HF1.out.2]
                       refine HoldsB.push (by rw [← HDE.out]; exact HOV7.out) HVV7.out HROW7.out (by rw [← HDE.out]; exact hown9) hg9)
                     have HK9 : Hid (KeepL [bl] w w9) := Lib.hid (HKP7.out.trans' hg9 (fun r hr => (HOV7.out.lt r hr).1))
                     have HM9 : Hid (MapL pairK w9 bl s.pairs (linksF (dropF P s (s.holds.take (k + 1))).1)) := Lib.hid (by
                       rw [HF1.out.1]
                       have := HN7.out.links
                       rw [HI3.out.2.2.1] at this
                       exact this.keep (hg9.block bl this.lt (fun e => by
                         obtain ⟨cs, hbk⟩ := ownBlock_cells HOV7.out e.symm
                         exact this.noBk hbk)))
                     clear hown9 hb9 hg9)
        go_roundw
        case rel => exact ⟨k + 1, by omega, by go_num, HM9.out, HK9.out, HBL9.out⟩
        case measure => simp [intOf]; omega
    · have hki : ¬ (k : Int) < (ln : Int) := by omega
      obtain rfl : k = ln := by omega
      have HALL : Hid (s.holds.take k = s.holds) := Lib.hid (List.take_of_length_le (by rw [← HLN.out]; exact Nat.le_refl _))
      rw [HALL.out] at HNK HB HOV hoc ⊢
      have hb3 := HNK.out.blk.cell 3
      have hf3 := HNK.out.blk.froz 3
      simp only [List.getElem?_toArray, List.getElem?_cons_succ, List.getElem?_cons_zero] at hb3
      go_wp2_with fail
      go_end0
      have hnet := HNK.out.holds_to (HB.out.at0) rfl
      refine ⟨rfl, ⟨_, hnet, fun y hy => ?_⟩, ?_⟩
      · exact (HOV.out.lt y hy).1
      · exact (HKP.out.sub (fun k hk => by simp at hk; simp [hk])).trans ((KeepL.set _ _ _ _).sub (fun k hk => by simp at hk; simp [hk]))
abbrev SdBox (h0 N : Nat) (cv : Value) (need n : Int) (W : World) : Prop := W.cell? ⟨h0, 0, none⟩ = some (.pointer (some ⟨N, 0, none⟩)) ∧ W.cell? ⟨h0 + 1, 0, none⟩ = some (.int .i64 need) ∧ W.cell? ⟨h0 + 1 + 1, 0, none⟩ = some cv ∧ W.cell? ⟨h0 + 1 + 1 + 1, 0, none⟩ = some (.int .i64 n)
/-- The boxes of Send, whole. -/
structure SdBk (h0 N : Nat) (cv : Value) (need n : Int) (W : World) : Prop where
  b0 : Bk W h0 #[.pointer (some ⟨N, 0, none⟩)] 24
  b1 : Bk W (h0 + 1) #[.int .i64 need] 3
  b2 : Bk W (h0 + 1 + 1) #[cv] 41
  b3 : Bk W (h0 + 1 + 1 + 1) #[.int .i64 n] 3
theorem SdBk.cells {h0 N : Nat} {cv : Value} {need n : Int} {W : World} (h : SdBk h0 N cv need n W) : SdBox h0 N cv need n W := ⟨by rw [h.b0.cell]; rfl, by rw [h.b1.cell]; rfl, by rw [h.b2.cell]; rfl, by rw [h.b3.cell]; rfl⟩
theorem SdBk.ck {h0 N : Nat} {cv : Value} {need n : Int} {W W' : World} {T : TypeId → Prop} (h : SdBk h0 N cv need n W) (hc : CK T W W') (t0 : T 24) (t1 : T 3) (t2 : T 41) : SdBk h0 N cv need n W' := ⟨hc _ _ _ t0 h.b0, hc _ _ _ t1 h.b1, hc _ _ _ t2 h.b2, hc _ _ _ t1 h.b3⟩
theorem SdBk.far {h0 N : Nat} {cv : Value} {need n : Int} {W W' : World} (h : SdBk h0 N cv need n W) (hb : Below W.heap.size W W') : SdBk h0 N cv need n W' := h.ck (T := fun _ => True) (.of_below hb) trivial trivial trivial
theorem NmRows.at {w : World} {g n c : Nat} {l : List (List Nm)} (h : NmRows w (.slice (some ⟨g, 0, none⟩) n c) l) {i : Nat} {p : List Nm} (hp : l[i]? = some p) : ∃ u, w.cell? ⟨g, i, none⟩ = some u ∧ NmRow w u p := by
  obtain ⟨g', c', cs, he, _, hb, hr⟩ := h
  injection he with he _ _
  injection he with he
  injection he with he _ _
  subst he
  obtain ⟨u, h1, h2⟩ := hr i p hp
  exact ⟨u, by rw [hb.cell]; exact h1, h2⟩
theorem NmRows.farW {w w' : World} {v : Value} {l : List (List Nm)} (h : NmRows w v l) (hb : Below w.heap.size w w') : NmRows w' v l := h.ck (T := fun _ => True) (.of_below hb) trivial trivial
theorem sent_cells (x y z : Int) (A B : Option Addr) (n c m d : Nat) : ∀ u ∈ (#[.int .i64 x, .int .i64 y, .int .i64 z, .slice A n c, .slice B m d] : Array Value).toList, u.oneCell' = true := by
  intro u hu
  simp only [List.mem_cons, List.not_mem_nil, or_false] at hu
  rcases hu with rfl | rfl | rfl | rfl | rfl <;> rfl
set_option maxRecDepth 100000 in
set_option maxHeartbeats 8000000 in
theorem Send_any {w : World} {N : Nat} {s : NS} {bn bl : Nat} {vh vs : Value} (h : NetAt w N s bn bl vh vs) (a b : Nm) (A A' : Option Addr) (n c m c' : Nat) (k need : Int) (sec co : List Nat) (ha : a.length ≤ maxLen) (hb : b.length ≤ maxLen) (hsl : s.sents.length ≤ 256) (hn : n ≤ 9223372036854775807) (hnc : n ≤ c) (hmc : m ≤ c')
    (hs : Bytes sec) (hco : Bytes co) (hr : Rd w w.heap.size 1 A n (u8s sec)) (hr' : Rd w w.heap.size 1 A' m (u8s co)) :
    Calls Tryz.prog 27 #[.pointer (some ⟨N, 0, none⟩), encS a, encS b, .slice A n c, .int .i64 k, .int .i64 need, .slice A' m c'] w (SendP N s bn bl vh vs a b sec co n m k need w) := by
  have hmf : ∀ (fn : Fn) (first cap : Array Value) (w : World), (Instr.makeFunc fn first cap).run Tryz.prog w = .ok (.func fn first cap) w := fun _ _ _ _ => rfl
  obtain ⟨w1, hw1⟩ : ∃ w1, w1 = (((w.alloc (.cells #[.pointer (some ⟨N, 0, none⟩)] 24)).alloc (.cells #[.int .i64 need] 3)).alloc (.cells #[.slice A' m c'] 41)).alloc (.cells #[.int .i64 n] 3) := ⟨_, rfl⟩
  obtain ⟨k0, k1, k2, k3⟩ := boxes4 w #[.pointer (some ⟨N, 0, none⟩)] #[.int .i64 need] #[.slice A' m c'] #[.int .i64 n] 24 3 41 3
  have hb1 : Below w.heap.size w w1 := by rw [hw1]; exact bnextK (alloc3_below w _ _ _) (below_alloc _ _)
  rw [← hw1] at k0 k1 k2 k3
  have h1 := h.far hb1
  have HW1 := Lib.hid hw1; have HB1 := Lib.hid hb1; have H1 := Lib.hid h1; have H := Lib.hid h
  have HBX : Hid (SdBk w.heap.size N (.slice A' m c') need n w1) := Lib.hid ⟨k0, k1, k2, k3⟩
  have HR := Lib.hid hr; have HR' := Lib.hid hr'; have HS := Lib.hid hs; have HCO := Lib.hid hco
  have HE : Hid (∀ W, Below w1.heap.size w1 W → Calls Tryz.prog 41 #[.pointer (some ⟨N, 0, none⟩), encS a, encS b] W (CondP (endsE s a b) W)) := Lib.hid fun W hW => ends_any (h1.far hW) a b ha hb
  have HUL : Hid (∀ (z : Bool) W, z = decide ((n : Int) > 256) → Calls Tryz.prog 14 #[.bool z, .int .i64 4] W (CondP (lenE n) W)) := Lib.hid fun z W hz => unless_P _ 4 _ W (by
    subst hz
    unfold lenE
    by_cases hl : (n : Int) ≤ 256
    · rw [if_pos hl, if_neg (by simp; omega)]
    · rw [if_neg hl, if_pos (by simp; omega)])
  have HUA : Hid (∀ (z : Bool) W, (z = true ↔ ((n : Int) = 0 ∨ k < 1 ∨ 4 < k ∨ need < 1 ∨ k < need)) → Calls Tryz.prog 14 #[.bool z, .int .i64 3] W (CondP (argsE n k need) W)) := Lib.hid fun z W hz => unless_P _ 3 _ W (by
    unfold argsE
    by_cases hl : ((n : Int) = 0 ∨ k < 1 ∨ 4 < k ∨ need < 1 ∨ k < need)
    · rw [if_pos hl, if_pos (hz.2 hl)]
    · rw [if_neg hl, if_neg (fun h => hl (hz.1 h))])
  have HC : Hid (CondOK w1 (.func (.func 49) #[] #[.pointer (some ⟨w.heap.size, 0, none⟩), .pointer (some ⟨w.heap.size + 1 + 1, 0, none⟩), .pointer (some ⟨w.heap.size + 1, 0, none⟩), .pointer (some ⟨w.heap.size + 1 + 1 + 1, 0, none⟩)]) (sendXE s n m need)) := Lib.hid (by
    refine ⟨_, _, rfl, enters_of Tryz.func49 (by kernel_rfl) rfl _, fun W hW => ?_⟩
    have hB := (HBX.out.far hW).cells
    exact send1_any (h1.far hW) A' m c' n need _ _ _ _ hB.1 hB.2.2.1 hB.2.1 hB.2.2.2)
  have HA : Hid (∀ (W : World) (f1 f2 f3 : Value) (g : Nat), Below w1.heap.size w1 W → CondOK W f1 (endsE s a b) → CondOK W f2 (lenE n) → CondOK W f3 (argsE n k need) → W.heap.size = g →
      Calls Tryz.prog 13 #[.pointer (some ⟨N, 0, none⟩), .slice (some ⟨g, 0, none⟩) 4 4] (W.alloc (.cells #[f1, f2, f3, .func (.func 49) #[] #[.pointer (some ⟨w.heap.size, 0, none⟩), .pointer (some ⟨w.heap.size + 1 + 1, 0, none⟩), .pointer (some ⟨w.heap.size + 1, 0, none⟩), .pointer (some ⟨w.heap.size + 1 + 1 + 1, 0, none⟩)]] 59))
        (AnsN (sendE s a b n k need m) (W.alloc (.cells #[f1, f2, f3, .func (.func 49) #[] #[.pointer (some ⟨w.heap.size, 0, none⟩), .pointer (some ⟨w.heap.size + 1 + 1, 0, none⟩), .pointer (some ⟨w.heap.size + 1, 0, none⟩), .pointer (some ⟨w.heap.size + 1 + 1 + 1, 0, none⟩)]] 59)))) := Lib.hid fun W f1 f2 f3 g hW q1 q2 q3 hg => by
    refine ask_made (h1.far hW) [(f1, endsE s a b), (f2, lenE n), (f3, argsE n k need), (_, sendXE s n m need)] _ rfl 4 rfl (by omega) ?_ g hg
    intro y hy
    simp only [List.mem_cons, List.not_mem_nil, or_false] at hy
    rcases hy with rfl | rfl | rfl | rfl
    · exact q1
    · exact q2
    · exact q3
    · exact HC.out.far hW
  obtain ⟨ev, hev⟩ : ∃ ev, ev = sendE s a b n k need m := ⟨_, rfl⟩
  have HEV := Lib.hid hev
  rw [← hev] at HA
  obtain ⟨As, cs, rfl, hcs⟩ := h.sents.form
  have HSH : Hid (∀ W, Below w1.heap.size w1 W → SdBox w.heap.size N (.slice A' m c') need n W) := Lib.hid fun W hW => (HBX.out.far hW).cells
  have hsz1 : w1.heap.size = w.heap.size + 1 + 1 + 1 + 1 := by rw [hw1]; simp
  clear h h1 hw1 hb1 k0 k1 k2 k3 hr hr' hs hco hev HC
  go_enter Tryz.func27, Tryz.ntmps27
  go_wp2_with fail
  rw [← HW1.out]
  clear HW1 hsz1
  have HNOW : Hid (Below w1.heap.size w1 w1.drew) := Lib.hid (Qw.below ⟨1, rfl⟩ _)
  go_cut [17] from 17 to 116 (fun v17 wc => v17 = .int .i64 ev ∧ Below w1.heap.size w1 wc)
  case first =>
    clear H H1 HR HR' HS HCO HEV
    by_cases g1 : n = 0
    · have hb1 : ((n : Int) == 0) = true := by simp [g1]
      have G1 := Lib.hid g1; clear g1
      refine wp_region_held_drew (S := (fun W => SdBox w.heap.size N (.slice A' m c') need n W)) (by kernel_rfl) ?_ (fun hHeld => ?_)
      · (try dsimp only); first | exact HSH.out _ HNOW.out | exact HSH.out _ (bnextK HNOW.out (below_alloc _ _))
      refine wpAnyH_take (i := 0) (oi := ⟨some 25, _, _, _, _, _⟩) (v := ?_) rfl (by kernel_rfl) (by kernel_rfl) (by kernel_rfl) (fun _ _ _ h => h) (Or.inl ⟨by rfl, ?_⟩) (by assumption) ?_; rotate_left
      · intro w hSw; (try dsimp only at hSw); go_simp; try with_reducible rfl
      try simp only [Act.put, setIfInBounds_toArray, set_cons_zero, set_cons_succ]
      refine wpAnyH_take (i := 1) (oi := ⟨some 26, _, _, _, _, _⟩) (v := ?_) rfl (by kernel_rfl) (by kernel_rfl) (by kernel_rfl) (fun _ _ _ h => h) (Or.inl ⟨by rfl, ?_⟩) (by assumption) ?_; rotate_left
      · intro w hSw; (try dsimp only at hSw); go_simp; try with_reducible rfl
      try simp only [Act.put, setIfInBounds_toArray, set_cons_zero, set_cons_succ]
      refine wpAnyH_take (i := 2) (oi := ⟨some 27, _, _, _, _, _⟩) (v := ?_) rfl (by kernel_rfl) (by kernel_rfl) (by kernel_rfl) (fun _ _ _ h => h) (Or.inl ⟨by rfl, ?_⟩) (by assumption) ?_; rotate_left
      · intro w hSw; (try dsimp only at hSw); go_simp; try with_reducible rfl
      try simp only [Act.put, setIfInBounds_toArray, set_cons_zero, set_cons_succ]
      refine wpAnyH_take (i := 3) (oi := ⟨some 28, _, _, _, _, _⟩) (v := ?_) rfl (by kernel_rfl) (by kernel_rfl) (by kernel_rfl) (fun _ _ _ h => h) (Or.inl ⟨by rfl, ?_⟩) (by assumption) ?_; rotate_left
      · intro w hSw; (try dsimp only at hSw); go_simp; try with_reducible rfl
      try simp only [Act.put, setIfInBounds_toArray, set_cons_zero, set_cons_succ]
      refine wpAnyH_take (i := 5) (oi := ⟨some 30, _, _, _, _, _⟩) (v := ?_) rfl (by kernel_rfl) (by kernel_rfl) (by kernel_rfl) (fun _ _ _ h => h) (Or.inl ⟨by rfl, ?_⟩) (by assumption) ?_; rotate_left
      · intro w hSw; (try dsimp only at hSw); go_simp; try with_reducible rfl
      try simp only [Act.put, setIfInBounds_toArray, set_cons_zero, set_cons_succ]
      refine wpAnyH_take (i := 6) (oi := ⟨some 31, _, _, _, _, _⟩) (v := ?_) rfl (by kernel_rfl) (by kernel_rfl) (by kernel_rfl) (fun _ _ _ h => h) (Or.inl ⟨by rfl, ?_⟩) (by assumption) ?_; rotate_left
      · intro w hSw; (try dsimp only at hSw); go_simp; try with_reducible rfl
      try simp only [Act.put, setIfInBounds_toArray, set_cons_zero, set_cons_succ]
      refine wpAnyH_take (i := 8) (oi := ⟨some 33, _, _, _, _, _⟩) (v := ?_) rfl (by kernel_rfl) (by kernel_rfl) (by kernel_rfl) (fun _ _ _ h => h) (Or.inl ⟨by rfl, ?_⟩) (by assumption) ?_; rotate_left
      · intro w hSw; (try dsimp only at hSw); go_simp; try with_reducible rfl
      try simp only [Act.put, setIfInBounds_toArray, set_cons_zero, set_cons_succ]
      refine wpAnyH_take (i := 9) (oi := ⟨some 34, _, _, _, _, _⟩) (v := ?_) rfl (by kernel_rfl) (by kernel_rfl) (by kernel_rfl) (fun _ _ _ h => h) (Or.inl ⟨by rfl, ?_⟩) (by assumption) ?_; rotate_left
      · intro w hSw; (try dsimp only at hSw); go_simp; try with_reducible rfl
      try simp only [Act.put, setIfInBounds_toArray, set_cons_zero, set_cons_succ]
      refine wpAnyH_take (i := 28) (oi := ⟨some 53, _, _, _, _, _⟩) (v := ?_) rfl (by kernel_rfl) (by kernel_rfl) (by kernel_rfl) (fun _ _ _ h => h) (Or.inl ⟨by rfl, ?_⟩) (by assumption) ?_; rotate_left
      · intro w hSw; (try dsimp only at hSw); go_simp; try with_reducible rfl
      try simp only [Act.put, setIfInBounds_toArray, set_cons_zero, set_cons_succ]
      refine wpAnyH_ready (rs := [4]) (by kernel_rfl) (by simp) ?_
      refine AllReadyH.cons (o := ⟨some 29, _, _, _, _, _⟩) rfl (fun K hK => ?_) AllReadyH.nil
      go_simp
      refine (HE.out _ HNOW.out).mono ?_
      rintro e w3 ⟨f3, rfl, k3, b3⟩
      obtain ⟨fn3, cap3, rfl, _⟩ := id k3
      have HNOW := Lib.hid (bnextK HNOW.out b3)
      go_wp2_with fail
      refine hK.out _ _ ?_ (fun hHeld => ?_)
      · (try dsimp only); first | exact HSH.out _ HNOW.out | exact HSH.out _ (bnextK HNOW.out (below_alloc _ _))
      clear hK K
      try simp only [Act.put, setIfInBounds_toArray, set_cons_zero, set_cons_succ]
      refine wpAnyH_ready (rs := [7]) (by kernel_rfl) (by simp) ?_
      refine AllReadyH.cons (o := ⟨some 32, _, _, _, _, _⟩) rfl (fun K hK => ?_) AllReadyH.nil
      go_simp
      refine (HUL.out _ _ (by first | rfl | simp [G1.out])).mono ?_
      rintro e w4 ⟨f4, rfl, k4, b4⟩
      obtain ⟨fn4, cap4, rfl, _⟩ := id k4
      have k3 := CondOK.far k3 b4
      have HNOW := Lib.hid (bnextK HNOW.out b4)
      go_wp2_with fail
      refine hK.out _ _ ?_ (fun hHeld => ?_)
      · (try dsimp only); first | exact HSH.out _ HNOW.out | exact HSH.out _ (bnextK HNOW.out (below_alloc _ _))
      clear hK K
      try simp only [Act.put, setIfInBounds_toArray, set_cons_zero, set_cons_succ]
      refine wpAnyH_take (i := 10) (oi := ⟨some 35, _, _, _, _, _⟩) (v := ?_) rfl (by kernel_rfl) (by kernel_rfl) (by kernel_rfl) (fun _ _ _ h => h) (Or.inl ⟨by rfl, ?_⟩) (by assumption) ?_; rotate_left
      · intro w hSw; (try dsimp only at hSw); go_simp; try with_reducible rfl
      try simp only [Act.put, setIfInBounds_toArray, set_cons_zero, set_cons_succ]
      refine wpAnyH_take (i := 11) (oi := ⟨some 36, _, _, _, _, _⟩) (v := undef) rfl (by kernel_rfl) (by kernel_rfl) (by kernel_rfl) (fun _ _ _ h => h) (Or.inr ⟨by rfl, rfl⟩) (by assumption) ?_
      try simp only [Act.put, setIfInBounds_toArray, set_cons_zero, set_cons_succ]
      refine wpAnyH_take (i := 12) (oi := ⟨some 37, _, _, _, _, _⟩) (v := undef) rfl (by kernel_rfl) (by kernel_rfl) (by kernel_rfl) (fun _ _ _ h => h) (Or.inr ⟨by rfl, rfl⟩) (by assumption) ?_
      try simp only [Act.put, setIfInBounds_toArray, set_cons_zero, set_cons_succ]
      refine wpAnyH_take (i := 13) (oi := ⟨some 38, _, _, _, _, _⟩) (v := ?_) rfl (by kernel_rfl) (by kernel_rfl) (by kernel_rfl) (fun _ _ _ h => h) (Or.inl ⟨by rfl, ?_⟩) (by assumption) ?_; rotate_left
      · intro w hSw; (try dsimp only at hSw); go_simp; try with_reducible rfl
      try simp only [Act.put, setIfInBounds_toArray, set_cons_zero, set_cons_succ]
      refine wpAnyH_take (i := 14) (oi := ⟨some 39, _, _, _, _, _⟩) (v := ?_) rfl (by kernel_rfl) (by kernel_rfl) (by kernel_rfl) (fun _ _ _ h => h) (Or.inl ⟨by rfl, ?_⟩) (by assumption) ?_; rotate_left
      · intro w hSw; (try dsimp only at hSw); go_simp; try with_reducible rfl
      try simp only [Act.put, setIfInBounds_toArray, set_cons_zero, set_cons_succ]
      refine wpAnyH_take (i := 15) (oi := ⟨some 40, _, _, _, _, _⟩) (v := undef) rfl (by kernel_rfl) (by kernel_rfl) (by kernel_rfl) (fun _ _ _ h => h) (Or.inr ⟨by rfl, rfl⟩) (by assumption) ?_
      try simp only [Act.put, setIfInBounds_toArray, set_cons_zero, set_cons_succ]
      refine wpAnyH_take (i := 16) (oi := ⟨some 41, _, _, _, _, _⟩) (v := undef) rfl (by kernel_rfl) (by kernel_rfl) (by kernel_rfl) (fun _ _ _ h => h) (Or.inr ⟨by rfl, rfl⟩) (by assumption) ?_
      try simp only [Act.put, setIfInBounds_toArray, set_cons_zero, set_cons_succ]
      refine wpAnyH_take (i := 17) (oi := ⟨some 42, _, _, _, _, _⟩) (v := ?_) rfl (by kernel_rfl) (by kernel_rfl) (by kernel_rfl) (fun _ _ _ h => h) (Or.inl ⟨by rfl, ?_⟩) (by assumption) ?_; rotate_left
      · intro w hSw; (try dsimp only at hSw); go_simp; try with_reducible rfl
      try simp only [Act.put, setIfInBounds_toArray, set_cons_zero, set_cons_succ]
      refine wpAnyH_take (i := 18) (oi := ⟨some 43, _, _, _, _, _⟩) (v := ?_) rfl (by kernel_rfl) (by kernel_rfl) (by kernel_rfl) (fun _ _ _ h => h) (Or.inl ⟨by rfl, ?_⟩) (by assumption) ?_; rotate_left
      · intro w hSw; (try dsimp only at hSw); go_simp; try with_reducible rfl
      try simp only [Act.put, setIfInBounds_toArray, set_cons_zero, set_cons_succ]
      refine wpAnyH_take (i := 19) (oi := ⟨some 44, _, _, _, _, _⟩) (v := undef) rfl (by kernel_rfl) (by kernel_rfl) (by kernel_rfl) (fun _ _ _ h => h) (Or.inr ⟨by rfl, rfl⟩) (by assumption) ?_
      try simp only [Act.put, setIfInBounds_toArray, set_cons_zero, set_cons_succ]
      refine wpAnyH_take (i := 20) (oi := ⟨some 45, _, _, _, _, _⟩) (v := undef) rfl (by kernel_rfl) (by kernel_rfl) (by kernel_rfl) (fun _ _ _ h => h) (Or.inr ⟨by rfl, rfl⟩) (by assumption) ?_
      try simp only [Act.put, setIfInBounds_toArray, set_cons_zero, set_cons_succ]
      refine wpAnyH_take (i := 21) (oi := ⟨some 46, _, _, _, _, _⟩) (v := ?_) rfl (by kernel_rfl) (by kernel_rfl) (by kernel_rfl) (fun _ _ _ h => h) (Or.inl ⟨by rfl, ?_⟩) (by assumption) ?_; rotate_left
      · intro w hSw; (try dsimp only at hSw); go_simp; try with_reducible rfl
      try simp only [Act.put, setIfInBounds_toArray, set_cons_zero, set_cons_succ]
      refine wpAnyH_take (i := 22) (oi := ⟨some 47, _, _, _, _, _⟩) (v := ?_) rfl (by kernel_rfl) (by kernel_rfl) (by kernel_rfl) (fun _ _ _ h => h) (Or.inl ⟨by rfl, ?_⟩) (by assumption) ?_; rotate_left
      · intro w hSw; (try dsimp only at hSw); go_simp; try with_reducible rfl
      try simp only [Act.put, setIfInBounds_toArray, set_cons_zero, set_cons_succ]
      refine wpAnyH_take (i := 23) (oi := ⟨some 48, _, _, _, _, _⟩) (v := undef) rfl (by kernel_rfl) (by kernel_rfl) (by kernel_rfl) (fun _ _ _ h => h) (Or.inr ⟨by rfl, rfl⟩) (by assumption) ?_
      try simp only [Act.put, setIfInBounds_toArray, set_cons_zero, set_cons_succ]
      refine wpAnyH_take (i := 24) (oi := ⟨some 49, _, _, _, _, _⟩) (v := undef) rfl (by kernel_rfl) (by kernel_rfl) (by kernel_rfl) (fun _ _ _ h => h) (Or.inr ⟨by rfl, rfl⟩) (by assumption) ?_
      try simp only [Act.put, setIfInBounds_toArray, set_cons_zero, set_cons_succ]
      refine wpAnyH_take (i := 25) (oi := ⟨some 50, _, _, _, _, _⟩) (v := undef) rfl (by kernel_rfl) (by kernel_rfl) (by kernel_rfl) (fun _ _ _ h => h) (Or.inr ⟨by rfl, rfl⟩) (by assumption) ?_
      try simp only [Act.put, setIfInBounds_toArray, set_cons_zero, set_cons_succ]
      refine wpAnyH_take (i := 26) (oi := ⟨some 51, _, _, _, _, _⟩) (v := ?_) rfl (by kernel_rfl) (by kernel_rfl) (by kernel_rfl) (fun _ _ _ h => h) (Or.inl ⟨by rfl, ?_⟩) (by assumption) ?_; rotate_left
      · intro w hSw; (try dsimp only at hSw); go_simp; try with_reducible rfl
      try simp only [Act.put, setIfInBounds_toArray, set_cons_zero, set_cons_succ]
      refine wpAnyH_ready (rs := [27]) (by kernel_rfl) (by simp) ?_
      refine AllReadyH.cons (o := ⟨some 52, _, _, _, _, _⟩) rfl (fun K hK => ?_) AllReadyH.nil
      go_simp
      refine (HUA.out _ _ (by first | (have := G1.out; simp; omega) | (simp; omega))).mono ?_
      rintro e w5 ⟨f5, rfl, k5, b5⟩
      obtain ⟨fn5, cap5, rfl, _⟩ := id k5
      have k3 := CondOK.far k3 b5
      have k4 := CondOK.far k4 b5
      have HNOW := Lib.hid (bnextK HNOW.out b5)
      go_wp2_with fail
      refine hK.out _ _ ?_ (fun hHeld => ?_)
      · (try dsimp only); first | exact HSH.out _ HNOW.out | exact HSH.out _ (bnextK HNOW.out (below_alloc _ _))
      clear hK K
      try simp only [Act.put, setIfInBounds_toArray, set_cons_zero, set_cons_succ]
      refine wpAnyH_ready (rs := [29]) (by kernel_rfl) (by simp) ?_
      refine AllReadyH.cons (o := ⟨some 54, _, _, _, _, _⟩) rfl (fun K hK => ?_) AllReadyH.nil
      go_simp
      refine hK.out _ _ ?_ (fun hHeld => ?_)
      · (try dsimp only); first | exact HSH.out _ HNOW.out | exact HSH.out _ (bnextK HNOW.out (below_alloc _ _))
      clear hK K
      try simp only [Act.put, setIfInBounds_toArray, set_cons_zero, set_cons_succ]
      refine wpAnyH_ready (rs := [30]) (by kernel_rfl) (by simp) ?_
      refine AllReadyH.cons (o := ⟨some 55, _, _, _, _, _⟩) rfl (fun K hK => ?_) AllReadyH.nil
      go_simp
      refine (HA.out _ _ _ _ _ HNOW.out k3 k4 k5 rfl).mono ?_
      rintro e w6 ⟨rfl, b6⟩
      have HNOW := Lib.hid (bnextK (bnextK HNOW.out (below_alloc _ _)) b6)
      go_wp2_with fail
      refine hK.out _ _ ?_ (fun hHeld => ?_)
      · (try dsimp only); first | exact HSH.out _ HNOW.out | exact HSH.out _ (bnextK HNOW.out (below_alloc _ _))
      clear hK K
      try simp only [Act.put, setIfInBounds_toArray, set_cons_zero, set_cons_succ]
      refine wpAnyH_take (i := 31) (oi := ⟨some 17, _, _, _, _, _⟩) (v := ?_) rfl (by kernel_rfl) (by kernel_rfl) (by kernel_rfl) (fun _ _ _ h => h) (Or.inl ⟨by rfl, ?_⟩) (by assumption) ?_; rotate_left
      · intro w hSw; (try dsimp only at hSw); go_simp; try with_reducible rfl
      try simp only [Act.put, setIfInBounds_toArray, set_cons_zero, set_cons_succ]
      refine wpAnyH_done (by kernel_rfl) ?_ _
      go_wp2_with fail
      go_meet
      exact ⟨rfl, HNOW.out⟩
    · have hb1 : ((n : Int) == 0) = false := by simp; omega
      by_cases g2 : k < 1
      · have hb2 : decide (k < 1) = true := by simp; omega
        refine wp_region_held_drew (S := (fun W => SdBox w.heap.size N (.slice A' m c') need n W)) (by kernel_rfl) ?_ (fun hHeld => ?_)
        · (try dsimp only); first | exact HSH.out _ HNOW.out | exact HSH.out _ (bnextK HNOW.out (below_alloc _ _))
        refine wpAnyH_take (i := 0) (oi := ⟨some 25, _, _, _, _, _⟩) (v := ?_) rfl (by kernel_rfl) (by kernel_rfl) (by kernel_rfl) (fun _ _ _ h => h) (Or.inl ⟨by rfl, ?_⟩) (by assumption) ?_; rotate_left
        · intro w hSw; (try dsimp only at hSw); go_simp; try with_reducible rfl
        try simp only [Act.put, setIfInBounds_toArray, set_cons_zero, set_cons_succ]
        refine wpAnyH_take (i := 1) (oi := ⟨some 26, _, _, _, _, _⟩) (v := ?_) rfl (by kernel_rfl) (by kernel_rfl) (by kernel_rfl) (fun _ _ _ h => h) (Or.inl ⟨by rfl, ?_⟩) (by assumption) ?_; rotate_left
        · intro w hSw; (try dsimp only at hSw); go_simp; try with_reducible rfl
        try simp only [Act.put, setIfInBounds_toArray, set_cons_zero, set_cons_succ]
        refine wpAnyH_take (i := 2) (oi := ⟨some 27, _, _, _, _, _⟩) (v := ?_) rfl (by kernel_rfl) (by kernel_rfl) (by kernel_rfl) (fun _ _ _ h => h) (Or.inl ⟨by rfl, ?_⟩) (by assumption) ?_; rotate_left
        · intro w hSw; (try dsimp only at hSw); go_simp; try with_reducible rfl
        try simp only [Act.put, setIfInBounds_toArray, set_cons_zero, set_cons_succ]
        refine wpAnyH_take (i := 3) (oi := ⟨some 28, _, _, _, _, _⟩) (v := ?_) rfl (by kernel_rfl) (by kernel_rfl) (by kernel_rfl) (fun _ _ _ h => h) (Or.inl ⟨by rfl, ?_⟩) (by assumption) ?_; rotate_left
        · intro w hSw; (try dsimp only at hSw); go_simp; try with_reducible rfl
        try simp only [Act.put, setIfInBounds_toArray, set_cons_zero, set_cons_succ]
        refine wpAnyH_take (i := 5) (oi := ⟨some 30, _, _, _, _, _⟩) (v := ?_) rfl (by kernel_rfl) (by kernel_rfl) (by kernel_rfl) (fun _ _ _ h => h) (Or.inl ⟨by rfl, ?_⟩) (by assumption) ?_; rotate_left
        · intro w hSw; (try dsimp only at hSw); go_simp; try with_reducible rfl
        try simp only [Act.put, setIfInBounds_toArray, set_cons_zero, set_cons_succ]
        refine wpAnyH_take (i := 6) (oi := ⟨some 31, _, _, _, _, _⟩) (v := ?_) rfl (by kernel_rfl) (by kernel_rfl) (by kernel_rfl) (fun _ _ _ h => h) (Or.inl ⟨by rfl, ?_⟩) (by assumption) ?_; rotate_left
        · intro w hSw; (try dsimp only at hSw); go_simp; try with_reducible rfl
        try simp only [Act.put, setIfInBounds_toArray, set_cons_zero, set_cons_succ]
        refine wpAnyH_take (i := 8) (oi := ⟨some 33, _, _, _, _, _⟩) (v := ?_) rfl (by kernel_rfl) (by kernel_rfl) (by kernel_rfl) (fun _ _ _ h => h) (Or.inl ⟨by rfl, ?_⟩) (by assumption) ?_; rotate_left
        · intro w hSw; (try dsimp only at hSw); go_simp; try with_reducible rfl
        try simp only [Act.put, setIfInBounds_toArray, set_cons_zero, set_cons_succ]
        refine wpAnyH_take (i := 9) (oi := ⟨some 34, _, _, _, _, _⟩) (v := ?_) rfl (by kernel_rfl) (by kernel_rfl) (by kernel_rfl) (fun _ _ _ h => h) (Or.inl ⟨by rfl, ?_⟩) (by assumption) ?_; rotate_left
        · intro w hSw; (try dsimp only at hSw); go_simp; try with_reducible rfl
        try simp only [Act.put, setIfInBounds_toArray, set_cons_zero, set_cons_succ]
        refine wpAnyH_take (i := 28) (oi := ⟨some 53, _, _, _, _, _⟩) (v := ?_) rfl (by kernel_rfl) (by kernel_rfl) (by kernel_rfl) (fun _ _ _ h => h) (Or.inl ⟨by rfl, ?_⟩) (by assumption) ?_; rotate_left
        · intro w hSw; (try dsimp only at hSw); go_simp; try with_reducible rfl
        try simp only [Act.put, setIfInBounds_toArray, set_cons_zero, set_cons_succ]
        refine wpAnyH_ready (rs := [4]) (by kernel_rfl) (by simp) ?_
        refine AllReadyH.cons (o := ⟨some 29, _, _, _, _, _⟩) rfl (fun K hK => ?_) AllReadyH.nil
        go_simp
        refine (HE.out _ HNOW.out).mono ?_
        rintro e w3 ⟨f3, rfl, k3, b3⟩
        obtain ⟨fn3, cap3, rfl, _⟩ := id k3
        have HNOW := Lib.hid (bnextK HNOW.out b3)
        go_wp2_with fail
        refine hK.out _ _ ?_ (fun hHeld => ?_)
        · (try dsimp only); first | exact HSH.out _ HNOW.out | exact HSH.out _ (bnextK HNOW.out (below_alloc _ _))
        clear hK K
        try simp only [Act.put, setIfInBounds_toArray, set_cons_zero, set_cons_succ]
        refine wpAnyH_ready (rs := [7]) (by kernel_rfl) (by simp) ?_
        refine AllReadyH.cons (o := ⟨some 32, _, _, _, _, _⟩) rfl (fun K hK => ?_) AllReadyH.nil
        go_simp
        refine (HUL.out _ _ (by first | rfl | simp [G1.out])).mono ?_
        rintro e w4 ⟨f4, rfl, k4, b4⟩
        obtain ⟨fn4, cap4, rfl, _⟩ := id k4
        have k3 := CondOK.far k3 b4
        have HNOW := Lib.hid (bnextK HNOW.out b4)
        go_wp2_with fail
        refine hK.out _ _ ?_ (fun hHeld => ?_)
        · (try dsimp only); first | exact HSH.out _ HNOW.out | exact HSH.out _ (bnextK HNOW.out (below_alloc _ _))
        clear hK K
        try simp only [Act.put, setIfInBounds_toArray, set_cons_zero, set_cons_succ]
        refine wpAnyH_take (i := 10) (oi := ⟨some 35, _, _, _, _, _⟩) (v := ?_) rfl (by kernel_rfl) (by kernel_rfl) (by kernel_rfl) (fun _ _ _ h => h) (Or.inl ⟨by rfl, ?_⟩) (by assumption) ?_; rotate_left
        · intro w hSw; (try dsimp only at hSw); go_simp; try with_reducible rfl
        try simp only [Act.put, setIfInBounds_toArray, set_cons_zero, set_cons_succ]
        refine wpAnyH_take (i := 11) (oi := ⟨some 36, _, _, _, _, _⟩) (v := ?_) rfl (by kernel_rfl) (by kernel_rfl) (by kernel_rfl) (fun _ _ _ h => h) (Or.inl ⟨by rfl, ?_⟩) (by assumption) ?_; rotate_left
        · intro w hSw; (try dsimp only at hSw); go_simp; try with_reducible rfl
        try simp only [Act.put, setIfInBounds_toArray, set_cons_zero, set_cons_succ]
        refine wpAnyH_take (i := 12) (oi := ⟨some 37, _, _, _, _, _⟩) (v := ?_) rfl (by kernel_rfl) (by kernel_rfl) (by kernel_rfl) (fun _ _ _ h => h) (Or.inl ⟨by rfl, ?_⟩) (by assumption) ?_; rotate_left
        · intro w hSw; (try dsimp only at hSw); go_simp; try with_reducible rfl
        try simp only [Act.put, setIfInBounds_toArray, set_cons_zero, set_cons_succ]
        refine wpAnyH_take (i := 13) (oi := ⟨some 38, _, _, _, _, _⟩) (v := ?_) rfl (by kernel_rfl) (by kernel_rfl) (by kernel_rfl) (fun _ _ _ h => h) (Or.inl ⟨by rfl, ?_⟩) (by assumption) ?_; rotate_left
        · intro w hSw; (try dsimp only at hSw); go_simp; try with_reducible rfl
        try simp only [Act.put, setIfInBounds_toArray, set_cons_zero, set_cons_succ]
        refine wpAnyH_take (i := 14) (oi := ⟨some 39, _, _, _, _, _⟩) (v := ?_) rfl (by kernel_rfl) (by kernel_rfl) (by kernel_rfl) (fun _ _ _ h => h) (Or.inl ⟨by rfl, ?_⟩) (by assumption) ?_; rotate_left
        · intro w hSw; (try dsimp only at hSw); go_simp; try with_reducible rfl
        try simp only [Act.put, setIfInBounds_toArray, set_cons_zero, set_cons_succ]
        refine wpAnyH_take (i := 15) (oi := ⟨some 40, _, _, _, _, _⟩) (v := undef) rfl (by kernel_rfl) (by kernel_rfl) (by kernel_rfl) (fun _ _ _ h => h) (Or.inr ⟨by rfl, rfl⟩) (by assumption) ?_
        try simp only [Act.put, setIfInBounds_toArray, set_cons_zero, set_cons_succ]
        refine wpAnyH_take (i := 16) (oi := ⟨some 41, _, _, _, _, _⟩) (v := undef) rfl (by kernel_rfl) (by kernel_rfl) (by kernel_rfl) (fun _ _ _ h => h) (Or.inr ⟨by rfl, rfl⟩) (by assumption) ?_
        try simp only [Act.put, setIfInBounds_toArray, set_cons_zero, set_cons_succ]
        refine wpAnyH_take (i := 17) (oi := ⟨some 42, _, _, _, _, _⟩) (v := ?_) rfl (by kernel_rfl) (by kernel_rfl) (by kernel_rfl) (fun _ _ _ h => h) (Or.inl ⟨by rfl, ?_⟩) (by assumption) ?_; rotate_left
        · intro w hSw; (try dsimp only at hSw); go_simp; try with_reducible rfl
        try simp only [Act.put, setIfInBounds_toArray, set_cons_zero, set_cons_succ]
        refine wpAnyH_take (i := 18) (oi := ⟨some 43, _, _, _, _, _⟩) (v := ?_) rfl (by kernel_rfl) (by kernel_rfl) (by kernel_rfl) (fun _ _ _ h => h) (Or.inl ⟨by rfl, ?_⟩) (by assumption) ?_; rotate_left
        · intro w hSw; (try dsimp only at hSw); go_simp; try with_reducible rfl
        try simp only [Act.put, setIfInBounds_toArray, set_cons_zero, set_cons_succ]
        refine wpAnyH_take (i := 19) (oi := ⟨some 44, _, _, _, _, _⟩) (v := undef) rfl (by kernel_rfl) (by kernel_rfl) (by kernel_rfl) (fun _ _ _ h => h) (Or.inr ⟨by rfl, rfl⟩) (by assumption) ?_
        try simp only [Act.put, setIfInBounds_toArray, set_cons_zero, set_cons_succ]
        refine wpAnyH_take (i := 20) (oi := ⟨some 45, _, _, _, _, _⟩) (v := undef) rfl (by kernel_rfl) (by kernel_rfl) (by kernel_rfl) (fun _ _ _ h => h) (Or.inr ⟨by rfl, rfl⟩) (by assumption) ?_
        try simp only [Act.put, setIfInBounds_toArray, set_cons_zero, set_cons_succ]
        refine wpAnyH_take (i := 21) (oi := ⟨some 46, _, _, _, _, _⟩) (v := ?_) rfl (by kernel_rfl) (by kernel_rfl) (by kernel_rfl) (fun _ _ _ h => h) (Or.inl ⟨by rfl, ?_⟩) (by assumption) ?_; rotate_left
        · intro w hSw; (try dsimp only at hSw); go_simp; try with_reducible rfl
        try simp only [Act.put, setIfInBounds_toArray, set_cons_zero, set_cons_succ]
        refine wpAnyH_take (i := 22) (oi := ⟨some 47, _, _, _, _, _⟩) (v := ?_) rfl (by kernel_rfl) (by kernel_rfl) (by kernel_rfl) (fun _ _ _ h => h) (Or.inl ⟨by rfl, ?_⟩) (by assumption) ?_; rotate_left
        · intro w hSw; (try dsimp only at hSw); go_simp; try with_reducible rfl
        try simp only [Act.put, setIfInBounds_toArray, set_cons_zero, set_cons_succ]
        refine wpAnyH_take (i := 23) (oi := ⟨some 48, _, _, _, _, _⟩) (v := undef) rfl (by kernel_rfl) (by kernel_rfl) (by kernel_rfl) (fun _ _ _ h => h) (Or.inr ⟨by rfl, rfl⟩) (by assumption) ?_
        try simp only [Act.put, setIfInBounds_toArray, set_cons_zero, set_cons_succ]
        refine wpAnyH_take (i := 24) (oi := ⟨some 49, _, _, _, _, _⟩) (v := undef) rfl (by kernel_rfl) (by kernel_rfl) (by kernel_rfl) (fun _ _ _ h => h) (Or.inr ⟨by rfl, rfl⟩) (by assumption) ?_
        try simp only [Act.put, setIfInBounds_toArray, set_cons_zero, set_cons_succ]
        refine wpAnyH_take (i := 25) (oi := ⟨some 50, _, _, _, _, _⟩) (v := undef) rfl (by kernel_rfl) (by kernel_rfl) (by kernel_rfl) (fun _ _ _ h => h) (Or.inr ⟨by rfl, rfl⟩) (by assumption) ?_
        try simp only [Act.put, setIfInBounds_toArray, set_cons_zero, set_cons_succ]
        refine wpAnyH_take (i := 26) (oi := ⟨some 51, _, _, _, _, _⟩) (v := ?_) rfl (by kernel_rfl) (by kernel_rfl) (by kernel_rfl) (fun _ _ _ h => h) (Or.inl ⟨by rfl, ?_⟩) (by assumption) ?_; rotate_left
        · intro w hSw; (try dsimp only at hSw); go_simp; try with_reducible rfl
        try simp only [Act.put, setIfInBounds_toArray, set_cons_zero, set_cons_succ]
        refine wpAnyH_ready (rs := [27]) (by kernel_rfl) (by simp) ?_
        refine AllReadyH.cons (o := ⟨some 52, _, _, _, _, _⟩) rfl (fun K hK => ?_) AllReadyH.nil
        go_simp
        refine (HUA.out _ _ (by first | (have := G1.out; simp; omega) | (simp; omega))).mono ?_
        rintro e w5 ⟨f5, rfl, k5, b5⟩
        obtain ⟨fn5, cap5, rfl, _⟩ := id k5
        have k3 := CondOK.far k3 b5
        have k4 := CondOK.far k4 b5
        have HNOW := Lib.hid (bnextK HNOW.out b5)
        go_wp2_with fail
        refine hK.out _ _ ?_ (fun hHeld => ?_)
        · (try dsimp only); first | exact HSH.out _ HNOW.out | exact HSH.out _ (bnextK HNOW.out (below_alloc _ _))
        clear hK K
        try simp only [Act.put, setIfInBounds_toArray, set_cons_zero, set_cons_succ]
        refine wpAnyH_ready (rs := [29]) (by kernel_rfl) (by simp) ?_
        refine AllReadyH.cons (o := ⟨some 54, _, _, _, _, _⟩) rfl (fun K hK => ?_) AllReadyH.nil
        go_simp
        refine hK.out _ _ ?_ (fun hHeld => ?_)
        · (try dsimp only); first | exact HSH.out _ HNOW.out | exact HSH.out _ (bnextK HNOW.out (below_alloc _ _))
        clear hK K
        try simp only [Act.put, setIfInBounds_toArray, set_cons_zero, set_cons_succ]
        refine wpAnyH_ready (rs := [30]) (by kernel_rfl) (by simp) ?_
        refine AllReadyH.cons (o := ⟨some 55, _, _, _, _, _⟩) rfl (fun K hK => ?_) AllReadyH.nil
        go_simp
        refine (HA.out _ _ _ _ _ HNOW.out k3 k4 k5 rfl).mono ?_
        rintro e w6 ⟨rfl, b6⟩
        have HNOW := Lib.hid (bnextK (bnextK HNOW.out (below_alloc _ _)) b6)
        go_wp2_with fail
        refine hK.out _ _ ?_ (fun hHeld => ?_)
        · (try dsimp only); first | exact HSH.out _ HNOW.out | exact HSH.out _ (bnextK HNOW.out (below_alloc _ _))
        clear hK K
        try simp only [Act.put, setIfInBounds_toArray, set_cons_zero, set_cons_succ]
        refine wpAnyH_take (i := 31) (oi := ⟨some 17, _, _, _, _, _⟩) (v := ?_) rfl (by kernel_rfl) (by kernel_rfl) (by kernel_rfl) (fun _ _ _ h => h) (Or.inl ⟨by rfl, ?_⟩) (by assumption) ?_; rotate_left
        · intro w hSw; (try dsimp only at hSw); go_simp; try with_reducible rfl
        try simp only [Act.put, setIfInBounds_toArray, set_cons_zero, set_cons_succ]
        refine wpAnyH_done (by kernel_rfl) ?_ _
        go_wp2_with fail
        go_meet
        exact ⟨rfl, HNOW.out⟩
      · have hb2 : decide (k < 1) = false := by simp; omega
        by_cases g3 : 4 < k
        · have hb3 : decide (4 < k) = true := by simp; omega
          refine wp_region_held_drew (S := (fun W => SdBox w.heap.size N (.slice A' m c') need n W)) (by kernel_rfl) ?_ (fun hHeld => ?_)
          · (try dsimp only); first | exact HSH.out _ HNOW.out | exact HSH.out _ (bnextK HNOW.out (below_alloc _ _))
          refine wpAnyH_take (i := 0) (oi := ⟨some 25, _, _, _, _, _⟩) (v := ?_) rfl (by kernel_rfl) (by kernel_rfl) (by kernel_rfl) (fun _ _ _ h => h) (Or.inl ⟨by rfl, ?_⟩) (by assumption) ?_; rotate_left
          · intro w hSw; (try dsimp only at hSw); go_simp; try with_reducible rfl
          try simp only [Act.put, setIfInBounds_toArray, set_cons_zero, set_cons_succ]
          refine wpAnyH_take (i := 1) (oi := ⟨some 26, _, _, _, _, _⟩) (v := ?_) rfl (by kernel_rfl) (by kernel_rfl) (by kernel_rfl) (fun _ _ _ h => h) (Or.inl ⟨by rfl, ?_⟩) (by assumption) ?_; rotate_left
          · intro w hSw; (try dsimp only at hSw); go_simp; try with_reducible rfl
          try simp only [Act.put, setIfInBounds_toArray, set_cons_zero, set_cons_succ]
          refine wpAnyH_take (i := 2) (oi := ⟨some 27, _, _, _, _, _⟩) (v := ?_) rfl (by kernel_rfl) (by kernel_rfl) (by kernel_rfl) (fun _ _ _ h => h) (Or.inl ⟨by rfl, ?_⟩) (by assumption) ?_; rotate_left
          · intro w hSw; (try dsimp only at hSw); go_simp; try with_reducible rfl
          try simp only [Act.put, setIfInBounds_toArray, set_cons_zero, set_cons_succ]
          refine wpAnyH_take (i := 3) (oi := ⟨some 28, _, _, _, _, _⟩) (v := ?_) rfl (by kernel_rfl) (by kernel_rfl) (by kernel_rfl) (fun _ _ _ h => h) (Or.inl ⟨by rfl, ?_⟩) (by assumption) ?_; rotate_left
          · intro w hSw; (try dsimp only at hSw); go_simp; try with_reducible rfl
          try simp only [Act.put, setIfInBounds_toArray, set_cons_zero, set_cons_succ]
          refine wpAnyH_take (i := 5) (oi := ⟨some 30, _, _, _, _, _⟩) (v := ?_) rfl (by kernel_rfl) (by kernel_rfl) (by kernel_rfl) (fun _ _ _ h => h) (Or.inl ⟨by rfl, ?_⟩) (by assumption) ?_; rotate_left
          · intro w hSw; (try dsimp only at hSw); go_simp; try with_reducible rfl
          try simp only [Act.put, setIfInBounds_toArray, set_cons_zero, set_cons_succ]
          refine wpAnyH_take (i := 6) (oi := ⟨some 31, _, _, _, _, _⟩) (v := ?_) rfl (by kernel_rfl) (by kernel_rfl) (by kernel_rfl) (fun _ _ _ h => h) (Or.inl ⟨by rfl, ?_⟩) (by assumption) ?_; rotate_left
          · intro w hSw; (try dsimp only at hSw); go_simp; try with_reducible rfl
          try simp only [Act.put, setIfInBounds_toArray, set_cons_zero, set_cons_succ]
          refine wpAnyH_take (i := 8) (oi := ⟨some 33, _, _, _, _, _⟩) (v := ?_) rfl (by kernel_rfl) (by kernel_rfl) (by kernel_rfl) (fun _ _ _ h => h) (Or.inl ⟨by rfl, ?_⟩) (by assumption) ?_; rotate_left
          · intro w hSw; (try dsimp only at hSw); go_simp; try with_reducible rfl
          try simp only [Act.put, setIfInBounds_toArray, set_cons_zero, set_cons_succ]
          refine wpAnyH_take (i := 9) (oi := ⟨some 34, _, _, _, _, _⟩) (v := ?_) rfl (by kernel_rfl) (by kernel_rfl) (by kernel_rfl) (fun _ _ _ h => h) (Or.inl ⟨by rfl, ?_⟩) (by assumption) ?_; rotate_left
          · intro w hSw; (try dsimp only at hSw); go_simp; try with_reducible rfl
          try simp only [Act.put, setIfInBounds_toArray, set_cons_zero, set_cons_succ]
          refine wpAnyH_take (i := 28) (oi := ⟨some 53, _, _, _, _, _⟩) (v := ?_) rfl (by kernel_rfl) (by kernel_rfl) (by kernel_rfl) (fun _ _ _ h => h) (Or.inl ⟨by rfl, ?_⟩) (by assumption) ?_; rotate_left
          · intro w hSw; (try dsimp only at hSw); go_simp; try with_reducible rfl
          try simp only [Act.put, setIfInBounds_toArray, set_cons_zero, set_cons_succ]
          refine wpAnyH_ready (rs := [4]) (by kernel_rfl) (by simp) ?_
          refine AllReadyH.cons (o := ⟨some 29, _, _, _, _, _⟩) rfl (fun K hK => ?_) AllReadyH.nil
          go_simp
          refine (HE.out _ HNOW.out).mono ?_
          rintro e w3 ⟨f3, rfl, k3, b3⟩
          obtain ⟨fn3, cap3, rfl, _⟩ := id k3
          have HNOW := Lib.hid (bnextK HNOW.out b3)
          go_wp2_with fail
          refine hK.out _ _ ?_ (fun hHeld => ?_)
          · (try dsimp only); first | exact HSH.out _ HNOW.out | exact HSH.out _ (bnextK HNOW.out (below_alloc _ _))
          clear hK K
          try simp only [Act.put, setIfInBounds_toArray, set_cons_zero, set_cons_succ]
          refine wpAnyH_ready (rs := [7]) (by kernel_rfl) (by simp) ?_
          refine AllReadyH.cons (o := ⟨some 32, _, _, _, _, _⟩) rfl (fun K hK => ?_) AllReadyH.nil
          go_simp
          refine (HUL.out _ _ (by first | rfl | simp [G1.out])).mono ?_
          rintro e w4 ⟨f4, rfl, k4, b4⟩
          obtain ⟨fn4, cap4, rfl, _⟩ := id k4
          have k3 := CondOK.far k3 b4
          have HNOW := Lib.hid (bnextK HNOW.out b4)
          go_wp2_with fail
          refine hK.out _ _ ?_ (fun hHeld => ?_)
          · (try dsimp only); first | exact HSH.out _ HNOW.out | exact HSH.out _ (bnextK HNOW.out (below_alloc _ _))
          clear hK K
          try simp only [Act.put, setIfInBounds_toArray, set_cons_zero, set_cons_succ]
          refine wpAnyH_take (i := 10) (oi := ⟨some 35, _, _, _, _, _⟩) (v := ?_) rfl (by kernel_rfl) (by kernel_rfl) (by kernel_rfl) (fun _ _ _ h => h) (Or.inl ⟨by rfl, ?_⟩) (by assumption) ?_; rotate_left
          · intro w hSw; (try dsimp only at hSw); go_simp; try with_reducible rfl
          try simp only [Act.put, setIfInBounds_toArray, set_cons_zero, set_cons_succ]
          refine wpAnyH_take (i := 11) (oi := ⟨some 36, _, _, _, _, _⟩) (v := ?_) rfl (by kernel_rfl) (by kernel_rfl) (by kernel_rfl) (fun _ _ _ h => h) (Or.inl ⟨by rfl, ?_⟩) (by assumption) ?_; rotate_left
          · intro w hSw; (try dsimp only at hSw); go_simp; try with_reducible rfl
          try simp only [Act.put, setIfInBounds_toArray, set_cons_zero, set_cons_succ]
          refine wpAnyH_take (i := 12) (oi := ⟨some 37, _, _, _, _, _⟩) (v := ?_) rfl (by kernel_rfl) (by kernel_rfl) (by kernel_rfl) (fun _ _ _ h => h) (Or.inl ⟨by rfl, ?_⟩) (by assumption) ?_; rotate_left
          · intro w hSw; (try dsimp only at hSw); go_simp; try with_reducible rfl
          try simp only [Act.put, setIfInBounds_toArray, set_cons_zero, set_cons_succ]
          refine wpAnyH_take (i := 13) (oi := ⟨some 38, _, _, _, _, _⟩) (v := ?_) rfl (by kernel_rfl) (by kernel_rfl) (by kernel_rfl) (fun _ _ _ h => h) (Or.inl ⟨by rfl, ?_⟩) (by assumption) ?_; rotate_left
          · intro w hSw; (try dsimp only at hSw); go_simp; try with_reducible rfl
          try simp only [Act.put, setIfInBounds_toArray, set_cons_zero, set_cons_succ]
          refine wpAnyH_take (i := 14) (oi := ⟨some 39, _, _, _, _, _⟩) (v := ?_) rfl (by kernel_rfl) (by kernel_rfl) (by kernel_rfl) (fun _ _ _ h => h) (Or.inl ⟨by rfl, ?_⟩) (by assumption) ?_; rotate_left
          · intro w hSw; (try dsimp only at hSw); go_simp; try with_reducible rfl
          try simp only [Act.put, setIfInBounds_toArray, set_cons_zero, set_cons_succ]
          refine wpAnyH_take (i := 15) (oi := ⟨some 40, _, _, _, _, _⟩) (v := ?_) rfl (by kernel_rfl) (by kernel_rfl) (by kernel_rfl) (fun _ _ _ h => h) (Or.inl ⟨by rfl, ?_⟩) (by assumption) ?_; rotate_left
          · intro w hSw; (try dsimp only at hSw); go_simp; try with_reducible rfl
          try simp only [Act.put, setIfInBounds_toArray, set_cons_zero, set_cons_succ]
          refine wpAnyH_take (i := 16) (oi := ⟨some 41, _, _, _, _, _⟩) (v := ?_) rfl (by kernel_rfl) (by kernel_rfl) (by kernel_rfl) (fun _ _ _ h => h) (Or.inl ⟨by rfl, ?_⟩) (by assumption) ?_; rotate_left
          · intro w hSw; (try dsimp only at hSw); go_simp; try with_reducible rfl
          try simp only [Act.put, setIfInBounds_toArray, set_cons_zero, set_cons_succ]
          refine wpAnyH_take (i := 17) (oi := ⟨some 42, _, _, _, _, _⟩) (v := ?_) rfl (by kernel_rfl) (by kernel_rfl) (by kernel_rfl) (fun _ _ _ h => h) (Or.inl ⟨by rfl, ?_⟩) (by assumption) ?_; rotate_left
          · intro w hSw; (try dsimp only at hSw); go_simp; try with_reducible rfl
          try simp only [Act.put, setIfInBounds_toArray, set_cons_zero, set_cons_succ]
          refine wpAnyH_take (i := 18) (oi := ⟨some 43, _, _, _, _, _⟩) (v := ?_) rfl (by kernel_rfl) (by kernel_rfl) (by kernel_rfl) (fun _ _ _ h => h) (Or.inl ⟨by rfl, ?_⟩) (by assumption) ?_; rotate_left
          · intro w hSw; (try dsimp only at hSw); go_simp; try with_reducible rfl
          try simp only [Act.put, setIfInBounds_toArray, set_cons_zero, set_cons_succ]
          refine wpAnyH_take (i := 19) (oi := ⟨some 44, _, _, _, _, _⟩) (v := undef) rfl (by kernel_rfl) (by kernel_rfl) (by kernel_rfl) (fun _ _ _ h => h) (Or.inr ⟨by rfl, rfl⟩) (by assumption) ?_
          try simp only [Act.put, setIfInBounds_toArray, set_cons_zero, set_cons_succ]
          refine wpAnyH_take (i := 20) (oi := ⟨some 45, _, _, _, _, _⟩) (v := undef) rfl (by kernel_rfl) (by kernel_rfl) (by kernel_rfl) (fun _ _ _ h => h) (Or.inr ⟨by rfl, rfl⟩) (by assumption) ?_
          try simp only [Act.put, setIfInBounds_toArray, set_cons_zero, set_cons_succ]
          refine wpAnyH_take (i := 21) (oi := ⟨some 46, _, _, _, _, _⟩) (v := ?_) rfl (by kernel_rfl) (by kernel_rfl) (by kernel_rfl) (fun _ _ _ h => h) (Or.inl ⟨by rfl, ?_⟩) (by assumption) ?_; rotate_left
          · intro w hSw; (try dsimp only at hSw); go_simp; try with_reducible rfl
          try simp only [Act.put, setIfInBounds_toArray, set_cons_zero, set_cons_succ]
          refine wpAnyH_take (i := 22) (oi := ⟨some 47, _, _, _, _, _⟩) (v := ?_) rfl (by kernel_rfl) (by kernel_rfl) (by kernel_rfl) (fun _ _ _ h => h) (Or.inl ⟨by rfl, ?_⟩) (by assumption) ?_; rotate_left
          · intro w hSw; (try dsimp only at hSw); go_simp; try with_reducible rfl
          try simp only [Act.put, setIfInBounds_toArray, set_cons_zero, set_cons_succ]
          refine wpAnyH_take (i := 23) (oi := ⟨some 48, _, _, _, _, _⟩) (v := undef) rfl (by kernel_rfl) (by kernel_rfl) (by kernel_rfl) (fun _ _ _ h => h) (Or.inr ⟨by rfl, rfl⟩) (by assumption) ?_
          try simp only [Act.put, setIfInBounds_toArray, set_cons_zero, set_cons_succ]
          refine wpAnyH_take (i := 24) (oi := ⟨some 49, _, _, _, _, _⟩) (v := undef) rfl (by kernel_rfl) (by kernel_rfl) (by kernel_rfl) (fun _ _ _ h => h) (Or.inr ⟨by rfl, rfl⟩) (by assumption) ?_
          try simp only [Act.put, setIfInBounds_toArray, set_cons_zero, set_cons_succ]
          refine wpAnyH_take (i := 25) (oi := ⟨some 50, _, _, _, _, _⟩) (v := undef) rfl (by kernel_rfl) (by kernel_rfl) (by kernel_rfl) (fun _ _ _ h => h) (Or.inr ⟨by rfl, rfl⟩) (by assumption) ?_
          try simp only [Act.put, setIfInBounds_toArray, set_cons_zero, set_cons_succ]
          refine wpAnyH_take (i := 26) (oi := ⟨some 51, _, _, _, _, _⟩) (v := ?_) rfl (by kernel_rfl) (by kernel_rfl) (by kernel_rfl) (fun _ _ _ h => h) (Or.inl ⟨by rfl, ?_⟩) (by assumption) ?_; rotate_left
          · intro w hSw; (try dsimp only at hSw); go_simp; try with_reducible rfl
          try simp only [Act.put, setIfInBounds_toArray, set_cons_zero, set_cons_succ]
          refine wpAnyH_ready (rs := [27]) (by kernel_rfl) (by simp) ?_
          refine AllReadyH.cons (o := ⟨some 52, _, _, _, _, _⟩) rfl (fun K hK => ?_) AllReadyH.nil
          go_simp
          refine (HUA.out _ _ (by first | (have := G1.out; simp; omega) | (simp; omega))).mono ?_
          rintro e w5 ⟨f5, rfl, k5, b5⟩
          obtain ⟨fn5, cap5, rfl, _⟩ := id k5
          have k3 := CondOK.far k3 b5
          have k4 := CondOK.far k4 b5
          have HNOW := Lib.hid (bnextK HNOW.out b5)
          go_wp2_with fail
          refine hK.out _ _ ?_ (fun hHeld => ?_)
          · (try dsimp only); first | exact HSH.out _ HNOW.out | exact HSH.out _ (bnextK HNOW.out (below_alloc _ _))
          clear hK K
          try simp only [Act.put, setIfInBounds_toArray, set_cons_zero, set_cons_succ]
          refine wpAnyH_ready (rs := [29]) (by kernel_rfl) (by simp) ?_
          refine AllReadyH.cons (o := ⟨some 54, _, _, _, _, _⟩) rfl (fun K hK => ?_) AllReadyH.nil
          go_simp
          refine hK.out _ _ ?_ (fun hHeld => ?_)
          · (try dsimp only); first | exact HSH.out _ HNOW.out | exact HSH.out _ (bnextK HNOW.out (below_alloc _ _))
          clear hK K
          try simp only [Act.put, setIfInBounds_toArray, set_cons_zero, set_cons_succ]
          refine wpAnyH_ready (rs := [30]) (by kernel_rfl) (by simp) ?_
          refine AllReadyH.cons (o := ⟨some 55, _, _, _, _, _⟩) rfl (fun K hK => ?_) AllReadyH.nil
          go_simp
          refine (HA.out _ _ _ _ _ HNOW.out k3 k4 k5 rfl).mono ?_
          rintro e w6 ⟨rfl, b6⟩
          have HNOW := Lib.hid (bnextK (bnextK HNOW.out (below_alloc _ _)) b6)
          go_wp2_with fail
          refine hK.out _ _ ?_ (fun hHeld => ?_)
          · (try dsimp only); first | exact HSH.out _ HNOW.out | exact HSH.out _ (bnextK HNOW.out (below_alloc _ _))
          clear hK K
          try simp only [Act.put, setIfInBounds_toArray, set_cons_zero, set_cons_succ]
          refine wpAnyH_take (i := 31) (oi := ⟨some 17, _, _, _, _, _⟩) (v := ?_) rfl (by kernel_rfl) (by kernel_rfl) (by kernel_rfl) (fun _ _ _ h => h) (Or.inl ⟨by rfl, ?_⟩) (by assumption) ?_; rotate_left
          · intro w hSw; (try dsimp only at hSw); go_simp; try with_reducible rfl
          try simp only [Act.put, setIfInBounds_toArray, set_cons_zero, set_cons_succ]
          refine wpAnyH_done (by kernel_rfl) ?_ _
          go_wp2_with fail
          go_meet
          exact ⟨rfl, HNOW.out⟩
        · have hb3 : decide (4 < k) = false := by simp; omega
          by_cases g4 : need < 1
          · have hb4 : decide (need < 1) = true := by simp; omega
            refine wp_region_held_drew (S := (fun W => SdBox w.heap.size N (.slice A' m c') need n W)) (by kernel_rfl) ?_ (fun hHeld => ?_)
            · (try dsimp only); first | exact HSH.out _ HNOW.out | exact HSH.out _ (bnextK HNOW.out (below_alloc _ _))
            refine wpAnyH_take (i := 0) (oi := ⟨some 25, _, _, _, _, _⟩) (v := ?_) rfl (by kernel_rfl) (by kernel_rfl) (by kernel_rfl) (fun _ _ _ h => h) (Or.inl ⟨by rfl, ?_⟩) (by assumption) ?_; rotate_left
            · intro w hSw; (try dsimp only at hSw); go_simp; try with_reducible rfl
            try simp only [Act.put, setIfInBounds_toArray, set_cons_zero, set_cons_succ]
            refine wpAnyH_take (i := 1) (oi := ⟨some 26, _, _, _, _, _⟩) (v := ?_) rfl (by kernel_rfl) (by kernel_rfl) (by kernel_rfl) (fun _ _ _ h => h) (Or.inl ⟨by rfl, ?_⟩) (by assumption) ?_; rotate_left
            · intro w hSw; (try dsimp only at hSw); go_simp; try with_reducible rfl
            try simp only [Act.put, setIfInBounds_toArray, set_cons_zero, set_cons_succ]
            refine wpAnyH_take (i := 2) (oi := ⟨some 27, _, _, _, _, _⟩) (v := ?_) rfl (by kernel_rfl) (by kernel_rfl) (by kernel_rfl) (fun _ _ _ h => h) (Or.inl ⟨by rfl, ?_⟩) (by assumption) ?_; rotate_left
            · intro w hSw; (try dsimp only at hSw); go_simp; try with_reducible rfl
            try simp only [Act.put, setIfInBounds_toArray, set_cons_zero, set_cons_succ]
            refine wpAnyH_take (i := 3) (oi := ⟨some 28, _, _, _, _, _⟩) (v := ?_) rfl (by kernel_rfl) (by kernel_rfl) (by kernel_rfl) (fun _ _ _ h => h) (Or.inl ⟨by rfl, ?_⟩) (by assumption) ?_; rotate_left
            · intro w hSw; (try dsimp only at hSw); go_simp; try with_reducible rfl
            try simp only [Act.put, setIfInBounds_toArray, set_cons_zero, set_cons_succ]
            refine wpAnyH_take (i := 5) (oi := ⟨some 30, _, _, _, _, _⟩) (v := ?_) rfl (by kernel_rfl) (by kernel_rfl) (by kernel_rfl) (fun _ _ _ h => h) (Or.inl ⟨by rfl, ?_⟩) (by assumption) ?_; rotate_left
            · intro w hSw; (try dsimp only at hSw); go_simp; try with_reducible rfl
            try simp only [Act.put, setIfInBounds_toArray, set_cons_zero, set_cons_succ]
            refine wpAnyH_take (i := 6) (oi := ⟨some 31, _, _, _, _, _⟩) (v := ?_) rfl (by kernel_rfl) (by kernel_rfl) (by kernel_rfl) (fun _ _ _ h => h) (Or.inl ⟨by rfl, ?_⟩) (by assumption) ?_; rotate_left
            · intro w hSw; (try dsimp only at hSw); go_simp; try with_reducible rfl
            try simp only [Act.put, setIfInBounds_toArray, set_cons_zero, set_cons_succ]
            refine wpAnyH_take (i := 8) (oi := ⟨some 33, _, _, _, _, _⟩) (v := ?_) rfl (by kernel_rfl) (by kernel_rfl) (by kernel_rfl) (fun _ _ _ h => h) (Or.inl ⟨by rfl, ?_⟩) (by assumption) ?_; rotate_left
            · intro w hSw; (try dsimp only at hSw); go_simp; try with_reducible rfl
            try simp only [Act.put, setIfInBounds_toArray, set_cons_zero, set_cons_succ]
            refine wpAnyH_take (i := 9) (oi := ⟨some 34, _, _, _, _, _⟩) (v := ?_) rfl (by kernel_rfl) (by kernel_rfl) (by kernel_rfl) (fun _ _ _ h => h) (Or.inl ⟨by rfl, ?_⟩) (by assumption) ?_; rotate_left
            · intro w hSw; (try dsimp only at hSw); go_simp; try with_reducible rfl
            try simp only [Act.put, setIfInBounds_toArray, set_cons_zero, set_cons_succ]
            refine wpAnyH_take (i := 28) (oi := ⟨some 53, _, _, _, _, _⟩) (v := ?_) rfl (by kernel_rfl) (by kernel_rfl) (by kernel_rfl) (fun _ _ _ h => h) (Or.inl ⟨by rfl, ?_⟩) (by assumption) ?_; rotate_left
            · intro w hSw; (try dsimp only at hSw); go_simp; try with_reducible rfl
            try simp only [Act.put, setIfInBounds_toArray, set_cons_zero, set_cons_succ]
            refine wpAnyH_ready (rs := [4]) (by kernel_rfl) (by simp) ?_
            refine AllReadyH.cons (o := ⟨some 29, _, _, _, _, _⟩) rfl (fun K hK => ?_) AllReadyH.nil
            go_simp
            refine (HE.out _ HNOW.out).mono ?_
            rintro e w3 ⟨f3, rfl, k3, b3⟩
            obtain ⟨fn3, cap3, rfl, _⟩ := id k3
            have HNOW := Lib.hid (bnextK HNOW.out b3)
            go_wp2_with fail
            refine hK.out _ _ ?_ (fun hHeld => ?_)
            · (try dsimp only); first | exact HSH.out _ HNOW.out | exact HSH.out _ (bnextK HNOW.out (below_alloc _ _))
            clear hK K
            try simp only [Act.put, setIfInBounds_toArray, set_cons_zero, set_cons_succ]
            refine wpAnyH_ready (rs := [7]) (by kernel_rfl) (by simp) ?_
            refine AllReadyH.cons (o := ⟨some 32, _, _, _, _, _⟩) rfl (fun K hK => ?_) AllReadyH.nil
            go_simp
            refine (HUL.out _ _ (by first | rfl | simp [G1.out])).mono ?_
            rintro e w4 ⟨f4, rfl, k4, b4⟩
            obtain ⟨fn4, cap4, rfl, _⟩ := id k4
            have k3 := CondOK.far k3 b4
            have HNOW := Lib.hid (bnextK HNOW.out b4)
            go_wp2_with fail
            refine hK.out _ _ ?_ (fun hHeld => ?_)
            · (try dsimp only); first | exact HSH.out _ HNOW.out | exact HSH.out _ (bnextK HNOW.out (below_alloc _ _))
            clear hK K
            try simp only [Act.put, setIfInBounds_toArray, set_cons_zero, set_cons_succ]
            refine wpAnyH_take (i := 10) (oi := ⟨some 35, _, _, _, _, _⟩) (v := ?_) rfl (by kernel_rfl) (by kernel_rfl) (by kernel_rfl) (fun _ _ _ h => h) (Or.inl ⟨by rfl, ?_⟩) (by assumption) ?_; rotate_left
            · intro w hSw; (try dsimp only at hSw); go_simp; try with_reducible rfl
            try simp only [Act.put, setIfInBounds_toArray, set_cons_zero, set_cons_succ]
            refine wpAnyH_take (i := 11) (oi := ⟨some 36, _, _, _, _, _⟩) (v := ?_) rfl (by kernel_rfl) (by kernel_rfl) (by kernel_rfl) (fun _ _ _ h => h) (Or.inl ⟨by rfl, ?_⟩) (by assumption) ?_; rotate_left
            · intro w hSw; (try dsimp only at hSw); go_simp; try with_reducible rfl
            try simp only [Act.put, setIfInBounds_toArray, set_cons_zero, set_cons_succ]
            refine wpAnyH_take (i := 12) (oi := ⟨some 37, _, _, _, _, _⟩) (v := ?_) rfl (by kernel_rfl) (by kernel_rfl) (by kernel_rfl) (fun _ _ _ h => h) (Or.inl ⟨by rfl, ?_⟩) (by assumption) ?_; rotate_left
            · intro w hSw; (try dsimp only at hSw); go_simp; try with_reducible rfl
            try simp only [Act.put, setIfInBounds_toArray, set_cons_zero, set_cons_succ]
            refine wpAnyH_take (i := 13) (oi := ⟨some 38, _, _, _, _, _⟩) (v := ?_) rfl (by kernel_rfl) (by kernel_rfl) (by kernel_rfl) (fun _ _ _ h => h) (Or.inl ⟨by rfl, ?_⟩) (by assumption) ?_; rotate_left
            · intro w hSw; (try dsimp only at hSw); go_simp; try with_reducible rfl
            try simp only [Act.put, setIfInBounds_toArray, set_cons_zero, set_cons_succ]
            refine wpAnyH_take (i := 14) (oi := ⟨some 39, _, _, _, _, _⟩) (v := ?_) rfl (by kernel_rfl) (by kernel_rfl) (by kernel_rfl) (fun _ _ _ h => h) (Or.inl ⟨by rfl, ?_⟩) (by assumption) ?_; rotate_left
            · intro w hSw; (try dsimp only at hSw); go_simp; try with_reducible rfl
            try simp only [Act.put, setIfInBounds_toArray, set_cons_zero, set_cons_succ]
            refine wpAnyH_take (i := 15) (oi := ⟨some 40, _, _, _, _, _⟩) (v := ?_) rfl (by kernel_rfl) (by kernel_rfl) (by kernel_rfl) (fun _ _ _ h => h) (Or.inl ⟨by rfl, ?_⟩) (by assumption) ?_; rotate_left
            · intro w hSw; (try dsimp only at hSw); go_simp; try with_reducible rfl
            try simp only [Act.put, setIfInBounds_toArray, set_cons_zero, set_cons_succ]
            refine wpAnyH_take (i := 16) (oi := ⟨some 41, _, _, _, _, _⟩) (v := ?_) rfl (by kernel_rfl) (by kernel_rfl) (by kernel_rfl) (fun _ _ _ h => h) (Or.inl ⟨by rfl, ?_⟩) (by assumption) ?_; rotate_left
            · intro w hSw; (try dsimp only at hSw); go_simp; try with_reducible rfl
            try simp only [Act.put, setIfInBounds_toArray, set_cons_zero, set_cons_succ]
            refine wpAnyH_take (i := 17) (oi := ⟨some 42, _, _, _, _, _⟩) (v := ?_) rfl (by kernel_rfl) (by kernel_rfl) (by kernel_rfl) (fun _ _ _ h => h) (Or.inl ⟨by rfl, ?_⟩) (by assumption) ?_; rotate_left
            · intro w hSw; (try dsimp only at hSw); go_simp; try with_reducible rfl
            try simp only [Act.put, setIfInBounds_toArray, set_cons_zero, set_cons_succ]
            refine wpAnyH_take (i := 18) (oi := ⟨some 43, _, _, _, _, _⟩) (v := ?_) rfl (by kernel_rfl) (by kernel_rfl) (by kernel_rfl) (fun _ _ _ h => h) (Or.inl ⟨by rfl, ?_⟩) (by assumption) ?_; rotate_left
            · intro w hSw; (try dsimp only at hSw); go_simp; try with_reducible rfl
            try simp only [Act.put, setIfInBounds_toArray, set_cons_zero, set_cons_succ]
            refine wpAnyH_take (i := 19) (oi := ⟨some 44, _, _, _, _, _⟩) (v := ?_) rfl (by kernel_rfl) (by kernel_rfl) (by kernel_rfl) (fun _ _ _ h => h) (Or.inl ⟨by rfl, ?_⟩) (by assumption) ?_; rotate_left
            · intro w hSw; (try dsimp only at hSw); go_simp; try with_reducible rfl
            try simp only [Act.put, setIfInBounds_toArray, set_cons_zero, set_cons_succ]
            refine wpAnyH_take (i := 20) (oi := ⟨some 45, _, _, _, _, _⟩) (v := ?_) rfl (by kernel_rfl) (by kernel_rfl) (by kernel_rfl) (fun _ _ _ h => h) (Or.inl ⟨by rfl, ?_⟩) (by assumption) ?_; rotate_left
            · intro w hSw; (try dsimp only at hSw); go_simp; try with_reducible rfl
            try simp only [Act.put, setIfInBounds_toArray, set_cons_zero, set_cons_succ]
            refine wpAnyH_take (i := 21) (oi := ⟨some 46, _, _, _, _, _⟩) (v := ?_) rfl (by kernel_rfl) (by kernel_rfl) (by kernel_rfl) (fun _ _ _ h => h) (Or.inl ⟨by rfl, ?_⟩) (by assumption) ?_; rotate_left
            · intro w hSw; (try dsimp only at hSw); go_simp; try with_reducible rfl
            try simp only [Act.put, setIfInBounds_toArray, set_cons_zero, set_cons_succ]
            refine wpAnyH_take (i := 22) (oi := ⟨some 47, _, _, _, _, _⟩) (v := ?_) rfl (by kernel_rfl) (by kernel_rfl) (by kernel_rfl) (fun _ _ _ h => h) (Or.inl ⟨by rfl, ?_⟩) (by assumption) ?_; rotate_left
            · intro w hSw; (try dsimp only at hSw); go_simp; try with_reducible rfl
            try simp only [Act.put, setIfInBounds_toArray, set_cons_zero, set_cons_succ]
            refine wpAnyH_take (i := 23) (oi := ⟨some 48, _, _, _, _, _⟩) (v := undef) rfl (by kernel_rfl) (by kernel_rfl) (by kernel_rfl) (fun _ _ _ h => h) (Or.inr ⟨by rfl, rfl⟩) (by assumption) ?_
            try simp only [Act.put, setIfInBounds_toArray, set_cons_zero, set_cons_succ]
            refine wpAnyH_take (i := 24) (oi := ⟨some 49, _, _, _, _, _⟩) (v := undef) rfl (by kernel_rfl) (by kernel_rfl) (by kernel_rfl) (fun _ _ _ h => h) (Or.inr ⟨by rfl, rfl⟩) (by assumption) ?_
            try simp only [Act.put, setIfInBounds_toArray, set_cons_zero, set_cons_succ]
            refine wpAnyH_take (i := 25) (oi := ⟨some 50, _, _, _, _, _⟩) (v := undef) rfl (by kernel_rfl) (by kernel_rfl) (by kernel_rfl) (fun _ _ _ h => h) (Or.inr ⟨by rfl, rfl⟩) (by assumption) ?_
            try simp only [Act.put, setIfInBounds_toArray, set_cons_zero, set_cons_succ]
            refine wpAnyH_take (i := 26) (oi := ⟨some 51, _, _, _, _, _⟩) (v := ?_) rfl (by kernel_rfl) (by kernel_rfl) (by kernel_rfl) (fun _ _ _ h => h) (Or.inl ⟨by rfl, ?_⟩) (by assumption) ?_; rotate_left
            · intro w hSw; (try dsimp only at hSw); go_simp; try with_reducible rfl
            try simp only [Act.put, setIfInBounds_toArray, set_cons_zero, set_cons_succ]
            refine wpAnyH_ready (rs := [27]) (by kernel_rfl) (by simp) ?_
            refine AllReadyH.cons (o := ⟨some 52, _, _, _, _, _⟩) rfl (fun K hK => ?_) AllReadyH.nil
            go_simp
            refine (HUA.out _ _ (by first | (have := G1.out; simp; omega) | (simp; omega))).mono ?_
            rintro e w5 ⟨f5, rfl, k5, b5⟩
            obtain ⟨fn5, cap5, rfl, _⟩ := id k5
            have k3 := CondOK.far k3 b5
            have k4 := CondOK.far k4 b5
            have HNOW := Lib.hid (bnextK HNOW.out b5)
            go_wp2_with fail
            refine hK.out _ _ ?_ (fun hHeld => ?_)
            · (try dsimp only); first | exact HSH.out _ HNOW.out | exact HSH.out _ (bnextK HNOW.out (below_alloc _ _))
            clear hK K
            try simp only [Act.put, setIfInBounds_toArray, set_cons_zero, set_cons_succ]
            refine wpAnyH_ready (rs := [29]) (by kernel_rfl) (by simp) ?_
            refine AllReadyH.cons (o := ⟨some 54, _, _, _, _, _⟩) rfl (fun K hK => ?_) AllReadyH.nil
            go_simp
            refine hK.out _ _ ?_ (fun hHeld => ?_)
            · (try dsimp only); first | exact HSH.out _ HNOW.out | exact HSH.out _ (bnextK HNOW.out (below_alloc _ _))
            clear hK K
            try simp only [Act.put, setIfInBounds_toArray, set_cons_zero, set_cons_succ]
            refine wpAnyH_ready (rs := [30]) (by kernel_rfl) (by simp) ?_
            refine AllReadyH.cons (o := ⟨some 55, _, _, _, _, _⟩) rfl (fun K hK => ?_) AllReadyH.nil
            go_simp
            refine (HA.out _ _ _ _ _ HNOW.out k3 k4 k5 rfl).mono ?_
            rintro e w6 ⟨rfl, b6⟩
            have HNOW := Lib.hid (bnextK (bnextK HNOW.out (below_alloc _ _)) b6)
            go_wp2_with fail
            refine hK.out _ _ ?_ (fun hHeld => ?_)
            · (try dsimp only); first | exact HSH.out _ HNOW.out | exact HSH.out _ (bnextK HNOW.out (below_alloc _ _))
            clear hK K
            try simp only [Act.put, setIfInBounds_toArray, set_cons_zero, set_cons_succ]
            refine wpAnyH_take (i := 31) (oi := ⟨some 17, _, _, _, _, _⟩) (v := ?_) rfl (by kernel_rfl) (by kernel_rfl) (by kernel_rfl) (fun _ _ _ h => h) (Or.inl ⟨by rfl, ?_⟩) (by assumption) ?_; rotate_left
            · intro w hSw; (try dsimp only at hSw); go_simp; try with_reducible rfl
            try simp only [Act.put, setIfInBounds_toArray, set_cons_zero, set_cons_succ]
            refine wpAnyH_done (by kernel_rfl) ?_ _
            go_wp2_with fail
            go_meet
            exact ⟨rfl, HNOW.out⟩
          · have hb4 : decide (need < 1) = false := by simp; omega
            refine wp_region_held_drew (S := (fun W => SdBox w.heap.size N (.slice A' m c') need n W)) (by kernel_rfl) ?_ (fun hHeld => ?_)
            · (try dsimp only); first | exact HSH.out _ HNOW.out | exact HSH.out _ (bnextK HNOW.out (below_alloc _ _))
            refine wpAnyH_take (i := 0) (oi := ⟨some 25, _, _, _, _, _⟩) (v := ?_) rfl (by kernel_rfl) (by kernel_rfl) (by kernel_rfl) (fun _ _ _ h => h) (Or.inl ⟨by rfl, ?_⟩) (by assumption) ?_; rotate_left
            · intro w hSw; (try dsimp only at hSw); go_simp; try with_reducible rfl
            try simp only [Act.put, setIfInBounds_toArray, set_cons_zero, set_cons_succ]
            refine wpAnyH_take (i := 1) (oi := ⟨some 26, _, _, _, _, _⟩) (v := ?_) rfl (by kernel_rfl) (by kernel_rfl) (by kernel_rfl) (fun _ _ _ h => h) (Or.inl ⟨by rfl, ?_⟩) (by assumption) ?_; rotate_left
            · intro w hSw; (try dsimp only at hSw); go_simp; try with_reducible rfl
            try simp only [Act.put, setIfInBounds_toArray, set_cons_zero, set_cons_succ]
            refine wpAnyH_take (i := 2) (oi := ⟨some 27, _, _, _, _, _⟩) (v := ?_) rfl (by kernel_rfl) (by kernel_rfl) (by kernel_rfl) (fun _ _ _ h => h) (Or.inl ⟨by rfl, ?_⟩) (by assumption) ?_; rotate_left
            · intro w hSw; (try dsimp only at hSw); go_simp; try with_reducible rfl
            try simp only [Act.put, setIfInBounds_toArray, set_cons_zero, set_cons_succ]
            refine wpAnyH_take (i := 3) (oi := ⟨some 28, _, _, _, _, _⟩) (v := ?_) rfl (by kernel_rfl) (by kernel_rfl) (by kernel_rfl) (fun _ _ _ h => h) (Or.inl ⟨by rfl, ?_⟩) (by assumption) ?_; rotate_left
            · intro w hSw; (try dsimp only at hSw); go_simp; try with_reducible rfl
            try simp only [Act.put, setIfInBounds_toArray, set_cons_zero, set_cons_succ]
            refine wpAnyH_take (i := 5) (oi := ⟨some 30, _, _, _, _, _⟩) (v := ?_) rfl (by kernel_rfl) (by kernel_rfl) (by kernel_rfl) (fun _ _ _ h => h) (Or.inl ⟨by rfl, ?_⟩) (by assumption) ?_; rotate_left
            · intro w hSw; (try dsimp only at hSw); go_simp; try with_reducible rfl
            try simp only [Act.put, setIfInBounds_toArray, set_cons_zero, set_cons_succ]
            refine wpAnyH_take (i := 6) (oi := ⟨some 31, _, _, _, _, _⟩) (v := ?_) rfl (by kernel_rfl) (by kernel_rfl) (by kernel_rfl) (fun _ _ _ h => h) (Or.inl ⟨by rfl, ?_⟩) (by assumption) ?_; rotate_left
            · intro w hSw; (try dsimp only at hSw); go_simp; try with_reducible rfl
            try simp only [Act.put, setIfInBounds_toArray, set_cons_zero, set_cons_succ]
            refine wpAnyH_take (i := 8) (oi := ⟨some 33, _, _, _, _, _⟩) (v := ?_) rfl (by kernel_rfl) (by kernel_rfl) (by kernel_rfl) (fun _ _ _ h => h) (Or.inl ⟨by rfl, ?_⟩) (by assumption) ?_; rotate_left
            · intro w hSw; (try dsimp only at hSw); go_simp; try with_reducible rfl
            try simp only [Act.put, setIfInBounds_toArray, set_cons_zero, set_cons_succ]
            refine wpAnyH_take (i := 9) (oi := ⟨some 34, _, _, _, _, _⟩) (v := ?_) rfl (by kernel_rfl) (by kernel_rfl) (by kernel_rfl) (fun _ _ _ h => h) (Or.inl ⟨by rfl, ?_⟩) (by assumption) ?_; rotate_left
            · intro w hSw; (try dsimp only at hSw); go_simp; try with_reducible rfl
            try simp only [Act.put, setIfInBounds_toArray, set_cons_zero, set_cons_succ]
            refine wpAnyH_take (i := 28) (oi := ⟨some 53, _, _, _, _, _⟩) (v := ?_) rfl (by kernel_rfl) (by kernel_rfl) (by kernel_rfl) (fun _ _ _ h => h) (Or.inl ⟨by rfl, ?_⟩) (by assumption) ?_; rotate_left
            · intro w hSw; (try dsimp only at hSw); go_simp; try with_reducible rfl
            try simp only [Act.put, setIfInBounds_toArray, set_cons_zero, set_cons_succ]
            refine wpAnyH_ready (rs := [4]) (by kernel_rfl) (by simp) ?_
            refine AllReadyH.cons (o := ⟨some 29, _, _, _, _, _⟩) rfl (fun K hK => ?_) AllReadyH.nil
            go_simp
            refine (HE.out _ HNOW.out).mono ?_
            rintro e w3 ⟨f3, rfl, k3, b3⟩
            obtain ⟨fn3, cap3, rfl, _⟩ := id k3
            have HNOW := Lib.hid (bnextK HNOW.out b3)
            go_wp2_with fail
            refine hK.out _ _ ?_ (fun hHeld => ?_)
            · (try dsimp only); first | exact HSH.out _ HNOW.out | exact HSH.out _ (bnextK HNOW.out (below_alloc _ _))
            clear hK K
            try simp only [Act.put, setIfInBounds_toArray, set_cons_zero, set_cons_succ]
            refine wpAnyH_ready (rs := [7]) (by kernel_rfl) (by simp) ?_
            refine AllReadyH.cons (o := ⟨some 32, _, _, _, _, _⟩) rfl (fun K hK => ?_) AllReadyH.nil
            go_simp
            refine (HUL.out _ _ (by first | rfl | simp [G1.out])).mono ?_
            rintro e w4 ⟨f4, rfl, k4, b4⟩
            obtain ⟨fn4, cap4, rfl, _⟩ := id k4
            have k3 := CondOK.far k3 b4
            have HNOW := Lib.hid (bnextK HNOW.out b4)
            go_wp2_with fail
            refine hK.out _ _ ?_ (fun hHeld => ?_)
            · (try dsimp only); first | exact HSH.out _ HNOW.out | exact HSH.out _ (bnextK HNOW.out (below_alloc _ _))
            clear hK K
            try simp only [Act.put, setIfInBounds_toArray, set_cons_zero, set_cons_succ]
            refine wpAnyH_take (i := 10) (oi := ⟨some 35, _, _, _, _, _⟩) (v := ?_) rfl (by kernel_rfl) (by kernel_rfl) (by kernel_rfl) (fun _ _ _ h => h) (Or.inl ⟨by rfl, ?_⟩) (by assumption) ?_; rotate_left
            · intro w hSw; (try dsimp only at hSw); go_simp; try with_reducible rfl
            try simp only [Act.put, setIfInBounds_toArray, set_cons_zero, set_cons_succ]
            refine wpAnyH_take (i := 11) (oi := ⟨some 36, _, _, _, _, _⟩) (v := ?_) rfl (by kernel_rfl) (by kernel_rfl) (by kernel_rfl) (fun _ _ _ h => h) (Or.inl ⟨by rfl, ?_⟩) (by assumption) ?_; rotate_left
            · intro w hSw; (try dsimp only at hSw); go_simp; try with_reducible rfl
            try simp only [Act.put, setIfInBounds_toArray, set_cons_zero, set_cons_succ]
            refine wpAnyH_take (i := 12) (oi := ⟨some 37, _, _, _, _, _⟩) (v := ?_) rfl (by kernel_rfl) (by kernel_rfl) (by kernel_rfl) (fun _ _ _ h => h) (Or.inl ⟨by rfl, ?_⟩) (by assumption) ?_; rotate_left
            · intro w hSw; (try dsimp only at hSw); go_simp; try with_reducible rfl
            try simp only [Act.put, setIfInBounds_toArray, set_cons_zero, set_cons_succ]
            refine wpAnyH_take (i := 13) (oi := ⟨some 38, _, _, _, _, _⟩) (v := ?_) rfl (by kernel_rfl) (by kernel_rfl) (by kernel_rfl) (fun _ _ _ h => h) (Or.inl ⟨by rfl, ?_⟩) (by assumption) ?_; rotate_left
            · intro w hSw; (try dsimp only at hSw); go_simp; try with_reducible rfl
            try simp only [Act.put, setIfInBounds_toArray, set_cons_zero, set_cons_succ]
            refine wpAnyH_take (i := 14) (oi := ⟨some 39, _, _, _, _, _⟩) (v := ?_) rfl (by kernel_rfl) (by kernel_rfl) (by kernel_rfl) (fun _ _ _ h => h) (Or.inl ⟨by rfl, ?_⟩) (by assumption) ?_; rotate_left
            · intro w hSw; (try dsimp only at hSw); go_simp; try with_reducible rfl
            try simp only [Act.put, setIfInBounds_toArray, set_cons_zero, set_cons_succ]
            refine wpAnyH_take (i := 15) (oi := ⟨some 40, _, _, _, _, _⟩) (v := ?_) rfl (by kernel_rfl) (by kernel_rfl) (by kernel_rfl) (fun _ _ _ h => h) (Or.inl ⟨by rfl, ?_⟩) (by assumption) ?_; rotate_left
            · intro w hSw; (try dsimp only at hSw); go_simp; try with_reducible rfl
            try simp only [Act.put, setIfInBounds_toArray, set_cons_zero, set_cons_succ]
            refine wpAnyH_take (i := 16) (oi := ⟨some 41, _, _, _, _, _⟩) (v := ?_) rfl (by kernel_rfl) (by kernel_rfl) (by kernel_rfl) (fun _ _ _ h => h) (Or.inl ⟨by rfl, ?_⟩) (by assumption) ?_; rotate_left
            · intro w hSw; (try dsimp only at hSw); go_simp; try with_reducible rfl
            try simp only [Act.put, setIfInBounds_toArray, set_cons_zero, set_cons_succ]
            refine wpAnyH_take (i := 17) (oi := ⟨some 42, _, _, _, _, _⟩) (v := ?_) rfl (by kernel_rfl) (by kernel_rfl) (by kernel_rfl) (fun _ _ _ h => h) (Or.inl ⟨by rfl, ?_⟩) (by assumption) ?_; rotate_left
            · intro w hSw; (try dsimp only at hSw); go_simp; try with_reducible rfl
            try simp only [Act.put, setIfInBounds_toArray, set_cons_zero, set_cons_succ]
            refine wpAnyH_take (i := 18) (oi := ⟨some 43, _, _, _, _, _⟩) (v := ?_) rfl (by kernel_rfl) (by kernel_rfl) (by kernel_rfl) (fun _ _ _ h => h) (Or.inl ⟨by rfl, ?_⟩) (by assumption) ?_; rotate_left
            · intro w hSw; (try dsimp only at hSw); go_simp; try with_reducible rfl
            try simp only [Act.put, setIfInBounds_toArray, set_cons_zero, set_cons_succ]
            refine wpAnyH_take (i := 19) (oi := ⟨some 44, _, _, _, _, _⟩) (v := ?_) rfl (by kernel_rfl) (by kernel_rfl) (by kernel_rfl) (fun _ _ _ h => h) (Or.inl ⟨by rfl, ?_⟩) (by assumption) ?_; rotate_left
            · intro w hSw; (try dsimp only at hSw); go_simp; try with_reducible rfl
            try simp only [Act.put, setIfInBounds_toArray, set_cons_zero, set_cons_succ]
            refine wpAnyH_take (i := 20) (oi := ⟨some 45, _, _, _, _, _⟩) (v := ?_) rfl (by kernel_rfl) (by kernel_rfl) (by kernel_rfl) (fun _ _ _ h => h) (Or.inl ⟨by rfl, ?_⟩) (by assumption) ?_; rotate_left
            · intro w hSw; (try dsimp only at hSw); go_simp; try with_reducible rfl
            try simp only [Act.put, setIfInBounds_toArray, set_cons_zero, set_cons_succ]
            refine wpAnyH_take (i := 21) (oi := ⟨some 46, _, _, _, _, _⟩) (v := ?_) rfl (by kernel_rfl) (by kernel_rfl) (by kernel_rfl) (fun _ _ _ h => h) (Or.inl ⟨by rfl, ?_⟩) (by assumption) ?_; rotate_left
            · intro w hSw; (try dsimp only at hSw); go_simp; try with_reducible rfl
            try simp only [Act.put, setIfInBounds_toArray, set_cons_zero, set_cons_succ]
            refine wpAnyH_take (i := 22) (oi := ⟨some 47, _, _, _, _, _⟩) (v := ?_) rfl (by kernel_rfl) (by kernel_rfl) (by kernel_rfl) (fun _ _ _ h => h) (Or.inl ⟨by rfl, ?_⟩) (by assumption) ?_; rotate_left
            · intro w hSw; (try dsimp only at hSw); go_simp; try with_reducible rfl
            try simp only [Act.put, setIfInBounds_toArray, set_cons_zero, set_cons_succ]
            refine wpAnyH_take (i := 23) (oi := ⟨some 48, _, _, _, _, _⟩) (v := ?_) rfl (by kernel_rfl) (by kernel_rfl) (by kernel_rfl) (fun _ _ _ h => h) (Or.inl ⟨by rfl, ?_⟩) (by assumption) ?_; rotate_left
            · intro w hSw; (try dsimp only at hSw); go_simp; try with_reducible rfl
            try simp only [Act.put, setIfInBounds_toArray, set_cons_zero, set_cons_succ]
            refine wpAnyH_take (i := 24) (oi := ⟨some 49, _, _, _, _, _⟩) (v := ?_) rfl (by kernel_rfl) (by kernel_rfl) (by kernel_rfl) (fun _ _ _ h => h) (Or.inl ⟨by rfl, ?_⟩) (by assumption) ?_; rotate_left
            · intro w hSw; (try dsimp only at hSw); go_simp; try with_reducible rfl
            try simp only [Act.put, setIfInBounds_toArray, set_cons_zero, set_cons_succ]
            refine wpAnyH_take (i := 25) (oi := ⟨some 50, _, _, _, _, _⟩) (v := ?_) rfl (by kernel_rfl) (by kernel_rfl) (by kernel_rfl) (fun _ _ _ h => h) (Or.inl ⟨by rfl, ?_⟩) (by assumption) ?_; rotate_left
            · intro w hSw; (try dsimp only at hSw); go_simp; try with_reducible rfl
            try simp only [Act.put, setIfInBounds_toArray, set_cons_zero, set_cons_succ]
            refine wpAnyH_take (i := 26) (oi := ⟨some 51, _, _, _, _, _⟩) (v := ?_) rfl (by kernel_rfl) (by kernel_rfl) (by kernel_rfl) (fun _ _ _ h => h) (Or.inl ⟨by rfl, ?_⟩) (by assumption) ?_; rotate_left
            · intro w hSw; (try dsimp only at hSw); go_simp; try with_reducible rfl
            try simp only [Act.put, setIfInBounds_toArray, set_cons_zero, set_cons_succ]
            refine wpAnyH_ready (rs := [27]) (by kernel_rfl) (by simp) ?_
            refine AllReadyH.cons (o := ⟨some 52, _, _, _, _, _⟩) rfl (fun K hK => ?_) AllReadyH.nil
            go_simp
            refine (HUA.out _ _ (by first | (have := G1.out; simp; omega) | (simp; omega))).mono ?_
            rintro e w5 ⟨f5, rfl, k5, b5⟩
            obtain ⟨fn5, cap5, rfl, _⟩ := id k5
            have k3 := CondOK.far k3 b5
            have k4 := CondOK.far k4 b5
            have HNOW := Lib.hid (bnextK HNOW.out b5)
            go_wp2_with fail
            refine hK.out _ _ ?_ (fun hHeld => ?_)
            · (try dsimp only); first | exact HSH.out _ HNOW.out | exact HSH.out _ (bnextK HNOW.out (below_alloc _ _))
            clear hK K
            try simp only [Act.put, setIfInBounds_toArray, set_cons_zero, set_cons_succ]
            refine wpAnyH_ready (rs := [29]) (by kernel_rfl) (by simp) ?_
            refine AllReadyH.cons (o := ⟨some 54, _, _, _, _, _⟩) rfl (fun K hK => ?_) AllReadyH.nil
            go_simp
            refine hK.out _ _ ?_ (fun hHeld => ?_)
            · (try dsimp only); first | exact HSH.out _ HNOW.out | exact HSH.out _ (bnextK HNOW.out (below_alloc _ _))
            clear hK K
            try simp only [Act.put, setIfInBounds_toArray, set_cons_zero, set_cons_succ]
            refine wpAnyH_ready (rs := [30]) (by kernel_rfl) (by simp) ?_
            refine AllReadyH.cons (o := ⟨some 55, _, _, _, _, _⟩) rfl (fun K hK => ?_) AllReadyH.nil
            go_simp
            refine (HA.out _ _ _ _ _ HNOW.out k3 k4 k5 rfl).mono ?_
            rintro e w6 ⟨rfl, b6⟩
            have HNOW := Lib.hid (bnextK (bnextK HNOW.out (below_alloc _ _)) b6)
            go_wp2_with fail
            refine hK.out _ _ ?_ (fun hHeld => ?_)
            · (try dsimp only); first | exact HSH.out _ HNOW.out | exact HSH.out _ (bnextK HNOW.out (below_alloc _ _))
            clear hK K
            try simp only [Act.put, setIfInBounds_toArray, set_cons_zero, set_cons_succ]
            refine wpAnyH_take (i := 31) (oi := ⟨some 17, _, _, _, _, _⟩) (v := ?_) rfl (by kernel_rfl) (by kernel_rfl) (by kernel_rfl) (fun _ _ _ h => h) (Or.inl ⟨by rfl, ?_⟩) (by assumption) ?_; rotate_left
            · intro w hSw; (try dsimp only at hSw); go_simp; try with_reducible rfl
            try simp only [Act.put, setIfInBounds_toArray, set_cons_zero, set_cons_succ]
            refine wpAnyH_done (by kernel_rfl) ?_ _
            go_wp2_with fail
            go_meet
            exact ⟨rfl, HNOW.out⟩
  case rest =>
    clear HNOW HSH HA HUA HUL HE hmf
    obtain ⟨w2, rfl⟩ : ∃ z : World, z = wc := ⟨_, rfl⟩
    obtain ⟨rfl, hb2⟩ := hcut
    have HB2 := Lib.hid (bnextK HB1.out hb2)
    have HN2 := Lib.hid (H1.out.far hb2)
    have HBX2 := Lib.hid (HBX.out.far hb2)
    clear hb2 H1 HBX HB1
    by_cases h0 : ev = 0
    · subst h0
      obtain ⟨_, _, hab, hma, hmb, hn9, hk9, hneed, hm, hfull⟩ := sendE_zero HEV.out.symm
      obtain ⟨kn, rfl⟩ : ∃ z : Nat, k = (z : Int) := ⟨k.toNat, by omega⟩
      obtain ⟨q, rfl⟩ : ∃ z : Nat, need = (z : Int) + 1 := ⟨(need - 1).toNat, by omega⟩
      have hmq : m = n * q := by
        have e : (m : Int) = ((n * q : Nat) : Int) := by rw [hm, show (q : Int) + 1 - 1 = (q : Int) by omega, Int.mul_comm]; simp
        exact_mod_cast e
      have HMQ := Lib.hid hmq
      have HM := Lib.hid hm
      clear hm hmq
      have hw8 : wrap64 (8 * (n : Int)) = 8 * (n : Int) := by unfold wrap64; omega
      have hwm : wrap64 (-8 * (n : Int)) = -8 * (n : Int) := by unfold wrap64; omega
      obtain ⟨c0, c1, c2, c3⟩ := HBX2.out.cells
      have HG := Lib.hid (graph_any HN2.out (8 * (n : Int)) (by have := List.length_pos_of_mem hma; omega))
      have HOK := Lib.hid H.out.ok
      go_wp2_with fail
      refine HG.out.mono ?_
      clear HG
      rintro e w3 ⟨G, rfl, hgx, hb3⟩
      have HC := Lib.hid (choose_names hgx HOK.out a b hma hmb hab kn (by omega) (by omega))
      have HB3 := Lib.hid hb3
      clear hgx hb3
      go_wp2_with fail
      refine HC.out.mono ?_
      clear HC
      rintro e w4 ⟨⟨v, rfl, h1, h2⟩, hb4⟩
      have HB4 := Lib.hid (bnextK HB3.out hb4)
      clear HB3 hb4 c0 c1 c2 c3
      by_cases hp : pathsG s (8 * (n : Int)) a b kn = []
      · obtain rfl := h1 hp
        have hq := eql_nil_rows
        clear h1 h2
        go_wp2_with fail
        refine bodyPost_ret (a := Act.mk _ _) (results_tmp2 rfl _ _ _) rfl ?_
        exact ⟨0, 21, rfl, .inl ⟨by decide, .inr ⟨HEV.out.symm, rfl, by simpa using hp⟩, rfl, HN2.out.far HB4.out, bnextK HB2.out HB4.out⟩⟩
      · have HP := Lib.hid hp
        obtain ⟨lp, hlp, hrows⟩ : ∃ lp, pathsG s (8 * (n : Int)) a b kn = lp ∧ NmRows w4 v (lp.map (nmP s)) := ⟨_, rfl, (h2 hp).rows hp⟩
        have hkl : lp.length = kn := by rw [← hlp]; exact (pathsN HOK.out hma hmb hab hp).1
        have hps : sendPs s a b n kn = lp.map (nmP s) := by unfold sendPs; rw [hlp]
        have HPS := Lib.hid hps
        obtain ⟨g, gc, gcs, rfl, hgc, hgb, hgr⟩ := id hrows
        have HROWS := Lib.hid hrows
        rw [List.length_map, hkl] at hgc HROWS ⊢
        have hq := eql_some_rows g
        have HBX4 := Lib.hid (HBX2.out.far HB4.out)
        have HN4 := Lib.hid (HN2.out.far HB4.out)
        have HBW4 := Lib.hid (bnextK HB2.out HB4.out)
        clear h1 h2 hp hlp hrows hgb hgr HN2 HBX2 HB2 HB4 hps
        obtain ⟨c0, c1, c2, c3⟩ := HBX4.out.cells
        have HSP := Lib.hid (Split_ok A A' n c m c' kn q sec co w4 (by omega) (by omega) (by omega) (by omega) HMQ.out hmc HS.out HCO.out ((HR.out.below HBW4.out).mono HBW4.out.size) ((HR'.out.below HBW4.out).mono HBW4.out.size))
        go_wp2_with fail
        refine HSP.out.mono ?_
        clear HSP
        rintro e w5 ⟨rfl, hsh, hb5⟩
        have HSHR := Lib.hid hsh.rows
        have HBX5 := Lib.hid (HBX4.out.far hb5)
        have HN5 := Lib.hid (HN4.out.far hb5)
        have HROW5 := Lib.hid (NmRows.farW HROWS.out hb5)
        have HBW5 := Lib.hid (bnextK HBW4.out hb5)
        clear hsh hb5 HN4 HBX4 HROWS HBW4 c0 c1 c2 c3
        generalize w4.heap.size = sb at *
        have HI0 : Hid (NetAt w5 N (moves s ((sendPs s a b n kn).take 0) (-8 * (n : Int)) 0 (8 * (n : Int))) bn bl vh (.slice As s.sents.length cs) ∧ KeepL [bl] w5 w5) := Lib.hid ⟨HN5.out, KeepL.refl _ _⟩
        go_wp2_with fail
        go_loopw [21, 82] (fun _ i wr => ∃ j : Nat, j ≤ kn ∧ i = .int .i64 j ∧ NetAt wr N (moves s ((sendPs s a b n kn).take j) (-8 * (n : Int)) 0 (8 * (n : Int))) bn bl vh (.slice As s.sents.length cs) ∧ KeepL [bl] w5 wr) (fun _ i _ => kn - (intOf i).toNat)
        case atStart => exact ⟨0, Nat.zero_le _, rfl, HI0.out⟩
        case round =>
          obtain ⟨j, hj, rfl, hnj, hkj⟩ := hrel
          obtain ⟨wi, rfl⟩ : ∃ z : World, z = wr := ⟨_, rfl⟩
          have HNJ := Lib.hid hnj; have HKJ := Lib.hid hkj
          have HCK := Lib.hid (HN5.out.links.ckL hkj)
          have hbx := HBX5.out.ck HCK.out trivial trivial trivial
          obtain ⟨c0, c1, c2, c3⟩ := hbx.cells
          clear hnj hkj HI0
          by_cases hlt : j < kn
          · have hki : (j : Int) < (kn : Int) := by omega
            have hrows := NmRows.ck HROW5.out HCK.out trivial trivial
            obtain ⟨p, hp⟩ : ∃ p, (lp.map (nmP s))[j]? = some p := ⟨_, List.getElem?_eq_getElem (by rw [List.length_map, hkl]; exact hlt)⟩
            obtain ⟨u, cu, hrow⟩ := NmRows.at hrows hp
            have hgood : GoodN s (8 * (n : Int)) a b p := (pathsN HOK.out hma hmb hab HP.out).2.1 p (by
              have := List.mem_of_getElem? hp
              rw [← HPS.out] at this
              exact this)
            have htk : (sendPs s a b n kn).take (j + 1) = (sendPs s a b n kn).take j ++ [p] := by
              rw [HPS.out]
              obtain ⟨q1, q2⟩ := List.getElem?_eq_some_iff.1 hp
              rw [List.take_succ_eq_append_getElem q1, q2]
            have hsame := moves_same (-8 * (n : Int)) 0 (8 * (n : Int)) ((sendPs s a b n kn).take j) s
            have hml : p.length ≤ 1000 := by
              have : p.length ≤ s.nodes.length := nodup_sub_len hgood.nodup hgood.mem
              have := HOK.out.nn
              omega
            have HMV := Lib.hid (move_any HNJ.out p u hrow (-8 * (n : Int)) 0 (8 * (n : Int)) (by have := hgood.len; omega) hml hgood.nodup (fun i hi => by rw [hsame.2.2.1]; exact (hgood.link i hi).1)
              (by rw [← moves_snoc, ← htk]; exact moves_send_ok HOK.out hma hmb hab HP.out (j + 1)) ⟨by omega, by omega⟩ ⟨by omega, by omega⟩ ⟨by omega, by omega⟩)
            rw [← moves_snoc, ← htk] at HMV
            obtain ⟨ub, uo, ucs, rfl, _⟩ := id hrow
            clear hrows hrow hgood htk hsame hml hp hbx
            go_wp2_with fail
            refine HMV.out.mono ?_
            clear HMV
            rintro e w7 ⟨rfl, hn7, hk7⟩
            have HN7 := Lib.hid hn7; have HK7 := Lib.hid (HKJ.out.trans hk7)
            clear hn7 hk7
            go_wp2_with fail
            go_roundw
            case rel => exact ⟨j + 1, by omega, by go_num, HN7.out, HK7.out⟩
            case measure => simp [intOf]; omega
          · have hki : ¬ (j : Int) < (kn : Int) := by omega
            obtain rfl : j = kn := by omega
            have HNE : Hid (NetAt wi N (moves s (sendPs s a b n j) (-8 * (n : Int)) 0 (8 * (n : Int))) bn bl vh (.slice As s.sents.length cs)) := Lib.hid (by
              have := HNJ.out
              rw [List.take_of_length_le (by rw [HPS.out, List.length_map, hkl]; exact Nat.le_refl _)] at this
              exact this)
            have hsame := moves_same (-8 * (n : Int)) 0 (8 * (n : Int)) (sendPs s a b n j) s
            obtain ⟨vals, hov, hvv⟩ := HNE.out.sents
            rw [hsame.2.2.2.2.2.2] at hov hvv
            have HOV := Lib.hid hov; have HVV := Lib.hid hvv; have HSAME := Lib.hid hsame
            have n5 := HNE.out.blk.cell 5
            simp only [List.getElem?_toArray, List.getElem?_cons_succ, List.getElem?_cons_zero] at n5
            have hwl : wrap64 ((s.sents.length : Int) + 1) = (s.sents.length : Int) + 1 := by unfold wrap64; omega
            clear hov hvv hsame ha hb hn hnc hmc hcs hn9 hk9 hneed hfull hw8 hwm hab hma hmb hki hj hlt hkl hgc
            go_wp2_with fail
            have HDR : Hid (Below wi.heap.size wi wi.drew) := Lib.hid (Qw.below ⟨1, rfl⟩ _)
            have HOV17 : Hid (wi.drew.ownsRow 0 102 5 (.slice As s.sents.length cs) s.sents.length vals) := Lib.hid HOV.out
            have HVV17 : Hid (∀ (i : Nat) (x : SentM), s.sents[i]? = some x → ∃ pv sv, vals[i * 5]? = some (.int .i64 x.id) ∧ vals[i * 5 + 1]? = some (.int .i64 x.need) ∧ vals[i * 5 + 2]? = some (.int .i64 x.len) ∧ vals[i * 5 + 3]? = some pv ∧ vals[i * 5 + 4]? = some sv ∧ NmRows wi.drew pv x.paths ∧ ShRows wi.drew sv x.shares) := Lib.hid HVV.out
            have HNE17 := Lib.hid (HNE.out.far HDR.out)
            have HBX17 : Hid (SdBk w.heap.size N (.slice A' m c') ((q : Int) + 1) n wi.drew) := Lib.hid ((HBX5.out.ck HCK.out trivial trivial trivial).far HDR.out)
            have HROW17 := Lib.hid (NmRows.farW (NmRows.ck HROW5.out HCK.out trivial trivial) HDR.out)
            have HSHR17 : Hid (ShRows wi.drew (.slice (some ⟨sb, 0, none⟩) j j) (sendSh sec co q n j)) := Lib.hid (ShRows.ck (T := fun _ => True) (ShRows.ck HSHR.out HCK.out trivial trivial) (.of_below HDR.out) trivial trivial)
            have HBW17 : Hid (KeepL [bl] w wi.drew) := Lib.hid (((KeepL.of_below HBW5.out).trans HKJ.out).trans (KeepL.of_below HDR.out))
            have HSW : Hid (∀ W, Below wi.heap.size wi W → SdBox w.heap.size N (.slice A' m c') ((q : Int) + 1) n W) := Lib.hid fun W hW => ((HBX5.out.ck HCK.out trivial trivial trivial).far hW).cells
            have HS5 : Hid (∀ W, Below wi.heap.size wi W → W.cell? ⟨N, 5, none⟩ = some (.slice As s.sents.length cs)) := Lib.hid fun W hW => by rw [(HNE.out.far hW).blk.cell]; rfl
            clear n5 c0 c1 c2 c3
            refine wp_region_held_drew (S := (fun W => SdBox w.heap.size N (.slice A' m c') ((q : Int) + 1) n W)) (by kernel_rfl) ?_ (fun hHeld => ?_)
            · (try dsimp only); first | exact HB9'.out | exact HB9.out | exact HSW.out _ HDR.out | exact HSW.out _ (below_alloc_drew _ _)
            refine wpAnyH_take (i := 0) (oi := ⟨some 100, _, _, _, _, _⟩) (v := ?_) rfl (by kernel_rfl) (by kernel_rfl) (by kernel_rfl) (fun _ _ _ h => h) (Or.inl ⟨by rfl, ?_⟩) (by assumption) ?_; rotate_left
            · intro w hSw; (try dsimp only at hSw); go_simp; try with_reducible rfl
            try simp only [Act.put, setIfInBounds_toArray, set_cons_zero, set_cons_succ]
            refine wpAnyH_take (i := 1) (oi := ⟨some 101, _, _, _, _, _⟩) (v := ?_) rfl (by kernel_rfl) (by kernel_rfl) (by kernel_rfl) (fun _ _ _ h => h) (Or.inl ⟨by rfl, ?_⟩) (by assumption) ?_; rotate_left
            · intro w hSw; (try dsimp only at hSw); go_simp; try with_reducible rfl
            try simp only [Act.put, setIfInBounds_toArray, set_cons_zero, set_cons_succ]
            refine wpAnyH_take (i := 2) (oi := ⟨some 102, _, _, _, _, _⟩) (v := ?_) rfl (by kernel_rfl) (by kernel_rfl) (by kernel_rfl) (fun _ _ _ h => h) (Or.inl ⟨by rfl, ?_⟩) (by assumption) ?_; rotate_left
            · intro w hSw; (try dsimp only at hSw); go_simp; try with_reducible rfl
            try simp only [Act.put, setIfInBounds_toArray, set_cons_zero, set_cons_succ]
            refine wpAnyH_take (i := 3) (oi := ⟨some 103, _, _, _, _, _⟩) (v := ?_) rfl (by kernel_rfl) (by kernel_rfl) (by kernel_rfl) (fun _ _ _ h => h) (Or.inl ⟨by rfl, ?_⟩) (by assumption) ?_; rotate_left
            · intro w hSw; (try dsimp only at hSw); go_simp; try with_reducible rfl
            try simp only [Act.put, setIfInBounds_toArray, set_cons_zero, set_cons_succ]
            refine wpAnyH_take (i := 5) (oi := ⟨some 105, _, _, _, _, _⟩) (v := ?_) rfl (by kernel_rfl) (by kernel_rfl) (by kernel_rfl) (fun _ _ _ h => h) (Or.inl ⟨by rfl, ?_⟩) (by assumption) ?_; rotate_left
            · intro w hSw; (try dsimp only at hSw); go_simp; try with_reducible rfl
            try simp only [Act.put, setIfInBounds_toArray, set_cons_zero, set_cons_succ]
            refine wpAnyH_take (i := 6) (oi := ⟨some 106, _, _, _, _, _⟩) (v := ?_) rfl (by kernel_rfl) (by kernel_rfl) (by kernel_rfl) (fun _ _ _ h => h) (Or.inl ⟨by rfl, ?_⟩) (by assumption) ?_; rotate_left
            · intro w hSw; (try dsimp only at hSw); go_simp; try with_reducible rfl
            try simp only [Act.put, setIfInBounds_toArray, set_cons_zero, set_cons_succ]
            refine wpAnyH_take (i := 7) (oi := ⟨some 107, _, _, _, _, _⟩) (v := ?_) rfl (by kernel_rfl) (by kernel_rfl) (by kernel_rfl) (fun _ _ _ h => h) (Or.inl ⟨by rfl, ?_⟩) (by assumption) ?_; rotate_left
            · intro w hSw; (try dsimp only at hSw); go_simp; try with_reducible rfl
            try simp only [Act.put, setIfInBounds_toArray, set_cons_zero, set_cons_succ]
            refine wpAnyH_take (i := 8) (oi := ⟨some 108, _, _, _, _, _⟩) (v := ?_) rfl (by kernel_rfl) (by kernel_rfl) (by kernel_rfl) (fun _ _ _ h => h) (Or.inl ⟨by rfl, ?_⟩) (by assumption) ?_; rotate_left
            · intro w hSw; (try dsimp only at hSw); go_simp; try with_reducible rfl
            try simp only [Act.put, setIfInBounds_toArray, set_cons_zero, set_cons_succ]
            refine wpAnyH_take (i := 9) (oi := ⟨some 109, _, _, _, _, _⟩) (v := ?_) rfl (by kernel_rfl) (by kernel_rfl) (by kernel_rfl) (fun _ _ _ h => h) (Or.inl ⟨by rfl, ?_⟩) (by assumption) ?_; rotate_left
            · intro w hSw; (try dsimp only at hSw); go_simp; try with_reducible rfl
            try simp only [Act.put, setIfInBounds_toArray, set_cons_zero, set_cons_succ]
            refine wpAnyH_take (i := 10) (oi := ⟨some 110, _, _, _, _, _⟩) (v := ?_) rfl (by kernel_rfl) (by kernel_rfl) (by kernel_rfl) (fun _ _ _ h => h) (Or.inl ⟨by rfl, ?_⟩) (by assumption) ?_; rotate_left
            · intro w hSw; (try dsimp only at hSw); go_simp; try with_reducible rfl
            try simp only [Act.put, setIfInBounds_toArray, set_cons_zero, set_cons_succ]
            refine wpAnyH_take (i := 11) (oi := ⟨some 111, _, _, _, _, _⟩) (v := ?_) rfl (by kernel_rfl) (by kernel_rfl) (by kernel_rfl) (fun _ _ _ h => h) (Or.inl ⟨by rfl, ?_⟩) (by assumption) ?_; rotate_left
            · intro w hSw; (try dsimp only at hSw); go_simp; try with_reducible rfl
            try simp only [Act.put, setIfInBounds_toArray, set_cons_zero, set_cons_succ]
            refine wpAnyH_ready (rs := [4, 12]) (by kernel_rfl) (by simp) ?_
            refine AllReadyH.cons (o := ⟨some 104, _, _, _, _, _⟩) rfl (fun K hK => ?_) ?_
            · skip
              have n5 := HS5.out _ HDR.out
              go_simp
              refine hK.out _ _ ?_ (fun hHeld => ?_)
              · (try dsimp only); first | exact HB9'.out | exact HB9.out | exact HSW.out _ HDR.out | exact HSW.out _ (below_alloc_drew _ _)
              clear hK K
              try simp only [Act.put, setIfInBounds_toArray, set_cons_zero, set_cons_succ]
              refine wpAnyH_ready (rs := [12]) (by kernel_rfl) (by simp) ?_
              refine AllReadyH.cons (o := ⟨some 112, _, _, _, _, _⟩) rfl (fun K hK => ?_) AllReadyH.nil
              go_simp
              refine hK.out _ _ ?_ (fun hHeld => ?_)
              · (try dsimp only); first | exact HB9'.out | exact HB9.out | exact HSW.out _ HDR.out | exact HSW.out _ (below_alloc_drew _ _)
              clear hK K
              try simp only [Act.put, setIfInBounds_toArray, set_cons_zero, set_cons_succ]
              refine wpAnyH_ready (rs := [13]) (by kernel_rfl) (by simp) ?_
              refine AllReadyH.cons (o := ⟨some 113, _, _, _, _, _⟩) rfl (fun K hK => ?_) AllReadyH.nil
              refine step_pushS (wa := wi.drew) (us := #[.int .i64 ((s.sents.length : Int) + 1), .int .i64 ((q : Int) + 1), .int .i64 n, .slice (some ⟨g, 0, none⟩) j gc, .slice (some ⟨sb, 0, none⟩) j j]) (tu := 102) elB_sent (.tmp 104) (.tmp 112) rfl rfl 0 s.sents.length vals rfl HOV17.out rfl rfl (sent_cells _ _ _ _ _ _ _ _ _) (by omega) (by decide) (Nat.zero_le _) ?_
              intro v9 w9 hown9 hb9 hg9 hlies
              obtain ⟨A9, d9, rfl, hd9⟩ := own_form hown9
              have HC9 := Lib.hid (CK.grown_row HOV17.out hg9)
              have hkb9 := HC9.out _ _ _ (by decide) HNE17.out.blk
              have q5 := hkb9.cell 5
              have qf := hkb9.froz 5
              simp only [List.getElem?_toArray, List.getElem?_cons_succ, List.getElem?_cons_zero] at q5
              have hbx9 := HBX17.out.ck HC9.out (by decide) (by decide) (by decide)
              have HB9 := Lib.hid hbx9.cells
              have HB9' : Hid (SdBox w.heap.size N (.slice A' m c') ((q : Int) + 1) n (w9.setCell ⟨N, 5, none⟩ (.slice A9 (s.sents.length + 1) d9))) := Lib.hid (hbx9.ck (CK.setCell hkb9) (by decide) (by decide) (by decide)).cells
              have HN9 : Hid (NetAt (w9.setCell ⟨N, 5, none⟩ (.slice A9 (s.sents.length + 1) d9)) N (sendN s a b sec co n j q) bn bl vh (.slice A9 (s.sents.length + 1) d9)) := Lib.hid (by
                have hpush := SentsAt.push (x := ⟨(s.sents.length : Int) + 1, (q : Int) + 1, n, sendPs s a b n j, sendSh sec co q n j⟩) HOV17.out HVV17.out (by rw [HPS.out]; exact HROW17.out) HSHR17.out hown9 hg9
                have := HNE17.out.sent_to (x := ⟨(s.sents.length : Int) + 1, (q : Int) + 1, n, sendPs s a b n j, sendSh sec co q n j⟩) (by rw [HSAME.out.2.2.2.2.2.2]; exact HOV17.out) hg9 (by rw [HSAME.out.2.2.2.2.2.2]; exact hpush)
                rw [HSAME.out.2.2.2.2.2.2] at this
                exact this)
              have HL9 := Lib.hid (lies_new hlies (w0 := w.heap.size) (by have := HBW17.out.size; omega))
              have HK9 : Hid (KeepL (N :: bl :: (Value.slice As s.sents.length cs).ownBlock.toList) w (w9.setCell ⟨N, 5, none⟩ (.slice A9 (s.sents.length + 1) d9))) := Lib.hid (by
                refine ((HBW17.out.sub (fun k hk => ?_)).trans (KeepL.grown hg9 (fun k hk _ => ?_))).trans ((KeepL.set _ _ _ _).sub (fun k hk => ?_))
                · rw [List.mem_singleton] at hk; subst hk; exact List.mem_cons_of_mem _ List.mem_cons_self
                · exact List.mem_cons_of_mem _ (List.mem_cons_of_mem _ (by rw [Option.mem_toList]; exact hk))
                · rw [List.mem_singleton] at hk; subst hk; exact List.mem_cons_self)
              clear hown9 hb9 hg9 hkb9 hlies hbx9
              refine hK.out _ _ ?_ (fun hHeld => ?_)
              · (try dsimp only); first | exact HB9'.out | exact HB9.out | exact HSW.out _ HDR.out | exact HSW.out _ (below_alloc_drew _ _)
              clear hK K
              try simp only [Act.put, setIfInBounds_toArray, set_cons_zero, set_cons_succ]
              refine wpAnyH_take (i := 14) (oi := ⟨some 114, _, _, _, _, _⟩) (v := ?_) rfl (by kernel_rfl) (by kernel_rfl) (by kernel_rfl) (fun _ _ _ h => h) (Or.inl ⟨by rfl, ?_⟩) (by assumption) ?_; rotate_left
              · intro w hSw; (try dsimp only at hSw); go_simp; try with_reducible rfl
              try simp only [Act.put, setIfInBounds_toArray, set_cons_zero, set_cons_succ]
              refine wpAnyH_take (i := 15) (oi := ⟨some 115, _, _, _, _, _⟩) (v := ?_) rfl (by kernel_rfl) (by kernel_rfl) (by kernel_rfl) (fun _ _ _ h => h) (Or.inl ⟨by rfl, ?_⟩) (by assumption) ?_; rotate_left
              · intro w hSw; (try dsimp only at hSw); go_simp; try with_reducible rfl
              try simp only [Act.put, setIfInBounds_toArray, set_cons_zero, set_cons_succ]
              refine wpAnyH_ready (rs := [16]) (by kernel_rfl) (by simp) ?_
              refine AllReadyH.cons (o := ⟨none, _, _, _, _, _⟩) rfl (fun K hK => ?_) AllReadyH.nil
              go_simp
              refine hK.out _ _ ?_ (fun hHeld => ?_)
              · (try dsimp only); first | exact HB9'.out | exact HB9.out | exact HSW.out _ HDR.out | exact HSW.out _ (below_alloc_drew _ _)
              clear hK K
              try simp only [Act.put]
              refine wpAnyH_done (by kernel_rfl) ?_ _
              go_wp2_with fail
              refine bodyPost_ret (a := Act.mk _ _) (results_tmp2 rfl _ _ _) rfl ?_
              exact ⟨(s.sents.length : Int) + 1, 0, rfl, .inr ⟨rfl, HEV.out.symm, by rw [Int.toNat_natCast]; exact HP.out, rfl, _, by rw [Int.toNat_natCast, show ((q : Int) + 1).toNat - 1 = q by omega]; exact HN9.out, HK9.out, HL9.out⟩⟩
            refine AllReadyH.cons (o := ⟨some 112, _, _, _, _, _⟩) rfl (fun K hK => ?_) AllReadyH.nil
            go_simp
            refine hK.out _ _ ?_ (fun hHeld => ?_)
            · (try dsimp only); first | exact HB9'.out | exact HB9.out | exact HSW.out _ HDR.out | exact HSW.out _ (below_alloc_drew _ _)
            clear hK K
            try simp only [Act.put, setIfInBounds_toArray, set_cons_zero, set_cons_succ]
            refine wpAnyH_ready (rs := [4]) (by kernel_rfl) (by simp) ?_
            refine AllReadyH.cons (o := ⟨some 104, _, _, _, _, _⟩) rfl (fun K hK => ?_) AllReadyH.nil
            have n5 := HS5.out _ (below_alloc_drew wi (.cells #[.int .i64 ((s.sents.length : Int) + 1), .int .i64 ((q : Int) + 1), .int .i64 n, .slice (some ⟨g, 0, none⟩) j gc, .slice (some ⟨sb, 0, none⟩) j j] 102))
            go_simp
            refine hK.out _ _ ?_ (fun hHeld => ?_)
            · (try dsimp only); first | exact HB9'.out | exact HB9.out | exact HSW.out _ HDR.out | exact HSW.out _ (below_alloc_drew _ _)
            clear hK K
            try simp only [Act.put, setIfInBounds_toArray, set_cons_zero, set_cons_succ]
            refine wpAnyH_ready (rs := [13]) (by kernel_rfl) (by simp) ?_
            refine AllReadyH.cons (o := ⟨some 113, _, _, _, _, _⟩) rfl (fun K hK => ?_) AllReadyH.nil
            refine step_pushS (wa := wi.drew) (us := #[.int .i64 ((s.sents.length : Int) + 1), .int .i64 ((q : Int) + 1), .int .i64 n, .slice (some ⟨g, 0, none⟩) j gc, .slice (some ⟨sb, 0, none⟩) j j]) (tu := 102) elB_sent (.tmp 104) (.tmp 112) rfl rfl 0 s.sents.length vals rfl HOV17.out rfl rfl (sent_cells _ _ _ _ _ _ _ _ _) (by omega) (by decide) (Nat.zero_le _) ?_
            intro v9 w9 hown9 hb9 hg9 hlies
            obtain ⟨A9, d9, rfl, hd9⟩ := own_form hown9
            have HC9 := Lib.hid (CK.grown_row HOV17.out hg9)
            have hkb9 := HC9.out _ _ _ (by decide) HNE17.out.blk
            have q5 := hkb9.cell 5
            have qf := hkb9.froz 5
            simp only [List.getElem?_toArray, List.getElem?_cons_succ, List.getElem?_cons_zero] at q5
            have hbx9 := HBX17.out.ck HC9.out (by decide) (by decide) (by decide)
            have HB9 := Lib.hid hbx9.cells
            have HB9' : Hid (SdBox w.heap.size N (.slice A' m c') ((q : Int) + 1) n (w9.setCell ⟨N, 5, none⟩ (.slice A9 (s.sents.length + 1) d9))) := Lib.hid (hbx9.ck (CK.setCell hkb9) (by decide) (by decide) (by decide)).cells
            have HN9 : Hid (NetAt (w9.setCell ⟨N, 5, none⟩ (.slice A9 (s.sents.length + 1) d9)) N (sendN s a b sec co n j q) bn bl vh (.slice A9 (s.sents.length + 1) d9)) := Lib.hid (by
              have hpush := SentsAt.push (x := ⟨(s.sents.length : Int) + 1, (q : Int) + 1, n, sendPs s a b n j, sendSh sec co q n j⟩) HOV17.out HVV17.out (by rw [HPS.out]; exact HROW17.out) HSHR17.out hown9 hg9
              have := HNE17.out.sent_to (x := ⟨(s.sents.length : Int) + 1, (q : Int) + 1, n, sendPs s a b n j, sendSh sec co q n j⟩) (by rw [HSAME.out.2.2.2.2.2.2]; exact HOV17.out) hg9 (by rw [HSAME.out.2.2.2.2.2.2]; exact hpush)
              rw [HSAME.out.2.2.2.2.2.2] at this
              exact this)
            have HL9 := Lib.hid (lies_new hlies (w0 := w.heap.size) (by have := HBW17.out.size; omega))
            have HK9 : Hid (KeepL (N :: bl :: (Value.slice As s.sents.length cs).ownBlock.toList) w (w9.setCell ⟨N, 5, none⟩ (.slice A9 (s.sents.length + 1) d9))) := Lib.hid (by
              refine ((HBW17.out.sub (fun k hk => ?_)).trans (KeepL.grown hg9 (fun k hk _ => ?_))).trans ((KeepL.set _ _ _ _).sub (fun k hk => ?_))
              · rw [List.mem_singleton] at hk; subst hk; exact List.mem_cons_of_mem _ List.mem_cons_self
              · exact List.mem_cons_of_mem _ (List.mem_cons_of_mem _ (by rw [Option.mem_toList]; exact hk))
              · rw [List.mem_singleton] at hk; subst hk; exact List.mem_cons_self)
            clear hown9 hb9 hg9 hkb9 hlies hbx9
            refine hK.out _ _ ?_ (fun hHeld => ?_)
            · (try dsimp only); first | exact HB9'.out | exact HB9.out | exact HSW.out _ HDR.out | exact HSW.out _ (below_alloc_drew _ _)
            clear hK K
            try simp only [Act.put, setIfInBounds_toArray, set_cons_zero, set_cons_succ]
            refine wpAnyH_take (i := 14) (oi := ⟨some 114, _, _, _, _, _⟩) (v := ?_) rfl (by kernel_rfl) (by kernel_rfl) (by kernel_rfl) (fun _ _ _ h => h) (Or.inl ⟨by rfl, ?_⟩) (by assumption) ?_; rotate_left
            · intro w hSw; (try dsimp only at hSw); go_simp; try with_reducible rfl
            try simp only [Act.put, setIfInBounds_toArray, set_cons_zero, set_cons_succ]
            refine wpAnyH_take (i := 15) (oi := ⟨some 115, _, _, _, _, _⟩) (v := ?_) rfl (by kernel_rfl) (by kernel_rfl) (by kernel_rfl) (fun _ _ _ h => h) (Or.inl ⟨by rfl, ?_⟩) (by assumption) ?_; rotate_left
            · intro w hSw; (try dsimp only at hSw); go_simp; try with_reducible rfl
            try simp only [Act.put, setIfInBounds_toArray, set_cons_zero, set_cons_succ]
            refine wpAnyH_ready (rs := [16]) (by kernel_rfl) (by simp) ?_
            refine AllReadyH.cons (o := ⟨none, _, _, _, _, _⟩) rfl (fun K hK => ?_) AllReadyH.nil
            go_simp
            refine hK.out _ _ ?_ (fun hHeld => ?_)
            · (try dsimp only); first | exact HB9'.out | exact HB9.out | exact HSW.out _ HDR.out | exact HSW.out _ (below_alloc_drew _ _)
            clear hK K
            try simp only [Act.put]
            refine wpAnyH_done (by kernel_rfl) ?_ _
            go_wp2_with fail
            refine bodyPost_ret (a := Act.mk _ _) (results_tmp2 rfl _ _ _) rfl ?_
            exact ⟨(s.sents.length : Int) + 1, 0, rfl, .inr ⟨rfl, HEV.out.symm, by rw [Int.toNat_natCast]; exact HP.out, rfl, _, by rw [Int.toNat_natCast, show ((q : Int) + 1).toNat - 1 = q by omega]; exact HN9.out, HK9.out, HL9.out⟩⟩
    · have hb0 : (ev != 0) = true := by simp [h0]
      go_wp2_with fail
      refine bodyPost_ret (a := Act.mk _ _) (results_tmp2 rfl _ _ _) rfl ?_
      exact ⟨0, ev, rfl, .inl ⟨h0, .inl HEV.out, rfl, HN2.out, HB2.out⟩⟩
def oneE (s : NS) (x : Nm) : Int := if namedB x = true then (if x ∈ s.nodes then 0 else 9) else 2
set_option maxHeartbeats 1000000 in
theorem one1_any {w : World} {N : Nat} {s : NS} {bn bl : Nat} {vh vs : Value} (h : NetAt w N s bn bl vh vs) (x : Nm) (hx : x.length ≤ maxLen) (p0 p1 : Nat)
    (h0 : w.cell? ⟨p0, 0, none⟩ = some (encS x)) (h1 : w.cell? ⟨p1, 0, none⟩ = some (.pointer (some ⟨N, 0, none⟩))) :
    Calls Tryz.prog 74 #[.pointer (some ⟨p0, 0, none⟩), .pointer (some ⟨p1, 0, none⟩)] w (AnsN (oneE s x) w) := by
  have HNM := Lib.hid (named_any x w)
  have HH := Lib.hid (hasN_any h x hx)
  have HU : Hid (∀ w, namedB x = true → Calls Tryz.prog 14 #[.bool (!decide (x ∈ s.nodes)), .int .i64 9] w (CondP (oneE s x) w)) := Lib.hid fun w hm => unless_P _ 9 _ w (by
    unfold oneE
    rw [if_pos hm]
    by_cases h1 : x ∈ s.nodes <;> simp [h1])
  have HE : Hid (namedB x = false → oneE s x = 2) := Lib.hid fun hm => by unfold oneE; rw [if_neg (by simp [hm])]
  generalize oneE s x = ev at *
  generalize decide (x ∈ s.nodes) = z at *
  generalize namedB x = y at *
  clear h
  go_enter Tryz.func74, Tryz.ntmps74
  go_wp2_with fail
  refine HNM.out.mono ?_
  rintro e w' ⟨rfl, rfl⟩
  cases y with
  | false =>
    go_wp2_with fail
    go_ret
    exact ⟨by rw [HE.out (by simp)]; rfl, Below.refl _ _⟩
  | true =>
    go_wp2_with fail
    refine HH.out.mono ?_
    rintro e w' ⟨rfl, rfl⟩
    go_wp2_with fail
    refine (HU.out _ (by simp)).mono ?_
    rintro e w1 ⟨f, rfl, ⟨fn, cap, rfl, hen, hcl⟩, hb1⟩
    have HC := Lib.hid (hcl w1 (Below.refl _ _)); have HB1 := Lib.hid hb1
    have hen1 := hen w1
    clear hen hcl hb1
    go_wp2_with fail
    refine HC.out.mono ?_
    clear HC hen1
    rintro e w2 ⟨rfl, hb2⟩
    have HB2 := Lib.hid hb2; clear hb2
    go_wp2_with fail
    go_ret
    exact ⟨rfl, bnextK HB1.out HB2.out⟩
set_option maxHeartbeats 1000000 in
theorem one_any {w : World} {N : Nat} {s : NS} {bn bl : Nat} {vh vs : Value} (h : NetAt w N s bn bl vh vs) (x : Nm) (hx : x.length ≤ maxLen) :
    Calls Tryz.prog 51 #[.pointer (some ⟨N, 0, none⟩), encS x] w (CondP (oneE s x) w) := by
  have hmf : ∀ (fn : Fn) (first cap : Array Value) (w : World), (Instr.makeFunc fn first cap).run Tryz.prog w = .ok (.func fn first cap) w := fun _ _ _ _ => rfl
  have HF : Hid (CondOK ((w.alloc (.cells #[.pointer (some ⟨N, 0, none⟩)] 24)).alloc (.cells #[encS x] 9)) (.func (.func 74) #[] #[.pointer (some ⟨w.heap.size + 1, 0, none⟩), .pointer (some ⟨w.heap.size, 0, none⟩)]) (oneE s x)) := Lib.hid (by
    refine ⟨_, _, rfl, enters_of Tryz.func74 (by kernel_rfl) rfl _, fun W hW => ?_⟩
    obtain ⟨k0, k1⟩ := boxes2 w #[.pointer (some ⟨N, 0, none⟩)] #[encS x] 24 9
    have hN := (h.far (alloc2_below w (.cells #[.pointer (some ⟨N, 0, none⟩)] 24) (.cells #[encS x] 9))).far hW
    exact one1_any hN x hx _ _ (by rw [(k1.past hW k1.lt).cell]; rfl) (by rw [(k0.past hW k0.lt).cell]; rfl))
  clear h
  go_enter Tryz.func51, Tryz.ntmps51
  go_wp2_with fail
  go_ret
  exact ⟨_, rfl, HF.out, alloc2_below _ _ _⟩
theorem moves_held (f sp : Int) (q : Nm × Nm) : ∀ (ps : List (List Nm)) (s : NS), (∀ p ∈ ps, p.Nodup) → ((moves s ps f 0 sp).lk q).held = (s.lk q).held
  | [], s, _ => rfl
  | p :: ps, s, hp => by
    refine (moves_held f sp q ps (moveG s p f 0 sp) (fun r hr => hp r (by simp [hr]))).trans ?_
    rw [moveG_lk (hp p (by simp))]
    split
    · show (s.lk q).held + 0 = _
      omega
    · rfl
theorem GoodN.len16 {s : NS} {bits : Int} {a b : Nm} {p : List Nm} (h : GoodN s bits a b p) (hok : NSOK s) : p.length ≤ 16 := Nat.le_trans (nodup_sub_len h.nodup h.mem) hok.nn
theorem send_ok {s : NS} (hok : NSOK s) (h : NI s) {a b : Nm} (sec co : List Nat) {n m k : Nat} {need : Int} (q : Nat) (he : sendE s a b n k need m = 0) (hp : pathsG s (8 * (n : Int)) a b k ≠ []) :
    NSOK (sendN s a b sec co n k q) ∧ NI (sendN s a b sec co n k q) ∧ Step s (sendN s a b sec co n k q) := by
  obtain ⟨_, _, hab, hma, hmb, hn, hk, _, _, hfull⟩ := sendE_zero he
  obtain ⟨hlen, hgood, hap, _⟩ := pathsN hok hma hmb hab hp
  have hnd : ∀ p ∈ sendPs s a b n k, p.Nodup := fun p hp => (hgood p hp).nodup
  have hmv := moves_send_ok hok hma hmb hab hp (sendPs s a b n k).length
  rw [List.take_length] at hmv
  obtain ⟨e1, e2, e3, e4, e5, e6, e7⟩ := moves_same (-8 * (n : Int)) 0 (8 * (n : Int)) (sendPs s a b n k) s
  have hst := Step.moves (f := -8 * (n : Int)) (h := 0) (sp := 8 * (n : Int)) (by omega) (sendPs s a b n k) s hnd
  have hps : (sendPs s a b n k).length = k := by unfold sendPs; rw [List.length_map]; exact hlen
  have hnew : ∀ p ∈ sendPs s a b n k, 2 ≤ p.length ∧ p.length ≤ 16 := fun p hp => ⟨(hgood p hp).len, (hgood p hp).len16 hok⟩
  refine ⟨hmv.to rfl rfl rfl rfl, ⟨?_, ?_, ?_, ?_, fun y hy z hz => ?_⟩, ⟨hst.nodes, hst.pairs, hst.fen, hst.cap, hst.now, hst.sum, [_], rfl, fun t ht p hp x hx => ?_⟩⟩
  · show HeldBy _ (moves s (sendPs s a b n k) (-8 * (n : Int)) 0 (8 * (n : Int))).holds
    rw [e6]
    exact h.held.to e1 e3 (fun q _ => moves_held _ _ q _ s hnd)
  · show (moves s (sendPs s a b n k) (-8 * (n : Int)) 0 (8 * (n : Int))).holds.length ≤ 64
    rw [e6]; exact h.hl
  · show (s.sents ++ [_]).length ≤ 256
    have := h.sl
    simp; omega
  · intro t ht
    rcases List.mem_append.1 ht with h1 | h1
    · exact h.tok t h1
    · rw [List.mem_singleton] at h1
      subst h1
      exact ⟨by show 1 ≤ (sendPs s a b n k).length; omega, by show (sendPs s a b n k).length ≤ 16; omega, hnew⟩
  · have hy : y ∈ (moves s (sendPs s a b n k) (-8 * (n : Int)) 0 (8 * (n : Int))).holds := hy
    rw [e6] at hy
    show (moves s (sendPs s a b n k) (-8 * (n : Int)) 0 (8 * (n : Int))).fen z = false
    rw [e2]; exact h.clr y hy z hz
  · rw [List.mem_singleton] at ht
    subst ht
    have hp : p ∈ sendPs s a b n k := hp
    have h1 := (hgood p hp).fen x hx
    have h2 := (hgood p hp).mem x hx
    unfold fenB at h1
    simpa [h2] using h1
end Go.Proofs.YtblilfbhohnbgaaGreat
