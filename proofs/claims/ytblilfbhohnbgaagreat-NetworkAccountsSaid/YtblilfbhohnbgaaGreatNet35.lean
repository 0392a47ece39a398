/- The contracts of Route and Most. Conditions: as each statement says. -/
import Derived.Test.YtblilfbhohnbgaaGreatNet32
import Derived.Test.YtblilfbhohnbgaaGreatNet16
import Derived.Test.YtblilfbhohnbgaaGreatNet13
import Derived.Test.YtblilfbhohnbgaaGreatNet22
import Derived.Test.YtblilfbhohnbgaaGreatNet30
import Derived.Test.YtblilfbhohnbgaaGreatBase
import Derived.Test.YtblilfbhohnbgaaGreatNet18
import Derived.Test.YtblilfbhohnbgaaGreatTail
namespace Go.Proofs.YtblilfbhohnbgaaGreat
open List (setIfInBounds_toArray set_cons_zero set_cons_succ)
open Go.RowKit
set_option linter.unusedVariables false
/-- The place of a name. -/
def ixN (s : NS) (a : Nm) : Nat := (namesG s).idxOf a
theorem ixN_get {s : NS} {a : Nm} (h : a ∈ s.nodes) : (namesG s)[ixN s a]? = some a := by
  have hm := namesG_mem.2 h
  have hlt : (namesG s).idxOf a < (namesG s).length := List.idxOf_lt_length_of_mem hm
  unfold ixN
  rw [List.getElem?_eq_getElem hlt, List.getElem_idxOf hlt]
theorem ixN_lt {s : NS} {a : Nm} (h : a ∈ s.nodes) : ixN s a < s.nodes.length := by
  have := (List.getElem?_eq_some_iff.1 (ixN_get h)).1
  rwa [namesG_len] at this
theorem ixN_ne {s : NS} {a b : Nm} (ha : a ∈ s.nodes) (hb : b ∈ s.nodes) (h : a ≠ b) : ixN s a ≠ ixN s b := fun e => by
  have h1 := ixN_get ha
  rw [e, ixN_get hb] at h1
  injection h1 with h1
  exact h h1.symm
theorem firstE3 {x y z : Int} (h : firstE [x, y, z] = 0) : x = 0 ∧ y = 0 ∧ z = 0 := by
  simp only [firstE] at h
  split at h
  · split at h
    · split at h
      · exact ⟨by assumption, by assumption, by assumption⟩
      · contradiction
    · contradiction
  · contradiction
theorem firstE2 {x y : Int} (h : firstE [x, y] = 0) : x = 0 ∧ y = 0 := by
  simp only [firstE] at h
  split at h
  · split at h
    · exact ⟨by assumption, by assumption⟩
    · contradiction
  · contradiction
theorem endsE_zero {s : NS} {a b : Nm} (h : endsE s a b = 0) : namedB a = true ∧ namedB b = true ∧ a ≠ b ∧ a ∈ s.nodes ∧ b ∈ s.nodes ∧ fenB s a = false ∧ fenB s b = false := by
  obtain ⟨h1, h2, h3⟩ := firstE3 h
  unfold twoE at h1; unfold bothE at h2; unfold fenE at h3
  split at h1
  case isFalse => omega
  split at h2
  case isFalse => omega
  split at h3
  case isTrue => omega
  rename_i k1 k2 k3
  rw [Bool.not_eq_true, Bool.or_eq_false_iff] at k3
  exact ⟨k1.1, k1.2.1, k1.2.2, k2.1, k2.2, k3.1, k3.2⟩
theorem amtE_zero {n : Int} (h : amtE n = 0) : 1 ≤ n ∧ n ≤ 65536 := by
  unfold amtE at h
  split at h
  · assumption
  · omega
/-- The paths that are chosen, as places. -/
def pathsG (s : NS) (bits : Int) (a b : Nm) (k : Nat) : List (List Nat) := chooseG (graphG s bits) (ixN s a) (ixN s b) k
theorem ChP.of {s : NS} {bits : Int} {a b : Nm} {k : Nat} {w : World} {e : Ending} {w' : World} (hk : 1 ≤ k) (h : ChP (namesG s) (graphG s bits) (ixN s a) (ixN s b) k w e w') :
    (∃ v, e = .returned v ∧ (pathsG s bits a b k = [] → v = .slice none 0 0) ∧ (pathsG s bits a b k ≠ [] → OutAt w' w.heap.size (namesG s) v (pathsG s bits a b k))) ∧ Below w.heap.size w w' := by
  obtain ⟨⟨v, rfl, h1⟩, h2⟩ := h
  refine ⟨⟨v, rfl, ?_⟩, h2⟩
  unfold pathsG chooseG
  split at h1
  · rename_i hc
    rw [if_pos hc]
    exact ⟨fun _ => h1, fun h => absurd rfl h⟩
  · rename_i hc
    rw [if_neg hc]
    exact ⟨h1.2, fun _ => h1.1⟩
theorem choose_names {w : World} {G : Nat} {s : NS} {bits : Int} (h : GX w w.heap.size G (namesG s) (graphG s bits)) (hok : NSOK s) (a b : Nm) (ha : a ∈ s.nodes) (hb : b ∈ s.nodes) (hab : a ≠ b) (k : Nat) (hk1 : 1 ≤ k) (hk : k ≤ 1000) :
    Calls Tryz.prog 45 #[.pointer (some ⟨G, 0, none⟩), encS a, encS b, .int .i64 (k : Int)] w fun e w' => (∃ v, e = .returned v ∧ (pathsG s bits a b k = [] → v = .slice none 0 0) ∧ (pathsG s bits a b k ≠ [] → OutAt w' w.heap.size (namesG s) v (pathsG s bits a b k))) ∧ Below w.heap.size w w' :=
  (choose_any h (namesG_lt hok.nod) (ixN s a) (ixN s b) k a b (ixN_get ha) (ixN_get hb) (ixN_ne ha hb hab) hk1 hk).mono fun e w' h => ChP.of hk1 h
/-- A list of paths in memory. -/
theorem OutAt.slice {w : World} {n₀ : Nat} {ns : List Nm} {v : Value} {acc : List (List Nat)} (h : OutAt w n₀ ns v acc) (h0 : acc ≠ []) : ∃ g cap cur, v = .slice (some ⟨g, 0, none⟩) acc.length cap ∧ acc.length ≤ cap ∧ n₀ ≤ g ∧ Bk w g cur 28 ∧ ∀ (i : Nat) (p : List Nat), acc[i]? = some p → ∃ u, cur[i]? = some u ∧ RowAt w ns u p := by
  obtain ⟨vals, h1, h2⟩ := h
  rcases h1.2 with ⟨_, h3⟩ | ⟨g, cap, cur, hv, hg1, hh, hcap, _, _, htk⟩
  · exact absurd (List.length_eq_zero_iff.1 h3) h0
  · refine ⟨g, cap, cur, hv, hcap, hg1, hh, fun i p hp => ?_⟩
    obtain ⟨u, q1, q2⟩ := h2 i p hp
    have hi := (List.getElem?_eq_some_iff.1 hp).1
    rw [← htk, List.getElem?_take, if_pos (by omega), Array.getElem?_toList] at q1
    exact ⟨u, q1, q2⟩
theorem eql_nil_rows (w : World) : (binOp BinOp.eql 88 (.slice none 0 0) (.slice none 0 0)).run Tryz.prog w = .ok (.bool true) w := by kernel_rfl
theorem eql_some_rows (g n c : Nat) (w : World) : (binOp BinOp.eql 88 (.slice (some ⟨g, 0, none⟩) n c) (.slice none 0 0)).run Tryz.prog w = .ok (.bool false) w := by kernel_rfl
def routeE (s : NS) (a b : Nm) (bits : Int) : Int := firstE [endsE s a b, amtE bits]
/-- What Route hands back. -/
def RouteP (s : NS) (a b : Nm) (bits : Int) (w : World) (e : Ending) (w' : World) : Prop :=
  (∃ v z, e = .returned (.tuple #[v, .int .i64 z]) ∧ ((routeE s a b bits ≠ 0 ∧ z = routeE s a b bits ∧ v = .slice none 0 0) ∨ (routeE s a b bits = 0 ∧ pathsG s bits a b 1 = [] ∧ z = 21 ∧ v = .slice none 0 0) ∨ (routeE s a b bits = 0 ∧ ∃ p l, pathsG s bits a b 1 = p :: l ∧ z = 0 ∧ RowAt w' (namesG s) v p))) ∧ Below w.heap.size w w'
set_option maxRecDepth 100000 in
set_option maxHeartbeats 4000000 in
theorem Route_any {w : World} {N : Nat} {s : NS} {bn bl : Nat} {vh vs : Value} (h : NetAt w N s bn bl vh vs) (a b : Nm) (bits : Int) (ha : a.length ≤ maxLen) (hb : b.length ≤ maxLen) :
    Calls Tryz.prog 32 #[.pointer (some ⟨N, 0, none⟩), encS a, encS b, .int .i64 bits] w (RouteP s a b bits w) := by
  have HE := Lib.hid (ends_any h a b ha hb)
  have HM := Lib.hid (fun W => amount_any bits W)
  have HA : Hid (∀ (W : World) (f1 f2 : Value) (g : Nat), Below w.heap.size w W → CondOK W f1 (endsE s a b) → CondOK W f2 (amtE bits) → W.heap.size = g →
      Calls Tryz.prog 13 #[.pointer (some ⟨N, 0, none⟩), .slice (some ⟨g, 0, none⟩) 2 2] (W.alloc (.cells #[f1, f2] 59)) (AnsN (routeE s a b bits) (W.alloc (.cells #[f1, f2] 59)))) := Lib.hid fun W f1 f2 g hW q1 q2 hg => by
    refine ask_made (h.far hW) [(f1, endsE s a b), (f2, amtE bits)] _ rfl 2 rfl (by omega) ?_ g hg
    intro y hy
    simp only [List.mem_cons, List.not_mem_nil, or_false] at hy
    rcases hy with rfl | rfl
    · exact q1
    · exact q2
  have H := Lib.hid h
  have HZ : Hid (routeE s a b bits = 0 → endsE s a b = 0 ∧ amtE bits = 0) := Lib.hid firstE2
  generalize hz : routeE s a b bits = zv at *
  have HZV := Lib.hid hz
  clear h hz
  go_enter Tryz.func32, Tryz.ntmps32
  go_wp2_with fail
  refine HE.out.mono ?_
  rintro e w3 ⟨f3, rfl, k3, b3⟩
  obtain ⟨fn3, cap3, rfl, _⟩ := id k3
  go_wp2_with fail
  refine (HM.out _).mono ?_
  rintro e w4 ⟨f4, rfl, k4, b4⟩
  obtain ⟨fn4, cap4, rfl, _⟩ := id k4
  go_wp2_with fail
  refine (HA.out w4 _ _ _ (bnextK b3 b4) (k3.far b4) k4 rfl).mono ?_
  rintro e w5 ⟨rfl, b5⟩
  have HB5 : Hid (Below w.heap.size w w5) := Lib.hid (bnextK (bnextK (bnextK b3 b4) (below_alloc _ _)) b5)
  clear b3 b4 b5 k3 k4 HA HM HE
  by_cases h0 : zv = 0
  · obtain ⟨e1, e2⟩ := HZ.out h0
    obtain ⟨_, _, hab, hma, hmb, _, _⟩ := endsE_zero e1
    have hN5 := H.out.far HB5.out
    have HG := Lib.hid (graph_any hN5 bits (by have := List.length_pos_of_mem hma; omega))
    have HOK := Lib.hid H.out.ok
    subst h0
    clear hN5 e1 e2
    go_wp2_with fail
    refine HG.out.mono ?_
    clear HG
    rintro e w6 ⟨G, rfl, hgx, hb6⟩
    have HC := Lib.hid (choose_names hgx HOK.out a b hma hmb hab 1 (by omega) (by omega))
    have HB6 := Lib.hid (bnextK HB5.out hb6)
    clear hgx hb6
    go_wp2_with fail
    refine HC.out.mono ?_
    clear HC
    rintro e w7 ⟨⟨v, rfl, h1, h2⟩, hb7⟩
    have HB7 := Lib.hid (bnextK HB6.out hb7)
    by_cases hp : pathsG s bits a b 1 = []
    · obtain rfl := h1 hp
      have hq := eql_nil_rows
      clear h1 h2 hb7
      go_wp2_with fail
      refine bodyPost_ret (a := Act.mk _ _) (results_tmp2 rfl _ _ _) rfl ?_
      exact ⟨⟨_, _, rfl, .inr (.inl ⟨HZV.out, hp, rfl, rfl⟩)⟩, HB7.out⟩
    · obtain ⟨g, cap, cur, rfl, hcap, _, hbk, hrows⟩ := (h2 hp).slice hp
      obtain ⟨p, l, hpl⟩ : ∃ p l, pathsG s bits a b 1 = p :: l := by
        cases hq : pathsG s bits a b 1 with
        | nil => exact absurd hq hp
        | cons p l => exact ⟨p, l, rfl⟩
      obtain ⟨u, hu, hrow⟩ := hrows 0 p (by rw [hpl]; rfl)
      have cu := hbk.cell 0
      have hq := eql_some_rows g
      rw [hu] at cu
      obtain ⟨h8, c8, cs8, rfl, _⟩ := id hrow
      have HROW := Lib.hid hrow; have HPL := Lib.hid hpl
      rw [hpl] at hcap ⊢
      have hpos : 0 < (p :: l).length := by simp
      generalize (p :: l).length = ln at *
      have hpos' : (0 : Int) < (ln : Int) := by omega
      clear h1 h2 hb7 hbk hrows hrow hpl hu
      go_wp2_with fail
      refine bodyPost_ret (a := Act.mk _ _) (results_tmp2 rfl _ _ _) rfl ?_
      exact ⟨⟨_, _, rfl, .inr (.inr ⟨HZV.out, p, l, HPL.out, rfl, HROW.out⟩)⟩, HB7.out⟩
  · have hb0 : (zv != 0) = true := by simp [h0]
    go_wp2_with fail
    refine bodyPost_ret (a := Act.mk _ _) (results_tmp2 rfl _ _ _) rfl ?_
    exact ⟨⟨_, _, rfl, .inl ⟨by rw [HZV.out]; exact h0, HZV.out.symm, rfl⟩⟩, HB5.out⟩
/-- The names of a path of places. -/
def nmP (s : NS) (p : List Nat) : List Nm := p.map fun i => (namesG s).getD i []
theorem nmP_len (s : NS) (p : List Nat) : (nmP s p).length = p.length := by simp [nmP]
theorem nmP_getD (s : NS) {p : List Nat} {i : Nat} (h : i < p.length) : (nmP s p).getD i [] = (namesG s).getD (p.getD i 0) [] := by
  unfold nmP
  simp [List.getD_eq_getElem?_getD, h]
/-- A path of names that carries some bits. -/
structure GoodN (s : NS) (bits : Int) (a b : Nm) (p : List Nm) : Prop where
  len : 2 ≤ p.length
  first : p.getD 0 [] = a
  last : p.getD (p.length - 1) [] = b
  nodup : p.Nodup
  mem : ∀ x ∈ p, x ∈ s.nodes
  fen : ∀ x ∈ p, fenB s x = false
  link : ∀ i, i + 1 < p.length → lnk p i ∈ s.pairs ∧ bits ≤ (s.lk (lnk p i)).free
theorem has_ltN (s : NS) (x : Int) {i j : Nat} (h : (graphG s x).has i j = true) : i < s.nodes.length ∧ j < s.nodes.length := by
  have hl := namesG_len s
  unfold PG.has at h
  have hi : i < s.nodes.length := by
    rcases Nat.lt_or_ge i s.nodes.length with h1 | h1
    · exact h1
    · exfalso
      have : (graphG s x).adj.getD i [] = [] := by
        show ((namesG s).map (rowG s x)).getD i [] = []
        rw [List.getD_eq_getElem?_getD, List.getElem?_eq_none (by simp; omega)]; rfl
      rw [this] at h
      simp at h
  refine ⟨hi, ?_⟩
  rcases Nat.lt_or_ge j s.nodes.length with h1 | h1
  · exact h1
  · exfalso
    have e : ((graphG s x).adj.getD i []).length = s.nodes.length := by
      show (((namesG s).map (rowG s x)).getD i []).length = _
      rw [List.getD_eq_getElem?_getD, List.getElem?_map, List.getElem?_eq_getElem (by omega)]
      simp [rowG, hl]
    rw [List.getD_eq_getElem?_getD, List.getElem?_eq_none (by omega)] at h
    simp at h
theorem edgeN {s : NS} {x : Int} {i j : Nat} (h : (graphG s x).has i j = true) : i < s.nodes.length ∧ j < s.nodes.length ∧ pairOf ((namesG s).getD i []) ((namesG s).getD j []) ∈ s.pairs ∧ fenB s ((namesG s).getD i []) = false ∧ fenB s ((namesG s).getD j []) = false ∧ x ≤ (s.lk (pairOf ((namesG s).getD i []) ((namesG s).getD j []))).free := by
  obtain ⟨h1, h2⟩ := has_ltN s x h
  rw [graphG_has s x i j h1 h2] at h
  unfold rowE at h
  simp only [Bool.and_eq_true, decide_eq_true_eq, Bool.not_eq_true'] at h
  obtain ⟨⟨⟨⟨q1, q2⟩, q3⟩, q4⟩, q5⟩ := h
  exact ⟨h1, h2, q1, q3, q4, q5⟩
theorem namesG_inj {s : NS} (h : s.nodes.Nodup) {i j : Nat} (hi : i < s.nodes.length) (hj : j < s.nodes.length) (e : (namesG s).getD i [] = (namesG s).getD j []) : i = j := by
  have hl := namesG_len s
  have hn : (namesG s).Nodup := (namesG_perm s).nodup_iff.2 h
  have a1 : (namesG s)[i]? = some ((namesG s).getD i []) := getD_at (by omega)
  have a2 : (namesG s)[j]? = some ((namesG s).getD j []) := getD_at (by omega)
  rw [e] at a1
  exact nodupN_at hn a1 a2
theorem PathG.all_ltN {g : PG} {s t : Nat} {p : List Nat} (h : PathG g s t p) (hs : s < g.n) : ∀ x ∈ p, x < g.n := h.all_lt hs
theorem goodN {s : NS} (hok : NSOK s) {bits : Int} {a b : Nm} (ha : a ∈ s.nodes) (hb : b ∈ s.nodes) {p : List Nat} (h : PathG (graphG s bits) (ixN s a) (ixN s b) p) : GoodN s bits a b (nmP s p) := by
  have hlt := h.all_ltN (show ixN s a < (graphG s bits).n from ixN_lt ha)
  have hl := h.len
  have hlk : ∀ i, i + 1 < p.length → lnk (nmP s p) i = pairOf ((namesG s).getD (p.getD i 0) []) ((namesG s).getD (p.getD (i + 1) 0) []) := fun i hi => by
    unfold lnk
    rw [nmP_getD s (by omega), nmP_getD s hi]
  have hget : ∀ {c : Nm}, c ∈ s.nodes → (namesG s).getD (ixN s c) [] = c := fun {c} hc => by rw [List.getD_eq_getElem?_getD, ixN_get hc]; rfl
  have hE : ∀ i, i + 1 < p.length → _ := fun i hi => edgeN (open_has (h.chain i (Nat.zero_le _) hi)).1
  have hx : ∀ x ∈ nmP s p, x ∈ s.nodes ∧ fenB s x = false := fun x hx => by
    unfold nmP at hx
    obtain ⟨i, hi, rfl⟩ := List.mem_map.1 hx
    obtain ⟨k, hk, rfl⟩ := List.getElem_of_mem hi
    have hk' : p[k] = p.getD k 0 := by rw [List.getD_eq_getElem?_getD, List.getElem?_eq_getElem hk]; rfl
    refine ⟨?_, ?_⟩
    · have hki : p[k] < s.nodes.length := hlt _ hi
      refine namesG_mem.1 ?_
      rw [List.getD_eq_getElem?_getD, List.getElem?_eq_getElem (by rw [namesG_len]; exact hki)]
      exact List.getElem_mem _
    · rw [hk']
      rcases Nat.lt_or_ge (k + 1) p.length with h1 | h1
      · exact (hE k h1).2.2.2.1
      · obtain ⟨j, rfl⟩ : ∃ j, k = j + 1 := ⟨k - 1, by omega⟩
        exact (hE j (by omega)).2.2.2.2.1
  refine ⟨by rw [nmP_len]; exact hl, ?_, ?_, ?_, fun x hm => (hx x hm).1, fun x hm => (hx x hm).2, fun i hi => ?_⟩
  · rw [nmP_getD s (by omega), h.first, hget ha]
  · rw [nmP_len, nmP_getD s (by omega)]
    have : p.getD (p.length - 1) 0 = ixN s b := h.last
    rw [this, hget hb]
  · unfold nmP
    rw [List.nodup_iff_pairwise_ne, List.pairwise_map]
    refine List.Pairwise.imp_of_mem ?_ (List.nodup_iff_pairwise_ne.1 h.nodup)
    intro x y hx hy hne e
    exact hne (namesG_inj hok.nod (hlt x hx) (hlt y hy) e)
  · rw [nmP_len] at hi
    rw [hlk i hi]
    exact ⟨(hE i hi).2.2.1, (hE i hi).2.2.2.2.2⟩
/-- No link is in both paths. -/
def LApart (p q : List Nm) : Prop := ∀ i j, i + 1 < p.length → j + 1 < q.length → lnk p i ≠ lnk q j
/-- The relays of a path of names. -/
def relN (p : List Nm) : List Nm := (p.drop 1).take (p.length - 2)
theorem relN_nmP (s : NS) (p : List Nat) : relN (nmP s p) = nmP s (relays p) := by
  unfold relN relays nmP
  rw [List.length_map, ← List.map_drop, ← List.map_take]
theorem place_rel {g : PG} {s t : Nat} {p : List Nat} (h : PathG g s t p) {i : Nat} (hi : i < p.length) : p.getD i 0 = s ∧ i = 0 ∨ p.getD i 0 = t ∧ i + 1 = p.length ∨ p.getD i 0 ∈ relays p := by
  rcases Nat.eq_zero_or_pos i with h0 | h0
  · subst h0; exact .inl ⟨h.first, rfl⟩
  · rcases Nat.lt_or_ge (i + 1) p.length with h1 | h1
    · exact .inr (.inr (relays_mem.2 ⟨i, h0, h1, h.getE hi⟩))
    · refine .inr (.inl ⟨?_, by omega⟩)
      rw [show i = p.length - 1 by omega]; exact h.last
theorem relays_sub {p : List Nat} {x : Nat} (h : x ∈ relays p) : x ∈ p := List.mem_of_mem_drop (List.mem_of_mem_take h)
theorem steps_apart {g : PG} {s t : Nat} (hst : s ≠ t) {p q : List Nat} (hp : PathG g s t p) (hq : PathG g s t q) (h1 : ∀ x ∈ relays p, x ∉ relays q) (h2 : ¬(p.length = 2 ∧ q.length = 2)) {i j : Nat} (hi : i + 1 < p.length) (hj : j + 1 < q.length)
    (e : (p.getD i 0 = q.getD j 0 ∧ p.getD (i + 1) 0 = q.getD (j + 1) 0) ∨ (p.getD i 0 = q.getD (j + 1) 0 ∧ p.getD (i + 1) 0 = q.getD j 0)) : False := by
  have sp := hp.s_not; have tp := hp.t_not; have sq := hq.s_not; have tq := hq.t_not
  have key : ∀ {x : Nat} {k m : Nat}, k < p.length → m < q.length → p.getD k 0 = x → q.getD m 0 = x → x = s ∨ x = t := fun {x k m} hk hm ek em => by
    rcases place_rel hp hk with ⟨z, _⟩ | ⟨z, _⟩ | z
    · exact .inl (ek ▸ z)
    · exact .inr (ek ▸ z)
    · rcases place_rel hq hm with ⟨z', _⟩ | ⟨z', _⟩ | z'
      · exact .inl (em ▸ z')
      · exact .inr (em ▸ z')
      · rw [ek] at z; rw [em] at z'
        exact absurd z' (h1 _ z)
  have both : ∀ x y, x ≠ y → (x = s ∨ x = t) → (y = s ∨ y = t) → (x = s ∧ y = t) ∨ (x = t ∧ y = s) := fun x y hne hx hy => by
    rcases hx with rfl | rfl <;> rcases hy with rfl | rfl
    · exact absurd rfl hne
    · exact .inl ⟨rfl, rfl⟩
    · exact .inr ⟨rfl, rfl⟩
    · exact absurd rfl hne
  have hne : p.getD i 0 ≠ p.getD (i + 1) 0 := fun e => by
    have := nodup_at hp.nodup (hp.getE (i := i) (by omega)) (by rw [e]; exact hp.getE hi)
    omega
  have z1 : p.getD i 0 = s ∨ p.getD i 0 = t := by
    rcases e with ⟨e1, _⟩ | ⟨e1, _⟩
    · exact key (by omega) (by omega) rfl e1.symm
    · exact key (by omega) hj rfl e1.symm
  have z2 : p.getD (i + 1) 0 = s ∨ p.getD (i + 1) 0 = t := by
    rcases e with ⟨_, e1⟩ | ⟨_, e1⟩
    · exact key hi hj rfl e1.symm
    · exact key hi (by omega) rfl e1.symm
  have hop := (open_has (hp.chain i (Nat.zero_le _) hi))
  have hoq := (open_has (hq.chain j (Nat.zero_le _) hj))
  rcases both _ _ hne z1 z2 with ⟨a1, a2⟩ | ⟨a1, a2⟩
  · have l1 := hp.straight hi a1 a2
    rcases e with ⟨e1, e2⟩ | ⟨e1, e2⟩
    · exact h2 ⟨l1, hq.straight hj (e1 ▸ a1) (e2 ▸ a2)⟩
    · exact hoq.2.2.1 (e1 ▸ a1)
  · exact hop.2.2.1 a2
theorem links_apart {s : NS} (hok : NSOK s) {bits : Int} {a b : Nm} (ha : a ∈ s.nodes) (hb : b ∈ s.nodes) (hab : a ≠ b) {p q : List Nat} (hp : PathG (graphG s bits) (ixN s a) (ixN s b) p) (hq : PathG (graphG s bits) (ixN s a) (ixN s b) q)
    (h1 : ∀ x ∈ relays p, x ∉ relays q) (h2 : ¬(p.length = 2 ∧ q.length = 2)) : LApart (nmP s p) (nmP s q) := by
  intro i j hi hj e
  rw [nmP_len] at hi hj
  have lp := hp.all_ltN (show ixN s a < (graphG s bits).n from ixN_lt ha)
  have lq := hq.all_ltN (show ixN s a < (graphG s bits).n from ixN_lt ha)
  have inj : ∀ {k m : Nat}, k < p.length → m < q.length → (nmP s p).getD k [] = (nmP s q).getD m [] → p.getD k 0 = q.getD m 0 := fun {k m} hk hm e => by
    rw [nmP_getD s hk, nmP_getD s hm] at e
    exact namesG_inj hok.nod (lp _ (List.mem_of_getElem? (hp.getE hk))) (lq _ (List.mem_of_getElem? (hq.getE hm))) e
  refine steps_apart (ixN_ne ha hb hab) hp hq h1 h2 hi hj ?_
  rcases pairOf_two e with ⟨e1, e2⟩ | ⟨e1, e2⟩
  · exact .inl ⟨inj (by omega) (by omega) e1, inj hi hj e2⟩
  · exact .inr ⟨inj (by omega) hj e1, inj hi (by omega) e2⟩
theorem rels_apart {s : NS} (hok : NSOK s) {p q : List Nat} (hp : ∀ x ∈ p, x < s.nodes.length) (hq : ∀ x ∈ q, x < s.nodes.length) (h1 : ∀ x ∈ relays p, x ∉ relays q) : ∀ x ∈ relN (nmP s p), x ∉ relN (nmP s q) := by
  intro x hx hy
  rw [relN_nmP] at hx hy
  unfold nmP at hx hy
  obtain ⟨i, hi, rfl⟩ := List.mem_map.1 hx
  obtain ⟨j, hj, e⟩ := List.mem_map.1 hy
  have := namesG_inj hok.nod (hq j (relays_sub hj)) (hp i (relays_sub hi)) e
  subst this
  exact h1 _ hi hj
/-- What Paths finds, as names. -/
theorem pathsN {s : NS} (hok : NSOK s) {bits : Int} {a b : Nm} (ha : a ∈ s.nodes) (hb : b ∈ s.nodes) (hab : a ≠ b) {k : Nat} (h : pathsG s bits a b k ≠ []) :
    (pathsG s bits a b k).length = k ∧ (∀ p ∈ (pathsG s bits a b k).map (nmP s), GoodN s bits a b p) ∧ ((pathsG s bits a b k).map (nmP s)).Pairwise LApart ∧ ((pathsG s bits a b k).map (nmP s)).Pairwise fun p q => ∀ x ∈ relN p, x ∉ relN q := by
  have hc : ¬countG (graphG s bits) (ixN s a) (ixN s b) k < k := fun hc => h (by unfold pathsG chooseG; rw [if_pos hc])
  have hla : ixN s a < (graphG s bits).n := ixN_lt ha
  have hlb : ixN s b < (graphG s bits).n := ixN_lt hb
  obtain ⟨h1, h2⟩ := chooseL_full hla hlb (ixN_ne ha hb hab) k (graphG s bits) rfl (by simp [graphG]) (by omega)
  have e : pathsG s bits a b k = chooseL (ixN s a) (ixN s b) k (graphG s bits) := by unfold pathsG chooseG; rw [if_neg hc]
  rw [e]
  refine ⟨h1, fun p hp => ?_, ?_, ?_⟩
  · obtain ⟨p0, hp0, rfl⟩ := List.mem_map.1 hp
    exact goodN hok ha hb (h2.each p0 hp0)
  · rw [List.pairwise_map]
    exact List.Pairwise.imp_of_mem (fun {p q} hp hq ⟨x1, x2⟩ => links_apart hok ha hb hab (h2.each p hp) (h2.each q hq) x1 x2) h2.apart
  · rw [List.pairwise_map]
    exact List.Pairwise.imp_of_mem (fun {p q} hp hq ⟨x1, x2⟩ => rels_apart hok ((h2.each p hp).all_ltN hla) ((h2.each q hq).all_ltN hla) x1) h2.apart
/-- What a move may do to a link. -/
def MvL (x : LkV) (f h sp : Int) : Prop := 0 ≤ x.free + f ∧ 0 ≤ x.held + h ∧ 0 ≤ x.spent + sp
theorem moveN_lk (s : NS) (p : List Nm) (f h sp : Int) (q : Nm × Nm) (hp : p.Nodup) : ∀ n, n + 1 ≤ p.length → ((∃ i, i < n ∧ q = lnk p i) ∧ (moveN s p f h sp n).lk q = addLk (s.lk q) f h sp) ∨ ((∀ i, i < n → q ≠ lnk p i) ∧ (moveN s p f h sp n).lk q = s.lk q) := by
  intro n hn
  by_cases hq : ∃ i, i < n ∧ q = lnk p i
  · obtain ⟨i, hi, rfl⟩ := hq
    exact .inl ⟨⟨i, hi, rfl⟩, moveN_near s hp f h sp n hn hi⟩
  · have hq' : ∀ i, i < n → q ≠ lnk p i := fun i hi e => hq ⟨i, hi, e⟩
    exact .inr ⟨hq', moveN_far s p f h sp q n hq'⟩
theorem moveG_ok {s : NS} (hs : NSOK s) {p : List Nm} {f h sp : Int} (hp : p.Nodup) (hl : ∀ i, i + 1 < p.length → MvL (s.lk (lnk p i)) f h sp) (h1 : f + h ≤ 0) (h2 : f + h + sp = 0) : NSOK (moveG s p f h sp) := by
  obtain ⟨e1, e2, e3, e4, e5, e6, e7⟩ := moveN_same s p f h sp (p.length - 1)
  unfold moveG
  refine ⟨by rw [e1]; exact hs.nod, by rw [e1]; exact hs.nn, by rw [e1]; exact hs.named, by rw [e3]; exact hs.pod, by rw [e3]; exact hs.pn, by rw [e3, e1]; exact hs.pin, ?_, by rw [e4]; exact hs.now⟩
  intro q hq
  rw [e3] at hq
  have h0 := hs.lk q hq
  rw [e4]
  by_cases hne : p = []
  · subst hne; exact h0
  · have hpos : 0 < p.length := List.length_pos_iff.2 hne
    rcases moveN_lk s p f h sp q hp (p.length - 1) (by omega) with ⟨⟨i, hi, rfl⟩, e⟩ | ⟨_, e⟩
    · have hm := hl i (by omega)
      unfold MvL at hm
      rw [e]
      unfold addLk
      dsimp only
      omega
    · rw [e]; exact h0
/-- Moves over some paths. -/
def moves (s : NS) (ps : List (List Nm)) (f h sp : Int) : NS := ps.foldl (fun s p => moveG s p f h sp) s
theorem moves_snoc (s : NS) (ps : List (List Nm)) (p : List Nm) (f h sp : Int) : moves s (ps ++ [p]) f h sp = moveG (moves s ps f h sp) p f h sp := by simp [moves]
theorem moveG_same (s : NS) (p : List Nm) (f h sp : Int) : (moveG s p f h sp).nodes = s.nodes ∧ (moveG s p f h sp).fen = s.fen ∧ (moveG s p f h sp).pairs = s.pairs ∧ (moveG s p f h sp).now = s.now ∧ (moveG s p f h sp).last = s.last ∧ (moveG s p f h sp).holds = s.holds ∧ (moveG s p f h sp).sents = s.sents := moveN_same s p f h sp _
theorem moves_same (f h sp : Int) : ∀ (ps : List (List Nm)) (s : NS), (moves s ps f h sp).nodes = s.nodes ∧ (moves s ps f h sp).fen = s.fen ∧ (moves s ps f h sp).pairs = s.pairs ∧ (moves s ps f h sp).now = s.now ∧ (moves s ps f h sp).last = s.last ∧ (moves s ps f h sp).holds = s.holds ∧ (moves s ps f h sp).sents = s.sents
  | [], s => ⟨rfl, rfl, rfl, rfl, rfl, rfl, rfl⟩
  | p :: ps, s => by
    obtain ⟨a1, a2, a3, a4, a5, a6, a7⟩ := moves_same f h sp ps (moveG s p f h sp)
    obtain ⟨b1, b2, b3, b4, b5, b6, b7⟩ := moveG_same s p f h sp
    exact ⟨a1.trans b1, a2.trans b2, a3.trans b3, a4.trans b4, a5.trans b5, a6.trans b6, a7.trans b7⟩
theorem moves_ok {f h sp : Int} (h1 : f + h ≤ 0) (h2 : f + h + sp = 0) : ∀ (ps : List (List Nm)) (s : NS), NSOK s → (∀ p ∈ ps, p.Nodup ∧ ∀ i, i + 1 < p.length → MvL (s.lk (lnk p i)) f h sp) → ps.Pairwise LApart → NSOK (moves s ps f h sp)
  | [], s, hs, _, _ => hs
  | p :: ps, s, hs, hp, ha => by
    rw [List.pairwise_cons] at ha
    refine moves_ok h1 h2 ps (moveG s p f h sp) (moveG_ok hs (hp p (by simp)).1 (hp p (by simp)).2 h1 h2) (fun q hq => ⟨(hp q (by simp [hq])).1, fun j hj => ?_⟩) ha.2
    have : (moveG s p f h sp).lk (lnk q j) = s.lk (lnk q j) := moveN_far s p f h sp _ _ (fun i hi e => ha.1 q hq i j (by omega) hj e.symm)
    rw [this]
    exact (hp q (by simp [hq])).2 j hj
/-- Is a link on a path? -/
def onP (p : List Nm) (q : Nm × Nm) : Bool := (List.range (p.length - 1)).any fun i => decide (q = lnk p i)
theorem onP_iff {p : List Nm} {q : Nm × Nm} : onP p q = true ↔ ∃ i, i + 1 < p.length ∧ q = lnk p i := by
  unfold onP
  rw [List.any_eq_true]
  constructor
  · rintro ⟨i, hi, h⟩
    rw [List.mem_range] at hi
    exact ⟨i, by omega, by simpa using h⟩
  · rintro ⟨i, hi, h⟩
    exact ⟨i, by rw [List.mem_range]; omega, by simpa using h⟩
/-- How many bits some holds have on a link. -/
def heldSum (l : List HoldM) (q : Nm × Nm) : Int := (l.map fun h => if onP h.path q = true then h.bits else 0).sum
theorem heldSum_app (l m : List HoldM) (q : Nm × Nm) : heldSum (l ++ m) q = heldSum l q + heldSum m q := by
  unfold heldSum; rw [List.map_append, List.sum_append]
theorem heldSum_one (h : HoldM) (q : Nm × Nm) : heldSum [h] q = if onP h.path q = true then h.bits else 0 := by
  unfold heldSum; simp
theorem heldSum_cons (h : HoldM) (l : List HoldM) (q : Nm × Nm) : heldSum (h :: l) q = (if onP h.path q = true then h.bits else 0) + heldSum l q := by
  unfold heldSum; simp
theorem heldSum_nonneg {l : List HoldM} (h : ∀ x ∈ l, 0 ≤ x.bits) (q : Nm × Nm) : 0 ≤ heldSum l q := by
  induction l with
  | nil => simp [heldSum]
  | cons x l ih =>
    rw [heldSum_cons]
    have h1 := ih (fun y hy => h y (by simp [hy]))
    have h2 := h x (by simp)
    split <;> omega
/-- What is known of a hold. -/
structure HolOK (s : NS) (h : HoldM) : Prop where
  len : 2 ≤ h.path.length
  nodup : h.path.Nodup
  mem : ∀ x ∈ h.path, x ∈ s.nodes
  link : ∀ i, i + 1 < h.path.length → lnk h.path i ∈ s.pairs
  b1 : 1 ≤ h.bits
  b2 : h.bits ≤ 65536
theorem HolOK.len16 {s : NS} {h : HoldM} (k : HolOK s h) (hok : NSOK s) : h.path.length ≤ 16 := Nat.le_trans (nodup_sub_len k.nodup k.mem) hok.nn
theorem HolOK.same {s s' : NS} {h : HoldM} (k : HolOK s h) (hn : s'.nodes = s.nodes) (hp : s'.pairs = s.pairs) : HolOK s' h := ⟨k.len, k.nodup, by rw [hn]; exact k.mem, by rw [hp]; exact k.link, k.b1, k.b2⟩
/-- The held bits of each link are those of some holds. -/
structure HeldBy (s : NS) (l : List HoldM) : Prop where
  each : ∀ h ∈ l, HolOK s h
  held : ∀ q ∈ s.pairs, (s.lk q).held = heldSum l q
theorem moveG_lk {s : NS} {p : List Nm} {f h sp : Int} (hp : p.Nodup) (q : Nm × Nm) : (moveG s p f h sp).lk q = if onP p q = true then addLk (s.lk q) f h sp else s.lk q := by
  by_cases hne : p = []
  · subst hne; rfl
  · have hpos : 0 < p.length := List.length_pos_iff.2 hne
    rcases moveN_lk s p f h sp q hp (p.length - 1) (by omega) with ⟨⟨i, hi, e⟩, h1⟩ | ⟨h1, h2⟩
    · rw [if_pos (onP_iff.2 ⟨i, by omega, e⟩)]; exact h1
    · rw [if_neg (fun hq => by obtain ⟨i, hi, e⟩ := onP_iff.1 hq; exact h1 i (by omega) e)]; exact h2
/-- A hold given back. -/
theorem HeldBy.back {s : NS} (hok : NSOK s) {a b : List HoldM} {h : HoldM} (k : HeldBy s (a ++ h :: b)) (f sp : Int) (hf : f + sp = h.bits) (hf0 : 0 ≤ f) (hs0 : 0 ≤ sp) : NSOK (moveG s h.path f (-h.bits) sp) ∧ HeldBy (moveG s h.path f (-h.bits) sp) (a ++ b) := by
  obtain ⟨e1, e2, e3, _⟩ := moveG_same s h.path f (-h.bits) sp
  have kh := k.each h (by simp)
  have hb := kh.b1
  have hpos : ∀ q, 0 ≤ heldSum a q ∧ 0 ≤ heldSum b q := fun q => ⟨heldSum_nonneg (fun x hx => by have := (k.each x (by simp [hx])).b1; omega) q, heldSum_nonneg (fun x hx => by have := (k.each x (by simp [hx])).b1; omega) q⟩
  have hheld : ∀ q ∈ s.pairs, (s.lk q).held = heldSum a q + ((if onP h.path q = true then h.bits else 0) + heldSum b q) := fun q hq => by
    rw [k.held q hq, heldSum_app, heldSum_cons]
  refine ⟨moveG_ok hok kh.nodup (fun i hi => ?_) (by omega) (by omega), ⟨fun x hx => (k.each x (by simp only [List.mem_append, List.mem_cons] at hx ⊢; rcases hx with h1 | h1 <;> simp [h1])).same e1 e3, fun q hq => ?_⟩⟩
  · have hq := kh.link i hi
    have h1 := hheld _ hq
    rw [if_pos (onP_iff.2 ⟨i, hi, rfl⟩)] at h1
    have h2 := hpos (lnk h.path i)
    have h3 := hok.lk _ hq
    unfold MvL
    omega
  · rw [e3] at hq
    have h1 := hheld q hq
    rw [moveG_lk kh.nodup, heldSum_app]
    by_cases hon : onP h.path q = true
    · rw [if_pos hon] at h1 ⊢
      show (s.lk q).held + -h.bits = _
      omega
    · rw [if_neg hon] at h1 ⊢
      omega
def dropStep (P : HoldM → Bool) (x : NS × List HoldM) (h : HoldM) : NS × List HoldM := if P h = true then (moveG x.1 h.path h.bits (-h.bits) 0, x.2) else (x.1, x.2 ++ [h])
def dropF (P : HoldM → Bool) (s : NS) (l : List HoldM) : NS × List HoldM := l.foldl (dropStep P) (s, [])
theorem dropF_snoc (P : HoldM → Bool) (s : NS) (l : List HoldM) (h : HoldM) : dropF P s (l ++ [h]) = dropStep P (dropF P s l) h := by unfold dropF; rw [List.foldl_append]; rfl
theorem dropF_left (P : HoldM → Bool) (s : NS) (l : List HoldM) : (dropF P s l).2 = l.filter fun h => !P h := by
  have key : ∀ (l : List HoldM) (x : NS × List HoldM), (l.foldl (dropStep P) x).2 = x.2 ++ l.filter fun h => !P h := fun l => by
    induction l with
    | nil => intro x; simp
    | cons h l ih =>
      intro x
      rw [List.foldl_cons, ih]
      unfold dropStep
      by_cases hp : P h = true
      · rw [if_pos hp, List.filter_cons_of_neg (by simp [hp])]
      · rw [if_neg hp, List.filter_cons_of_pos (by simp [hp])]; simp
  unfold dropF
  rw [key]
  rfl
theorem dropF_at {P : HoldM → Bool} {s : NS} (hok : NSOK s) {L : List HoldM} (h : HeldBy s L) : ∀ i, i ≤ L.length → NSOK (dropF P s (L.take i)).1 ∧ HeldBy (dropF P s (L.take i)).1 ((dropF P s (L.take i)).2 ++ L.drop i) ∧ ((dropF P s (L.take i)).1.nodes = s.nodes ∧ (dropF P s (L.take i)).1.fen = s.fen ∧ (dropF P s (L.take i)).1.pairs = s.pairs ∧ (dropF P s (L.take i)).1.now = s.now ∧ (dropF P s (L.take i)).1.last = s.last ∧ (dropF P s (L.take i)).1.holds = s.holds ∧ (dropF P s (L.take i)).1.sents = s.sents)
  | 0, _ => ⟨hok, h, rfl, rfl, rfl, rfl, rfl, rfl, rfl⟩
  | i + 1, hi => by
    obtain ⟨i1, i2, i3⟩ := dropF_at (P := P) hok h i (by omega)
    rw [List.drop_eq_getElem_cons (by omega)] at i2
    rw [List.take_succ_eq_append_getElem (by omega), dropF_snoc]
    generalize L[i] = x at *
    unfold dropStep
    by_cases hp : P x = true
    · rw [if_pos hp]
      have hb := (i2.each x (by simp)).b1
      obtain ⟨j1, j2⟩ := i2.back i1 x.bits 0 (by omega) (by omega) (by omega)
      obtain ⟨b1, b2, b3, b4, b5, b6, b7⟩ := moveG_same (dropF P s (L.take i)).1 x.path x.bits (-x.bits) 0
      obtain ⟨a1, a2, a3, a4, a5, a6, a7⟩ := i3
      exact ⟨j1, j2, b1.trans a1, b2.trans a2, b3.trans a3, b4.trans a4, b5.trans a5, b6.trans a6, b7.trans a7⟩
    · rw [if_neg hp]
      refine ⟨i1, ?_, i3⟩
      show HeldBy _ (((dropF P s (L.take i)).2 ++ [x]) ++ L.drop (i + 1))
      rw [List.append_assoc]
      exact i2
/-- A hold taken. -/
theorem HeldBy.take {s : NS} (hok : NSOK s) {l : List HoldM} {h : HoldM} (k : HeldBy s l) (hh : HolOK s h) (hfree : ∀ i, i + 1 < h.path.length → h.bits ≤ (s.lk (lnk h.path i)).free) : NSOK (moveG s h.path (-h.bits) h.bits 0) ∧ HeldBy (moveG s h.path (-h.bits) h.bits 0) (l ++ [h]) := by
  obtain ⟨e1, e2, e3, _⟩ := moveG_same s h.path (-h.bits) h.bits 0
  refine ⟨moveG_ok hok hh.nodup (fun i hi => ?_) (by omega) (by omega), ⟨fun x hx => ?_, fun q hq => ?_⟩⟩
  · have := hfree i hi
    have := hok.lk _ (hh.link i hi)
    have := hh.b1
    unfold MvL
    omega
  · rcases List.mem_append.1 hx with hx | hx
    · exact (k.each x hx).same e1 e3
    · rw [List.mem_singleton] at hx; subst hx; exact hh.same e1 e3
  · rw [e3] at hq
    rw [moveG_lk hh.nodup, heldSum_app, heldSum_one, ← k.held q hq]
    by_cases hon : onP h.path q = true
    · rw [if_pos hon, if_pos hon]; rfl
    · rw [if_neg hon, if_neg hon]; omega
/-- What move leaves. -/
def MoveP (w : World) (N : Nat) (s : NS) (bn bl : Nat) (vh vs : Value) (e : Ending) (w' : World) : Prop := e = .returned (.tuple #[]) ∧ NetAt w' N s bn bl vh vs ∧ KeepL [bl] w w'
theorem NmRow.cells {w : World} {v : Value} {l : List Nm} (h : NmRow w v l) : ∃ b c, v = .slice (some ⟨b, 0, none⟩) l.length c ∧ l.length ≤ c ∧ b < w.heap.size ∧ ∀ i, i < l.length → w.cell? ⟨b, i, none⟩ = some (encS (l.getD i [])) := by
  obtain ⟨b, c, cs, h1, h2, h3, h4⟩ := h
  exact ⟨b, c, h1, h2, h3.lt, fun i hi => by rw [h3.cell]; exact h4 i hi⟩
theorem NmRow.keepM {w w' : World} {v : Value} {l : List Nm} {bl : Nat} {k : TypeId} {κ : Type} {K : KeyT k κ} {ks : List κ} {f : κ → Option Value} (h : NmRow w v l) (m : MapL K w bl ks f) (hk : KeepL [bl] w w') : NmRow w' v l := by
  obtain ⟨b, c, cs, h1, h2, h3, h4⟩ := h
  refine ⟨b, c, cs, h1, h2, h3.keepL hk (fun e => ?_), h4⟩
  rw [List.mem_singleton] at e
  subst e
  obtain ⟨es, cl, hm⟩ := m.at'.isMap
  unfold Bk at h3
  rw [hm] at h3
  cases h3
/-- A network but for its links, which are told apart. -/
theorem NetAt.links_to {w w' : World} {N : Nat} {s s' : NS} {bn bl : Nat} {vh vs : Value} (h : NetAt w N s bn bl vh vs) (hk : KeepL [bl] w w') (hm : MapL pairK w' bl s.pairs (linksF s')) (hs : s'.nodes = s.nodes ∧ s'.fen = s.fen ∧ s'.pairs = s.pairs ∧ s'.now = s.now ∧ s'.last = s.last ∧ s'.holds = s.holds ∧ s'.sents = s.sents) (hok : NSOK s') : NetAt w' N s' bn bl vh vs := by
  obtain ⟨e1, e2, e3, e4, e5, e6, e7⟩ := hs
  obtain ⟨es, cl, hmm⟩ := h.links.at'.isMap
  have hc : CK (fun _ => True) w w' := CK.keepL hk (fun k hk cs t _ hb => by
    rw [List.mem_singleton] at hk
    subst hk
    unfold Bk at hb
    rw [hmm] at hb
    cases hb)
  have hn : nodesF s' = nodesF s := by funext x; unfold nodesF; rw [e1, e2]
  refine ⟨?_, ?_, by rw [e3]; exact hm, by rw [e6]; exact h.holds.ck hc trivial trivial, by rw [e7]; exact h.sents.ck hc trivial trivial trivial trivial trivial, hok, h.ne⟩
  · rw [e4, e5]; exact hc _ _ _ trivial h.blk
  · rw [e1, hn]
    exact h.nodes.keep (hk.block _ h.nodes.lt (by rw [List.mem_singleton]; exact h.ne))
theorem NetAt.links_at {w w' : World} {N : Nat} {s : NS} {bn bl : Nat} {vh vs : Value} (h : NetAt w N s bn bl vh vs) (hk : KeepL [bl] w w') : w'.cell? ⟨N, 1, none⟩ = some (.map (some bl)) := by
  obtain ⟨es, cl, hmm⟩ := h.links.at'.isMap
  have hb := h.blk.keepL hk (fun e => by
    rw [List.mem_singleton] at e
    have := h.blk
    unfold Bk at this
    rw [e, hmm] at this
    cases this)
  rw [hb.cell]; rfl
theorem look_map {w : World} {bl : Nat} {ks : List (Nm × Nm)} {F : Nm × Nm → Option Value} (m : MapL pairK w bl ks F) {q : Nm × Nm} (hq : q.1.length ≤ maxLen ∧ q.2.length ≤ maxLen) {x : LkV} (hx : F q = some (lkV x)) : (Instr.lookup 52 (.map (some bl)) (pairV q) false).run Tryz.prog w = .ok (lkV x) w := by
  have := m.at'.look Tryz.underlying52 mapL_zero (x := q) hq
  rw [hx] at this
  exact this
theorem linksF_step (s : NS) (p : List Nm) (f hd sp : Int) (k : Nat) {q : Nm × Nm} {x : LkV} (hq : q = lnk p k) (hm : q ∈ s.pairs) (hv : (moveN s p f hd sp k).lk q = x) (y : Nm × Nm) : (if y = q then some (lkV (addLk x f hd sp)) else linksF (moveN s p f hd sp k) y) = linksF (moveN s p f hd sp (k + 1)) y := by
  have e1 : (moveN s p f hd sp (k + 1)).pairs = s.pairs := (moveN_same s p f hd sp (k + 1)).2.2.1
  have e2 : (moveN s p f hd sp k).pairs = s.pairs := (moveN_same s p f hd sp k).2.2.1
  have e3 : (moveN s p f hd sp (k + 1)).lk y = if y = lnk p k then addLk ((moveN s p f hd sp k).lk y) f hd sp else (moveN s p f hd sp k).lk y := rfl
  unfold linksF
  rw [e1, e2, e3, ← hq]
  by_cases hy : y = q
  · subst hy
    rw [if_pos rfl, if_pos hm, if_pos rfl, hv]
  · rw [if_neg hy, if_neg hy]
set_option maxRecDepth 100000 in
set_option maxHeartbeats 4000000 in
theorem move_any {w : World} {N : Nat} {s : NS} {bn bl : Nat} {vh vs : Value} (h : NetAt w N s bn bl vh vs) (p : List Nm) (pv : Value) (hp : NmRow w pv p) (f hd sp : Int) (hl1 : 1 ≤ p.length) (hl9 : p.length ≤ 1000) (hnd : p.Nodup)
    (hlk : ∀ i, i + 1 < p.length → lnk p i ∈ s.pairs) (hok : NSOK (moveG s p f hd sp)) (hf : -1000000 ≤ f ∧ f ≤ 1000000) (hh : -1000000 ≤ hd ∧ hd ≤ 1000000) (hs : -1000000 ≤ sp ∧ sp ≤ 1000000) :
    Calls Tryz.prog 46 #[.pointer (some ⟨N, 0, none⟩), pv, .int .i64 f, .int .i64 hd, .int .i64 sp] w (MoveP w N (moveG s p f hd sp) bn bl vh vs) := by
  have HNET := Lib.hid h
  have HP := Lib.hid hp
  have HLK := Lib.hid hlk
  have HND := Lib.hid hnd
  have HOK := Lib.hid hok
  have HLEN : Hid (∀ q ∈ s.pairs, q.1.length ≤ maxLen ∧ q.2.length ≤ maxLen) := Lib.hid fun q hq => by
    obtain ⟨h1, h2, _⟩ := h.ok.pin q hq
    have := (named_len (h.ok.named _ h1)).2
    have := (named_len (h.ok.named _ h2)).2
    unfold maxLen
    omega
  have HRNG : Hid (∀ q ∈ s.pairs, 0 ≤ (s.lk q).free ∧ (s.lk q).free ≤ 65536 ∧ 0 ≤ (s.lk q).held ∧ (s.lk q).held ≤ 65536 ∧ 0 ≤ (s.lk q).spent ∧ (s.lk q).spent ≤ 100000000000000000) := Lib.hid fun q hq => by
    have h1 := h.ok.lk q hq
    have h2 := h.ok.now
    omega
  have HB := Lib.hid (fun (a b : Nm) W => between_any a b W)
  have hN := h.blk.lt
  obtain ⟨hb, pc, rfl, hpc, hbw, hcell⟩ := hp.cells
  clear h hp hlk hnd hok hcell
  go_enter Tryz.func46, Tryz.ntmps46
  go_wp2_with fail
  have hwl : wrap64 ((p.length : Int) - 1) = (p.length : Int) - 1 := by unfold wrap64; omega
  have HM0 : Hid (MapL pairK w bl s.pairs (linksF (moveN s p f hd sp 0)) ∧ KeepL [bl] w w) := Lib.hid ⟨HNET.out.links, KeepL.refl _ _⟩
  go_loopw [10, 11, 12, 16] (fun _ _ _ i wr => ∃ k : Nat, k + 1 ≤ p.length ∧ i = .int .i64 k ∧ MapL pairK wr bl s.pairs (linksF (moveN s p f hd sp k)) ∧ KeepL [bl] w wr) (fun _ _ _ i _ => p.length - (intOf i).toNat)
  case atStart => exact ⟨0, hl1, rfl, HM0.out⟩
  case round =>
    obtain ⟨k, hk, rfl, hm, hkp⟩ := hrel
    obtain ⟨wi, rfl⟩ : ∃ z : World, z = wr := ⟨_, rfl⟩
    have HMK := Lib.hid hm; have HKP := Lib.hid hkp
    clear HM0 hm hkp
    by_cases hlt : k + 1 < p.length
    · have hki : (k : Int) < (p.length : Int) - 1 := by omega
      have HS0 : Hid (∀ W, Below wi.heap.size wi W → W.cell? ⟨hb, k, none⟩ = some (encS (p.getD k [])) ∧ W.cell? ⟨hb, k + 1, none⟩ = some (encS (p.getD (k + 1) []))) := Lib.hid fun W hW => by
        obtain ⟨b', c', e', _, hb', hc'⟩ := (HP.out.keepM HNET.out.links HKP.out).cells
        injection e' with e'; injection e' with e'; injection e' with e'
        subst e'
        exact ⟨(hW.cell (p := ⟨hb, k, none⟩) hb').trans (hc' k (by omega)), (hW.cell (p := ⟨hb, k + 1, none⟩) hb').trans (hc' (k + 1) hlt)⟩
      obtain ⟨q, hq⟩ : ∃ q, q = lnk p k := ⟨_, rfl⟩
      have HQ := Lib.hid hq
      have HBY : Hid (∀ W, Calls Tryz.prog 21 #[encS (p.getD k []), encS (p.getD (k + 1) [])] W fun e w' => e = .returned (.agg #[encS q.1, encS q.2]) ∧ Below W.heap.size W w') := Lib.hid fun W => by
        rw [hq]; exact HB.out _ _ W
      have HQM : Hid (q ∈ s.pairs) := Lib.hid (by rw [hq]; exact HLK.out k hlt)
      have HQV : Hid ((moveN s p f hd sp k).lk q = s.lk q) := Lib.hid (by
        rw [hq]
        exact moveN_far s p f hd sp _ k (fun i hi e => by have := lnk_inj HND.out hlt (by omega) e; omega))
      clear hq
      generalize p.getD k [] = na at *
      generalize p.getD (k + 1) [] = nb at *
      obtain ⟨lq, hlq⟩ : ∃ lq, lq = s.lk q := ⟨_, rfl⟩
      have HLQ := Lib.hid hlq
      have hrng := HRNG.out q HQM.out
      rw [← hlq] at hrng
      have hqv := HQV.out
      rw [← hlq] at hqv
      have HQV := Lib.hid hqv
      clear hlq hqv
      obtain ⟨x1, x2, x3, x4, x5, x6, x7⟩ := lq
      dsimp only at hrng
      have hk1 : (k : Int) + 1 < (p.length : Int) := by omega
      have hkp : (k : Int) < (p.length : Int) := by omega
      have hw1 : IntKind.i64.wrap ((k : Int) + 1) = (k : Int) + 1 := by rw [IntKind.wrap_i64]; omega
      have hw2 : ((k : Int) + 1).toNat = k + 1 := by omega
      have hw3 : 0 ≤ (k : Int) + 1 := by omega
      have hw5 : wrap64 (x5 + f) = x5 + f := by unfold wrap64; omega
      have hw6 : wrap64 (x6 + hd) = x6 + hd := by unfold wrap64; omega
      have hw7 : wrap64 (x7 + sp) = x7 + sp := by unfold wrap64; omega
      have HRG := Lib.hid hrng
      clear hrng
      have HNOW : Hid (Below wi.heap.size wi wi.drew) := Lib.hid (Qw.below ⟨1, rfl⟩ _)
      have HN1 : Hid (∀ W, Below wi.heap.size wi W → W.cell? ⟨N, 1, none⟩ = some (.map (some bl))) := Lib.hid fun W hW => HNET.out.links_at (HKP.out.trans (KeepL.of_below hW))
      have HLOOK : Hid (∀ W, Below wi.heap.size wi W → (Instr.lookup 52 (.map (some bl)) (.agg #[encS q.1, encS q.2]) false).run Tryz.prog W = .ok (.agg #[.int .i64 x1, .int .i64 x2, .int .i64 x3, .int .i64 x4, .int .i64 x5, .int .i64 x6, .int .i64 x7]) W) := Lib.hid fun W hW => by
        have hm : MapL pairK W bl s.pairs (linksF (moveN s p f hd sp k)) := HMK.out.keep (hW.block _ HMK.out.lt)
        have := look_map hm (HLEN.out q HQM.out) (x := ⟨x1, x2, x3, x4, x5, x6, x7⟩) (by
          unfold linksF
          rw [(moveN_same s p f hd sp k).2.2.1, if_pos HQM.out, HQV.out])
        exact this
      go_wp2_with fail
      go_cut [10, 11, 16] from 16 to 62 (fun v10 v11 v16 wc => v16 = .int .i64 k ∧ v10 = .int .i64 k ∧ ∃ X, v11 = .pointer (some ⟨X, 0, none⟩) ∧ Bk wc X #[encS q.1, encS q.2] 69 ∧ Below wi.heap.size wi wc ∧ wi.heap.size ≤ X)
      case first =>
        refine wp_region_held_drew (S := (fun W => W.cell? ⟨hb, k, none⟩ = some (encS na) ∧ W.cell? ⟨hb, k + 1, none⟩ = some (encS nb))) (by kernel_rfl) ?_ (fun hHeld => ?_)
        · (try dsimp only); first | exact HS0.out _ HNOW.out | exact HS0.out _ (below_alloc_drew _ _) | exact HS0.out _ (bnextK HNOW.out (below_alloc _ _))
        refine wpAnyH_take (i := 0) (oi := ⟨some 19, _, _, _, _, _⟩) (v := ?_) rfl (by kernel_rfl) (by kernel_rfl) (by kernel_rfl) (fun _ _ _ h => h) (Or.inl ⟨by rfl, ?_⟩) (by assumption) ?_; rotate_left
        · intro w hSw; (try dsimp only at hSw); go_simp; try with_reducible rfl
        try simp only [Act.put, setIfInBounds_toArray, set_cons_zero, set_cons_succ]
        refine wpAnyH_take (i := 1) (oi := ⟨some 20, _, _, _, _, _⟩) (v := ?_) rfl (by kernel_rfl) (by kernel_rfl) (by kernel_rfl) (fun _ _ _ h => h) (Or.inl ⟨by rfl, ?_⟩) (by assumption) ?_; rotate_left
        · intro w hSw; (try dsimp only at hSw); go_simp; try with_reducible rfl
        try simp only [Act.put, setIfInBounds_toArray, set_cons_zero, set_cons_succ]
        refine wpAnyH_take (i := 2) (oi := ⟨some 21, _, _, _, _, _⟩) (v := ?_) rfl (by kernel_rfl) (by kernel_rfl) (by kernel_rfl) (fun _ _ _ h => h) (Or.inl ⟨by rfl, ?_⟩) (by assumption) ?_; rotate_left
        · intro w hSw; (try dsimp only at hSw); go_simp; try with_reducible rfl
        try simp only [Act.put, setIfInBounds_toArray, set_cons_zero, set_cons_succ]
        refine wpAnyH_take (i := 3) (oi := ⟨some 22, _, _, _, _, _⟩) (v := ?_) rfl (by kernel_rfl) (by kernel_rfl) (by kernel_rfl) (fun _ _ _ h => h) (Or.inl ⟨by rfl, ?_⟩) (by assumption) ?_; rotate_left
        · intro w hSw; (try dsimp only at hSw); go_simp; try with_reducible rfl
        try simp only [Act.put, setIfInBounds_toArray, set_cons_zero, set_cons_succ]
        refine wpAnyH_take (i := 4) (oi := ⟨some 23, _, _, _, _, _⟩) (v := ?_) rfl (by kernel_rfl) (by kernel_rfl) (by kernel_rfl) (fun _ _ _ h => h) (Or.inl ⟨by rfl, ?_⟩) (by assumption) ?_; rotate_left
        · intro w hSw; (try dsimp only at hSw); go_simp; try with_reducible rfl
        try simp only [Act.put, setIfInBounds_toArray, set_cons_zero, set_cons_succ]
        refine wpAnyH_take (i := 5) (oi := ⟨some 24, _, _, _, _, _⟩) (v := ?_) rfl (by kernel_rfl) (by kernel_rfl) (by kernel_rfl) (fun _ _ _ h => h) (Or.inl ⟨by rfl, ?_⟩) (by assumption) ?_; rotate_left
        · intro w hSw; (try dsimp only at hSw); go_simp; try with_reducible rfl
        try simp only [Act.put, setIfInBounds_toArray, set_cons_zero, set_cons_succ]
        refine wpAnyH_take (i := 6) (oi := ⟨some 25, _, _, _, _, _⟩) (v := ?_) rfl (by kernel_rfl) (by kernel_rfl) (by kernel_rfl) (fun _ _ _ h => h) (Or.inl ⟨by rfl, ?_⟩) (by assumption) ?_; rotate_left
        · intro w hSw; (try dsimp only at hSw); go_simp; try with_reducible rfl
        try simp only [Act.put, setIfInBounds_toArray, set_cons_zero, set_cons_succ]
        refine wpAnyH_take (i := 7) (oi := ⟨some 26, _, _, _, _, _⟩) (v := ?_) rfl (by kernel_rfl) (by kernel_rfl) (by kernel_rfl) (fun _ _ _ h => h) (Or.inl ⟨by rfl, ?_⟩) (by assumption) ?_; rotate_left
        · intro w hSw; (try dsimp only at hSw); go_simp; try with_reducible rfl
        try simp only [Act.put, setIfInBounds_toArray, set_cons_zero, set_cons_succ]
        refine wpAnyH_take (i := 8) (oi := ⟨some 27, _, _, _, _, _⟩) (v := ?_) rfl (by kernel_rfl) (by kernel_rfl) (by kernel_rfl) (fun _ _ _ h => h) (Or.inl ⟨by rfl, ?_⟩) (by assumption) ?_; rotate_left
        · intro w hSw; (try dsimp only at hSw); go_simp; try with_reducible rfl
        try simp only [Act.put, setIfInBounds_toArray, set_cons_zero, set_cons_succ]
        refine wpAnyH_ready (rs := [9, 10]) (by kernel_rfl) (by simp) ?_
        refine AllReadyH.cons (o := ⟨some 28, _, _, _, _, _⟩) rfl (fun K hK => ?_) ?_
        · skip
          go_simp
          refine (HBY.out _).mono ?_
          rintro e w3' ⟨rfl, b3⟩
          have HNOW := Lib.hid (bnextK HNOW.out b3)
          go_wp2_with fail
          refine hK.out _ _ ?_ (fun hHeld => ?_)
          · (try dsimp only); first | exact HS0.out _ HNOW.out | exact HS0.out _ (below_alloc_drew _ _) | exact HS0.out _ (bnextK HNOW.out (below_alloc _ _))
          clear hK K
          try simp only [Act.put, setIfInBounds_toArray, set_cons_zero, set_cons_succ]
          refine wpAnyH_ready (rs := [10]) (by kernel_rfl) (by simp) ?_
          refine AllReadyH.cons (o := ⟨some 11, _, _, _, _, _⟩) rfl (fun K hK => ?_) AllReadyH.nil
          go_simp
          refine hK.out _ _ ?_ (fun hHeld => ?_)
          · (try dsimp only); first | exact HS0.out _ HNOW.out | exact HS0.out _ (below_alloc_drew _ _) | exact HS0.out _ (bnextK HNOW.out (below_alloc _ _))
          clear hK K
          try simp only [Act.put, setIfInBounds_toArray, set_cons_zero, set_cons_succ]
          refine wpAnyH_ready (rs := [11]) (by kernel_rfl) (by simp) ?_
          refine AllReadyH.cons (o := ⟨none, _, _, _, _, _⟩) rfl (fun K hK => ?_) AllReadyH.nil
          refine step_store_row 69 _ _ rfl rfl _ #[encS q.1, encS q.2] rfl rfl _ _ (Bk.new _ _ _) rfl rfl (by simp [Value.oneCell']) ?_
          rw [World.setRow_alloc_new]
          have HBX := Lib.hid (Bk.new w3' #[encS q.1, encS q.2] 69)
          have HXL := Lib.hid HNOW.out.size
          have HNOW := Lib.hid (bnextK HNOW.out (below_alloc w3' (.cells #[encS q.1, encS q.2] 69)))
          refine hK.out _ _ ?_ (fun hHeld => ?_)
          · (try dsimp only); first | exact HS0.out _ HNOW.out | exact HS0.out _ (below_alloc_drew _ _) | exact HS0.out _ (bnextK HNOW.out (below_alloc _ _))
          clear hK K
          try simp only [Act.put]
          refine wpAnyH_done (by kernel_rfl) ?_ _
          go_wp2_with fail
          go_meet
          exact ⟨rfl, rfl, _, rfl, HBX.out, HNOW.out, HXL.out⟩
        refine AllReadyH.cons (o := ⟨some 11, _, _, _, _, _⟩) rfl (fun K hK => ?_) AllReadyH.nil
        go_simp
        refine hK.out _ _ ?_ (fun hHeld => ?_)
        · (try dsimp only); first | exact HS0.out _ HNOW.out | exact HS0.out _ (below_alloc_drew _ _) | exact HS0.out _ (bnextK HNOW.out (below_alloc _ _))
        clear hK K
        try simp only [Act.put, setIfInBounds_toArray, set_cons_zero, set_cons_succ]
        refine wpAnyH_ready (rs := [9]) (by kernel_rfl) (by simp) ?_
        refine AllReadyH.cons (o := ⟨some 28, _, _, _, _, _⟩) rfl (fun K hK => ?_) AllReadyH.nil
        go_simp
        refine (HBY.out _).mono ?_
        rintro e w3' ⟨rfl, b3⟩
        have KB := Lib.hid ((box_drew wi _ _).past b3 (box_drew wi _ _).lt)
        have HNOW := Lib.hid (bnextK (below_alloc_drew wi _) b3)
        go_wp2_with fail
        refine hK.out _ _ ?_ (fun hHeld => ?_)
        · (try dsimp only); first | exact HS0.out _ HNOW.out | exact HS0.out _ (below_alloc_drew _ _) | exact HS0.out _ (bnextK HNOW.out (below_alloc _ _))
        clear hK K
        try simp only [Act.put, setIfInBounds_toArray, set_cons_zero, set_cons_succ]
        refine wpAnyH_ready (rs := [11]) (by kernel_rfl) (by simp) ?_
        refine AllReadyH.cons (o := ⟨none, _, _, _, _, _⟩) rfl (fun K hK => ?_) AllReadyH.nil
        refine step_store_row 69 _ _ rfl rfl wi.heap.size #[encS q.1, encS q.2] rfl rfl _ _ KB.out rfl rfl (by simp [Value.oneCell']) ?_
        have HBX := Lib.hid (Bk.setRow KB.out #[encS q.1, encS q.2])
        have HXL : Hid (wi.heap.size ≤ wi.heap.size) := Lib.hid (Nat.le_refl _)
        have HNOW := Lib.hid (HNOW.out.trans (below_setRow (cs := #[encS q.1, encS q.2]) (Nat.le_refl _)))
        refine hK.out _ _ ?_ (fun hHeld => ?_)
        · (try dsimp only); first | exact HS0.out _ HNOW.out | exact HS0.out _ (below_alloc_drew _ _) | exact HS0.out _ (bnextK HNOW.out (below_alloc _ _))
        clear hK K
        try simp only [Act.put]
        refine wpAnyH_done (by kernel_rfl) ?_ _
        go_wp2_with fail
        go_meet
        exact ⟨rfl, rfl, _, rfl, HBX.out, HNOW.out, HXL.out⟩
      case rest =>
        obtain ⟨w4, rfl⟩ : ∃ z : World, z = wc := ⟨_, rfl⟩
        obtain ⟨rfl, rfl, X, rfl, hbx, hb4, hX⟩ := hcut
        have HBX := Lib.hid hbx; have HB4 := Lib.hid hb4
        clear HS0 HNOW HBY hbx hb4
        have HNOW : Hid (Below w4.heap.size w4 w4.drew) := Lib.hid (Qw.below ⟨1, rfl⟩ _)
        have HS1 : Hid (∀ W, Below w4.heap.size w4 W → W.cell? ⟨N, 1, none⟩ = some (.map (some bl)) ∧ W.cell? ⟨X, 0, none⟩ = some (encS q.1) ∧ W.cell? ⟨X, 1, none⟩ = some (encS q.2) ∧ (Instr.lookup 52 (.map (some bl)) (.agg #[encS q.1, encS q.2]) false).run Tryz.prog W = .ok (.agg #[.int .i64 x1, .int .i64 x2, .int .i64 x3, .int .i64 x4, .int .i64 x5, .int .i64 x6, .int .i64 x7]) W) := Lib.hid fun W hW => by
          have hx := HBX.out.past hW HBX.out.lt
          exact ⟨HN1.out W (bnextK HB4.out hW), by rw [hx.cell]; rfl, by rw [hx.cell]; rfl, HLOOK.out W (bnextK HB4.out hW)⟩
        go_wp2_with fail
        go_cut [10, 11, 12, 16] from 16 to 62 (fun v10 v11 v12 v16 wc => v16 = .int .i64 k ∧ v10 = .int .i64 k ∧ v11 = .pointer (some ⟨X, 0, none⟩) ∧ ∃ Y, v12 = .pointer (some ⟨Y, 0, none⟩) ∧ Bk wc Y #[.int .i64 x1, .int .i64 x2, .int .i64 x3, .int .i64 x4, .int .i64 x5, .int .i64 x6, .int .i64 x7] 66 ∧ Below w4.heap.size w4 wc ∧ w4.heap.size ≤ Y)
        case first =>
          refine wp_region_held_drew (S := (fun W => W.cell? ⟨N, 1, none⟩ = some (.map (some bl)) ∧ W.cell? ⟨X, 0, none⟩ = some (encS q.1) ∧ W.cell? ⟨X, 1, none⟩ = some (encS q.2) ∧ (Instr.lookup 52 (.map (some bl)) (.agg #[encS q.1, encS q.2]) false).run Tryz.prog W = .ok (.agg #[.int .i64 x1, .int .i64 x2, .int .i64 x3, .int .i64 x4, .int .i64 x5, .int .i64 x6, .int .i64 x7]) W)) (by kernel_rfl) ?_ (fun hHeld => ?_)
          · (try dsimp only); first | exact HS1.out _ HNOW.out | exact HS1.out _ (below_alloc_drew _ _) | exact HS1.out _ (bnextK HNOW.out (below_alloc _ _))
          refine wpAnyH_take (i := 0) (oi := ⟨some 29, _, _, _, _, _⟩) (v := ?_) rfl (by kernel_rfl) (by kernel_rfl) (by kernel_rfl) (fun _ _ _ h => h) (Or.inl ⟨by rfl, ?_⟩) (by assumption) ?_; rotate_left
          · intro w hSw; (try dsimp only at hSw); go_simp; try with_reducible rfl
          try simp only [Act.put, setIfInBounds_toArray, set_cons_zero, set_cons_succ]
          refine wpAnyH_take (i := 1) (oi := ⟨some 30, _, _, _, _, _⟩) (v := ?_) rfl (by kernel_rfl) (by kernel_rfl) (by kernel_rfl) (fun _ _ _ h => h) (Or.inl ⟨by rfl, ?_⟩) (by assumption) ?_; rotate_left
          · intro w hSw; (try dsimp only at hSw); go_simp; try with_reducible rfl
          try simp only [Act.put, setIfInBounds_toArray, set_cons_zero, set_cons_succ]
          refine wpAnyH_take (i := 2) (oi := ⟨some 31, _, _, _, _, _⟩) (v := ?_) rfl (by kernel_rfl) (by kernel_rfl) (by kernel_rfl) (fun _ _ _ h => h) (Or.inl ⟨by rfl, ?_⟩) (by assumption) ?_; rotate_left
          · intro w hSw; (try dsimp only at hSw); go_simp; try with_reducible rfl
          try simp only [Act.put, setIfInBounds_toArray, set_cons_zero, set_cons_succ]
          refine wpAnyH_take (i := 3) (oi := ⟨some 32, _, _, _, _, _⟩) (v := ?_) rfl (by kernel_rfl) (by kernel_rfl) (by kernel_rfl) (fun _ _ _ h => h) (Or.inl ⟨by rfl, ?_⟩) (by assumption) ?_; rotate_left
          · intro w hSw; (try dsimp only at hSw); go_simp; try with_reducible rfl
          try simp only [Act.put, setIfInBounds_toArray, set_cons_zero, set_cons_succ]
          refine wpAnyH_take (i := 4) (oi := ⟨some 33, _, _, _, _, _⟩) (v := ?_) rfl (by kernel_rfl) (by kernel_rfl) (by kernel_rfl) (fun _ _ _ h => h) (Or.inl ⟨by rfl, ?_⟩) (by assumption) ?_; rotate_left
          · intro w hSw; (try dsimp only at hSw); go_simp; try with_reducible rfl
          try simp only [Act.put, setIfInBounds_toArray, set_cons_zero, set_cons_succ]
          refine wpAnyH_take (i := 5) (oi := ⟨some 34, _, _, _, _, _⟩) (v := ?_) rfl (by kernel_rfl) (by kernel_rfl) (by kernel_rfl) (fun _ _ _ h => h) (Or.inl ⟨by rfl, ?_⟩) (by assumption) ?_; rotate_left
          · intro w hSw; (try dsimp only at hSw); go_simp; try with_reducible rfl
          try simp only [Act.put, setIfInBounds_toArray, set_cons_zero, set_cons_succ]
          refine wpAnyH_ready (rs := [6]) (by kernel_rfl) (by simp) ?_
          refine AllReadyH.cons (o := ⟨some 12, _, _, _, _, _⟩) rfl (fun K hK => ?_) AllReadyH.nil
          go_simp
          refine hK.out _ _ ?_ (fun hHeld => ?_)
          · (try dsimp only); first | exact HS1.out _ HNOW.out | exact HS1.out _ (below_alloc_drew _ _) | exact HS1.out _ (bnextK HNOW.out (below_alloc _ _))
          clear hK K
          try simp only [Act.put, setIfInBounds_toArray, set_cons_zero, set_cons_succ]
          refine wpAnyH_ready (rs := [7]) (by kernel_rfl) (by simp) ?_
          refine AllReadyH.cons (o := ⟨none, _, _, _, _, _⟩) rfl (fun K hK => ?_) AllReadyH.nil
          refine step_store_row 66 _ _ rfl rfl w4.heap.size #[.int .i64 x1, .int .i64 x2, .int .i64 x3, .int .i64 x4, .int .i64 x5, .int .i64 x6, .int .i64 x7] rfl rfl _ _ (box_drew w4 _ _) rfl rfl (by simp [Value.oneCell']) ?_
          have HBY := Lib.hid (Bk.setRow (box_drew w4 #[.int .i64 0, .int .i64 0, .int .i64 0, .int .i64 0, .int .i64 0, .int .i64 0, .int .i64 0] 66) #[.int .i64 x1, .int .i64 x2, .int .i64 x3, .int .i64 x4, .int .i64 x5, .int .i64 x6, .int .i64 x7])
          have HNOW := Lib.hid ((below_alloc_drew w4 (.cells #[.int .i64 0, .int .i64 0, .int .i64 0, .int .i64 0, .int .i64 0, .int .i64 0, .int .i64 0] 66)).trans (below_setRow (cs := #[.int .i64 x1, .int .i64 x2, .int .i64 x3, .int .i64 x4, .int .i64 x5, .int .i64 x6, .int .i64 x7]) (Nat.le_refl _)))
          refine hK.out _ _ ?_ (fun hHeld => ?_)
          · (try dsimp only); first | exact HS1.out _ HNOW.out | exact HS1.out _ (below_alloc_drew _ _) | exact HS1.out _ (bnextK HNOW.out (below_alloc _ _))
          clear hK K
          try simp only [Act.put]
          refine wpAnyH_done (by kernel_rfl) ?_ _
          go_wp2_with fail
          go_meet
          exact ⟨rfl, rfl, rfl, _, rfl, HBY.out, HNOW.out, Nat.le_refl _⟩
        case rest =>
          obtain ⟨w5, rfl⟩ : ∃ z : World, z = wc := ⟨_, rfl⟩
          obtain ⟨rfl, rfl, rfl, Y, rfl, hby, hb5, hY⟩ := hcut
          have HB5 := Lib.hid (bnextK HB4.out hb5)
          have HX5 := Lib.hid (HBX.out.past hb5 HBX.out.lt)
          have hXY : X ≠ Y := by have := HBX.out.lt; omega
          have y4 := hby.cell 4; have y5 := hby.cell 5; have y6 := hby.cell 6
          have f4 := hby.froz 4; have f5 := hby.froz 5; have f6 := hby.froz 6
          simp only [List.getElem?_toArray, List.getElem?_cons_succ, List.getElem?_cons_zero] at y4 y5 y6
          have HBY := Lib.hid hby
          clear HS1 HNOW hb5 hby
          go_wp2_with fail
          obtain ⟨w6, hw6'⟩ : ∃ z, z = (((w5.setCell ⟨Y, 4, none⟩ (.int .i64 (x5 + f))).setCell ⟨Y, 5, none⟩ (.int .i64 (x6 + hd))).setCell ⟨Y, 6, none⟩ (.int .i64 (x7 + sp))) := ⟨_, rfl⟩
          rw [← hw6']
          have HB6 : Hid (Below wi.heap.size wi w6) := Lib.hid (by
            have hYi : wi.heap.size ≤ Y := Nat.le_trans HB4.out.size hY
            rw [hw6']
            exact ((HB5.out.setCell (p := ⟨Y, 4, none⟩) hYi _).setCell (p := ⟨Y, 5, none⟩) hYi _).setCell (p := ⟨Y, 6, none⟩) hYi _)
          have HBY6 : Hid (Bk w6 Y #[.int .i64 x1, .int .i64 x2, .int .i64 x3, .int .i64 x4, .int .i64 (x5 + f), .int .i64 (x6 + hd), .int .i64 (x7 + sp)] 66) := Lib.hid (by
            rw [hw6']
            exact ((HBY.out.set 4 _).set 5 _).set 6 _)
          have HBX6 : Hid (Bk w6 X #[encS q.1, encS q.2] 69) := Lib.hid (by
            rw [hw6']
            exact ((HX5.out.keepL (KeepL.set _ _ _ _) (by simpa using hXY)).keepL (KeepL.set _ _ _ _) (by simpa using hXY)).keepL (KeepL.set _ _ _ _) (by simpa using hXY))
          clear hw6' y4 y5 y6 f4 f5 f6
          have HS2 : Hid (∀ W, Below w6.heap.size w6 W → W.cell? ⟨N, 1, none⟩ = some (.map (some bl)) ∧ W.cell? ⟨X, 0, none⟩ = some (encS q.1) ∧ W.cell? ⟨X, 1, none⟩ = some (encS q.2) ∧ W.cell? ⟨Y, 0, none⟩ = some (.int .i64 x1) ∧ W.cell? ⟨Y, 1, none⟩ = some (.int .i64 x2) ∧ W.cell? ⟨Y, 2, none⟩ = some (.int .i64 x3) ∧ W.cell? ⟨Y, 3, none⟩ = some (.int .i64 x4) ∧ W.cell? ⟨Y, 4, none⟩ = some (.int .i64 (x5 + f)) ∧ W.cell? ⟨Y, 5, none⟩ = some (.int .i64 (x6 + hd)) ∧ W.cell? ⟨Y, 6, none⟩ = some (.int .i64 (x7 + sp))) := Lib.hid fun W hW => by
            have hx := HBX6.out.past hW HBX6.out.lt
            have hy := HBY6.out.past hW HBY6.out.lt
            exact ⟨HN1.out W (bnextK HB6.out hW), by rw [hx.cell]; rfl, by rw [hx.cell]; rfl, by rw [hy.cell]; rfl, by rw [hy.cell]; rfl, by rw [hy.cell]; rfl, by rw [hy.cell]; rfl, by rw [hy.cell]; rfl, by rw [hy.cell]; rfl, by rw [hy.cell]; rfl⟩
          have HNOW : Hid (Below w6.heap.size w6 w6.drew) := Lib.hid (Qw.below ⟨1, rfl⟩ _)
          have HM6 : Hid (MapL pairK w6.drew bl s.pairs (linksF (moveN s p f hd sp k))) := Lib.hid (HMK.out.keep (((Qw.below ⟨1, rfl⟩ w6.heap.size).block _ (Nat.lt_of_lt_of_le HMK.out.lt HB6.out.size)).trans (HB6.out.block _ HMK.out.lt)))
          refine wp_region_held_drew (S := (fun W => W.cell? ⟨N, 1, none⟩ = some (.map (some bl)) ∧ W.cell? ⟨X, 0, none⟩ = some (encS q.1) ∧ W.cell? ⟨X, 1, none⟩ = some (encS q.2) ∧ W.cell? ⟨Y, 0, none⟩ = some (.int .i64 x1) ∧ W.cell? ⟨Y, 1, none⟩ = some (.int .i64 x2) ∧ W.cell? ⟨Y, 2, none⟩ = some (.int .i64 x3) ∧ W.cell? ⟨Y, 3, none⟩ = some (.int .i64 x4) ∧ W.cell? ⟨Y, 4, none⟩ = some (.int .i64 (x5 + f)) ∧ W.cell? ⟨Y, 5, none⟩ = some (.int .i64 (x6 + hd)) ∧ W.cell? ⟨Y, 6, none⟩ = some (.int .i64 (x7 + sp)))) (by kernel_rfl) ?_ (fun hHeld => ?_)
          · (try dsimp only); exact HS2.out _ HNOW.out
          refine wpAnyH_take (i := 0) (oi := ⟨some 56, _, _, _, _, _⟩) (v := ?_) rfl (by kernel_rfl) (by kernel_rfl) (by kernel_rfl) (fun _ _ _ h => h) (Or.inl ⟨by rfl, ?_⟩) (by assumption) ?_; rotate_left
          · intro w hSw; (try dsimp only at hSw); go_simp; try with_reducible rfl
          try simp only [Act.put, setIfInBounds_toArray, set_cons_zero, set_cons_succ]
          refine wpAnyH_take (i := 1) (oi := ⟨some 57, _, _, _, _, _⟩) (v := ?_) rfl (by kernel_rfl) (by kernel_rfl) (by kernel_rfl) (fun _ _ _ h => h) (Or.inl ⟨by rfl, ?_⟩) (by assumption) ?_; rotate_left
          · intro w hSw; (try dsimp only at hSw); go_simp; try with_reducible rfl
          try simp only [Act.put, setIfInBounds_toArray, set_cons_zero, set_cons_succ]
          refine wpAnyH_take (i := 2) (oi := ⟨some 58, _, _, _, _, _⟩) (v := ?_) rfl (by kernel_rfl) (by kernel_rfl) (by kernel_rfl) (fun _ _ _ h => h) (Or.inl ⟨by rfl, ?_⟩) (by assumption) ?_; rotate_left
          · intro w hSw; (try dsimp only at hSw); go_simp; try with_reducible rfl
          try simp only [Act.put, setIfInBounds_toArray, set_cons_zero, set_cons_succ]
          refine wpAnyH_take (i := 3) (oi := ⟨some 59, _, _, _, _, _⟩) (v := ?_) rfl (by kernel_rfl) (by kernel_rfl) (by kernel_rfl) (fun _ _ _ h => h) (Or.inl ⟨by rfl, ?_⟩) (by assumption) ?_; rotate_left
          · intro w hSw; (try dsimp only at hSw); go_simp; try with_reducible rfl
          try simp only [Act.put, setIfInBounds_toArray, set_cons_zero, set_cons_succ]
          refine wpAnyH_take (i := 4) (oi := ⟨some 60, _, _, _, _, _⟩) (v := ?_) rfl (by kernel_rfl) (by kernel_rfl) (by kernel_rfl) (fun _ _ _ h => h) (Or.inl ⟨by rfl, ?_⟩) (by assumption) ?_; rotate_left
          · intro w hSw; (try dsimp only at hSw); go_simp; try with_reducible rfl
          try simp only [Act.put, setIfInBounds_toArray, set_cons_zero, set_cons_succ]
          refine wpAnyH_take (i := 5) (oi := ⟨some 61, _, _, _, _, _⟩) (v := ?_) rfl (by kernel_rfl) (by kernel_rfl) (by kernel_rfl) (fun _ _ _ h => h) (Or.inl ⟨by rfl, ?_⟩) (by assumption) ?_; rotate_left
          · intro w hSw; (try dsimp only at hSw); go_simp; try with_reducible rfl
          try simp only [Act.put, setIfInBounds_toArray, set_cons_zero, set_cons_succ]
          refine wpAnyH_ready (rs := [6]) (by kernel_rfl) (by simp) ?_
          refine AllReadyH.cons (o := ⟨none, _, _, _, _, _⟩) rfl (fun K hK => ?_) AllReadyH.nil
          obtain ⟨w8, hr8, hm8, hg8⟩ := HM6.out.store Tryz.underlying52 (x := q) (HLEN.out q HQM.out) (.agg #[.int .i64 x1, .int .i64 x2, .int .i64 x3, .int .i64 x4, .int .i64 (x5 + f), .int .i64 (x6 + hd), .int .i64 (x7 + sp)]) (by have := HNET.out.ok.pn; omega)
          rw [if_pos HQM.out] at hm8
          have HMN : Hid (MapL pairK w8 bl s.pairs (linksF (moveN s p f hd sp (k + 1)))) := Lib.hid (hm8.same (fun y _ => linksF_step s p f hd sp k HQ.out HQM.out HQV.out y))
          have HKN : Hid (KeepL [bl] w w8) := Lib.hid ((HKP.out.trans (KeepL.of_below (bnextK HB6.out (Qw.below ⟨1, rfl⟩ _)))).trans (KeepL.grown hg8 (fun k hk _ => by injection hk with hk; simp [hk])))
          have HS3 : Hid (w8.cell? ⟨N, 1, none⟩ = some (.map (some bl)) ∧ w8.cell? ⟨X, 0, none⟩ = some (encS q.1) ∧ w8.cell? ⟨X, 1, none⟩ = some (encS q.2) ∧ w8.cell? ⟨Y, 0, none⟩ = some (.int .i64 x1) ∧ w8.cell? ⟨Y, 1, none⟩ = some (.int .i64 x2) ∧ w8.cell? ⟨Y, 2, none⟩ = some (.int .i64 x3) ∧ w8.cell? ⟨Y, 3, none⟩ = some (.int .i64 x4) ∧ w8.cell? ⟨Y, 4, none⟩ = some (.int .i64 (x5 + f)) ∧ w8.cell? ⟨Y, 5, none⟩ = some (.int .i64 (x6 + hd)) ∧ w8.cell? ⟨Y, 6, none⟩ = some (.int .i64 (x7 + sp))) := Lib.hid (by
            obtain ⟨q0, q1, q2, q3, q4, q5, q6, q7, q8, q9⟩ := HS2.out _ HNOW.out
            exact ⟨cell_grown_map HM6.out hg8 q0, cell_grown_map HM6.out hg8 q1, cell_grown_map HM6.out hg8 q2, cell_grown_map HM6.out hg8 q3, cell_grown_map HM6.out hg8 q4, cell_grown_map HM6.out hg8 q5, cell_grown_map HM6.out hg8 q6, cell_grown_map HM6.out hg8 q7, cell_grown_map HM6.out hg8 q8, cell_grown_map HM6.out hg8 q9⟩)
          refine step_mapUpdate 52 _ _ _ rfl rfl rfl rfl rfl hr8 ?_
          clear hr8 hm8 hg8
          refine hK.out _ _ ?_ (fun hHeld => ?_)
          · (try dsimp only); exact HS3.out
          clear hK K
          try simp only [Act.put]
          refine wpAnyH_done (by kernel_rfl) ?_ _
          go_wp2_with fail
          go_roundw
          case rel => exact ⟨k + 1, by omega, by go_num, HMN.out, HKN.out⟩
          case measure => simp [intOf]; omega
    · have hki : ¬ (k : Int) < (p.length : Int) - 1 := by omega
      obtain rfl : k = p.length - 1 := by omega
      go_wp2_with fail
      go_end0
      exact ⟨rfl, HNET.out.links_to HKP.out HMK.out (moveG_same s p f hd sp) HOK.out, HKP.out⟩
def lenE (n : Int) : Int := if n ≤ 256 then 0 else 4
def argsE (n k need : Int) : Int := if n = 0 ∨ k < 1 ∨ 4 < k ∨ need < 1 ∨ k < need then 3 else 0
def coinE (n m need : Int) : Int := if (m != IntKind.i64.wrap (IntKind.i64.wrap (need - 1) * n)) = true then 22 else 0
def fullE (s : NS) : Int := if s.sents.length = 256 then 12 else 0
def sendXE (s : NS) (n m need : Int) : Int := firstE [coinE n m need, fullE s]
def sendE (s : NS) (a b : Nm) (n k need m : Int) : Int := firstE [endsE s a b, lenE n, argsE n k need, sendXE s n m need]
theorem SentsAt.form {w : World} {v : Value} {l : List SentM} (h : SentsAt w v l) : ∃ A c, v = .slice A l.length c ∧ l.length ≤ c := by
  obtain ⟨vals, h1, _⟩ := h
  exact own_form h1
/-- What stays while Send's own conditions are made. -/
def SdS (w : World) (p0 p1 p2 p3 N : Nat) (cv : Value) (need n : Int) (w' : World) : Prop := w'.cell? ⟨p0, 0, none⟩ = some (.pointer (some ⟨N, 0, none⟩)) ∧ w'.cell? ⟨p1, 0, none⟩ = some cv ∧ w'.cell? ⟨p2, 0, none⟩ = some (.int .i64 need) ∧ w'.cell? ⟨p3, 0, none⟩ = some (.int .i64 n) ∧ Below w.heap.size w w'
theorem SdS.far {w W W' : World} {p0 p1 p2 p3 N : Nat} {cv : Value} {need n : Int} (h : SdS w p0 p1 p2 p3 N cv need n W) (hb : Below W.heap.size W W') : SdS w p0 p1 p2 p3 N cv need n W' :=
  ⟨(hb.cell (p := ⟨p0, 0, none⟩) (cell_lt h.1)).trans h.1, (hb.cell (p := ⟨p1, 0, none⟩) (cell_lt h.2.1)).trans h.2.1, (hb.cell (p := ⟨p2, 0, none⟩) (cell_lt h.2.2.1)).trans h.2.2.1, (hb.cell (p := ⟨p3, 0, none⟩) (cell_lt h.2.2.2.1)).trans h.2.2.2.1, bnextK h.2.2.2.2 hb⟩
set_option maxHeartbeats 4000000 in
set_option maxRecDepth 100000 in
theorem send1_any {w : World} {N : Nat} {s : NS} {bn bl : Nat} {vh vs : Value} (h : NetAt w N s bn bl vh vs) (A : Option Addr) (m c : Nat) (n need : Int) (p0 p1 p2 p3 : Nat)
    (h0 : w.cell? ⟨p0, 0, none⟩ = some (.pointer (some ⟨N, 0, none⟩))) (h1 : w.cell? ⟨p1, 0, none⟩ = some (.slice A m c)) (h2 : w.cell? ⟨p2, 0, none⟩ = some (.int .i64 need)) (h3 : w.cell? ⟨p3, 0, none⟩ = some (.int .i64 n)) :
    Calls Tryz.prog 49 #[.pointer (some ⟨p0, 0, none⟩), .pointer (some ⟨p1, 0, none⟩), .pointer (some ⟨p2, 0, none⟩), .pointer (some ⟨p3, 0, none⟩)] w (AnsN (sendXE s n m need) w) := by
  have HU1 : Hid (∀ (z : Bool) W, z = ((m : Int) != IntKind.i64.wrap (IntKind.i64.wrap (need - 1) * n)) → Calls Tryz.prog 14 #[.bool z, .int .i64 22] W (CondP (coinE n m need) W)) := Lib.hid fun z W hz => unless_P _ 22 _ W (by subst hz; rfl)
  have HU2 : Hid (∀ (z : Bool) W, z = ((s.sents.length : Int) == 256) → Calls Tryz.prog 14 #[.bool z, .int .i64 12] W (CondP (fullE s) W)) := Lib.hid fun z W hz => unless_P _ 12 _ W (by
    subst hz
    unfold fullE
    by_cases hl : s.sents.length = 256
    · rw [if_pos hl, hl]; rfl
    · rw [if_neg hl, if_neg (by simp; omega)])
  have HA : Hid (∀ (W : World) (f1 f2 : Value) (g : Nat), SdS w p0 p1 p2 p3 N (.slice A m c) need n W → CondOK W f1 (coinE n m need) → CondOK W f2 (fullE s) → W.heap.size = g →
      Calls Tryz.prog 13 #[.pointer (some ⟨N, 0, none⟩), .slice (some ⟨g, 0, none⟩) 2 2] (W.alloc (.cells #[f1, f2] 59)) (AnsN (sendXE s n m need) (W.alloc (.cells #[f1, f2] 59)))) := Lib.hid fun W f1 f2 g hW k1 k2 hg => by
    refine ask_made (h.far hW.2.2.2.2) [(f1, coinE n m need), (f2, fullE s)] _ rfl 2 rfl (by omega) ?_ g hg
    intro x hx
    simp only [List.mem_cons, List.not_mem_nil, or_false] at hx
    rcases hx with rfl | rfl
    · exact k1
    · exact k2
  obtain ⟨As, cs, hvs, hcs⟩ := h.sents.form
  have HS5 : Hid (∀ W, Below w.heap.size w W → W.cell? ⟨N, 5, none⟩ = some (.slice As s.sents.length cs)) := Lib.hid fun W hW => by
    rw [(h.far hW).blk.cell, ← hvs]; rfl
  have HSH : Hid (∀ W, SdS w p0 p1 p2 p3 N (.slice A m c) need n W → W.cell? ⟨p0, 0, none⟩ = some (.pointer (some ⟨N, 0, none⟩)) ∧ W.cell? ⟨p1, 0, none⟩ = some (.slice A m c) ∧ W.cell? ⟨p2, 0, none⟩ = some (.int .i64 need) ∧ W.cell? ⟨p3, 0, none⟩ = some (.int .i64 n) ∧ W.cell? ⟨N, 5, none⟩ = some (.slice As s.sents.length cs)) := Lib.hid fun W h => ⟨h.1, h.2.1, h.2.2.1, h.2.2.2.1, HS5.out _ h.2.2.2.2⟩
  have HNOW : Hid (SdS w p0 p1 p2 p3 N (.slice A m c) need n w.drew) := Lib.hid ⟨h0, h1, h2, h3, Qw.below ⟨1, rfl⟩ _⟩
  generalize sendXE s n m need = ev at *
  generalize coinE n m need = e1 at *
  generalize fullE s = e2 at *
  generalize s.sents.length = ln at *
  clear h h0 h1 h2 h3
  go_enter Tryz.func49, Tryz.ntmps49
  go_wp2_with fail
  refine wp_region_held_drew (S := (fun W => W.cell? ⟨p0, 0, none⟩ = some (.pointer (some ⟨N, 0, none⟩)) ∧ W.cell? ⟨p1, 0, none⟩ = some (.slice A m c) ∧ W.cell? ⟨p2, 0, none⟩ = some (.int .i64 need) ∧ W.cell? ⟨p3, 0, none⟩ = some (.int .i64 n) ∧ W.cell? ⟨N, 5, none⟩ = some (.slice As ln cs))) (by kernel_rfl) ?_ (fun hHeld => ?_)
  · (try dsimp only); first | exact HSH.out _ HNOW.out | exact HSH.out _ (SdS.far HNOW.out (below_alloc _ _))
  refine wpAnyH_take (i := 0) (oi := ⟨some 5, _, _, _, _, _⟩) (v := ?_) rfl (by kernel_rfl) (by kernel_rfl) (by kernel_rfl) (fun _ _ _ h => h) (Or.inl ⟨by rfl, ?_⟩) (by assumption) ?_; rotate_left
  · intro w hSw; (try dsimp only at hSw); go_simp; try with_reducible rfl
  try simp only [Act.put, setIfInBounds_toArray, set_cons_zero, set_cons_succ]
  refine wpAnyH_take (i := 1) (oi := ⟨some 6, _, _, _, _, _⟩) (v := ?_) rfl (by kernel_rfl) (by kernel_rfl) (by kernel_rfl) (fun _ _ _ h => h) (Or.inl ⟨by rfl, ?_⟩) (by assumption) ?_; rotate_left
  · intro w hSw; (try dsimp only at hSw); go_simp; try with_reducible rfl
  try simp only [Act.put, setIfInBounds_toArray, set_cons_zero, set_cons_succ]
  refine wpAnyH_take (i := 2) (oi := ⟨some 7, _, _, _, _, _⟩) (v := ?_) rfl (by kernel_rfl) (by kernel_rfl) (by kernel_rfl) (fun _ _ _ h => h) (Or.inl ⟨by rfl, ?_⟩) (by assumption) ?_; rotate_left
  · intro w hSw; (try dsimp only at hSw); go_simp; try with_reducible rfl
  try simp only [Act.put, setIfInBounds_toArray, set_cons_zero, set_cons_succ]
  refine wpAnyH_take (i := 3) (oi := ⟨some 8, _, _, _, _, _⟩) (v := ?_) rfl (by kernel_rfl) (by kernel_rfl) (by kernel_rfl) (fun _ _ _ h => h) (Or.inl ⟨by rfl, ?_⟩) (by assumption) ?_; rotate_left
  · intro w hSw; (try dsimp only at hSw); go_simp; try with_reducible rfl
  try simp only [Act.put, setIfInBounds_toArray, set_cons_zero, set_cons_succ]
  refine wpAnyH_take (i := 4) (oi := ⟨some 9, _, _, _, _, _⟩) (v := ?_) rfl (by kernel_rfl) (by kernel_rfl) (by kernel_rfl) (fun _ _ _ h => h) (Or.inl ⟨by rfl, ?_⟩) (by assumption) ?_; rotate_left
  · intro w hSw; (try dsimp only at hSw); go_simp; try with_reducible rfl
  try simp only [Act.put, setIfInBounds_toArray, set_cons_zero, set_cons_succ]
  refine wpAnyH_take (i := 5) (oi := ⟨some 10, _, _, _, _, _⟩) (v := ?_) rfl (by kernel_rfl) (by kernel_rfl) (by kernel_rfl) (fun _ _ _ h => h) (Or.inl ⟨by rfl, ?_⟩) (by assumption) ?_; rotate_left
  · intro w hSw; (try dsimp only at hSw); go_simp; try with_reducible rfl
  try simp only [Act.put, setIfInBounds_toArray, set_cons_zero, set_cons_succ]
  refine wpAnyH_take (i := 6) (oi := ⟨some 11, _, _, _, _, _⟩) (v := ?_) rfl (by kernel_rfl) (by kernel_rfl) (by kernel_rfl) (fun _ _ _ h => h) (Or.inl ⟨by rfl, ?_⟩) (by assumption) ?_; rotate_left
  · intro w hSw; (try dsimp only at hSw); go_simp; try with_reducible rfl
  try simp only [Act.put, setIfInBounds_toArray, set_cons_zero, set_cons_succ]
  refine wpAnyH_take (i := 7) (oi := ⟨some 12, _, _, _, _, _⟩) (v := ?_) rfl (by kernel_rfl) (by kernel_rfl) (by kernel_rfl) (fun _ _ _ h => h) (Or.inl ⟨by rfl, ?_⟩) (by assumption) ?_; rotate_left
  · intro w hSw; (try dsimp only at hSw); go_simp; try with_reducible rfl
  try simp only [Act.put, setIfInBounds_toArray, set_cons_zero, set_cons_succ]
  refine wpAnyH_take (i := 9) (oi := ⟨some 14, _, _, _, _, _⟩) (v := ?_) rfl (by kernel_rfl) (by kernel_rfl) (by kernel_rfl) (fun _ _ _ h => h) (Or.inl ⟨by rfl, ?_⟩) (by assumption) ?_; rotate_left
  · intro w hSw; (try dsimp only at hSw); go_simp; try with_reducible rfl
  try simp only [Act.put, setIfInBounds_toArray, set_cons_zero, set_cons_succ]
  refine wpAnyH_take (i := 10) (oi := ⟨some 15, _, _, _, _, _⟩) (v := ?_) rfl (by kernel_rfl) (by kernel_rfl) (by kernel_rfl) (fun _ _ _ h => h) (Or.inl ⟨by rfl, ?_⟩) (by assumption) ?_; rotate_left
  · intro w hSw; (try dsimp only at hSw); go_simp; try with_reducible rfl
  try simp only [Act.put, setIfInBounds_toArray, set_cons_zero, set_cons_succ]
  refine wpAnyH_take (i := 11) (oi := ⟨some 16, _, _, _, _, _⟩) (v := ?_) rfl (by kernel_rfl) (by kernel_rfl) (by kernel_rfl) (fun _ _ _ h => h) (Or.inl ⟨by rfl, ?_⟩) (by assumption) ?_; rotate_left
  · intro w hSw; (try dsimp only at hSw); go_simp; try with_reducible rfl
  try simp only [Act.put, setIfInBounds_toArray, set_cons_zero, set_cons_succ]
  refine wpAnyH_take (i := 12) (oi := ⟨some 17, _, _, _, _, _⟩) (v := ?_) rfl (by kernel_rfl) (by kernel_rfl) (by kernel_rfl) (fun _ _ _ h => h) (Or.inl ⟨by rfl, ?_⟩) (by assumption) ?_; rotate_left
  · intro w hSw; (try dsimp only at hSw); go_simp; try with_reducible rfl
  try simp only [Act.put, setIfInBounds_toArray, set_cons_zero, set_cons_succ]
  refine wpAnyH_take (i := 13) (oi := ⟨some 18, _, _, _, _, _⟩) (v := ?_) rfl (by kernel_rfl) (by kernel_rfl) (by kernel_rfl) (fun _ _ _ h => h) (Or.inl ⟨by rfl, ?_⟩) (by assumption) ?_; rotate_left
  · intro w hSw; (try dsimp only at hSw); go_simp; try with_reducible rfl
  try simp only [Act.put, setIfInBounds_toArray, set_cons_zero, set_cons_succ]
  refine wpAnyH_take (i := 14) (oi := ⟨some 19, _, _, _, _, _⟩) (v := ?_) rfl (by kernel_rfl) (by kernel_rfl) (by kernel_rfl) (fun _ _ _ h => h) (Or.inl ⟨by rfl, ?_⟩) (by assumption) ?_; rotate_left
  · intro w hSw; (try dsimp only at hSw); go_simp; try with_reducible rfl
  try simp only [Act.put, setIfInBounds_toArray, set_cons_zero, set_cons_succ]
  refine wpAnyH_ready (rs := [8]) (by kernel_rfl) (by simp) ?_
  refine AllReadyH.cons (o := ⟨some 13, _, _, _, _, _⟩) rfl (fun K hK => ?_) AllReadyH.nil
  go_simp
  refine (HU1.out _ _ rfl).mono ?_
  rintro e w3 ⟨f3, rfl, k3, b3⟩
  obtain ⟨fn3, cap3, rfl, _⟩ := id k3
  have HNOW := Lib.hid (SdS.far HNOW.out b3)
  go_wp2_with fail
  refine hK.out _ _ ?_ (fun hHeld => ?_)
  · (try dsimp only); first | exact HSH.out _ HNOW.out | exact HSH.out _ (SdS.far HNOW.out (below_alloc _ _))
  clear hK K
  try simp only [Act.put, setIfInBounds_toArray, set_cons_zero, set_cons_succ]
  refine wpAnyH_ready (rs := [15]) (by kernel_rfl) (by simp) ?_
  refine AllReadyH.cons (o := ⟨some 20, _, _, _, _, _⟩) rfl (fun K hK => ?_) AllReadyH.nil
  go_simp
  refine (HU2.out _ _ rfl).mono ?_
  rintro e w4 ⟨f4, rfl, k4, b4⟩
  obtain ⟨fn4, cap4, rfl, _⟩ := id k4
  have k3 := CondOK.far k3 b4
  have HNOW := Lib.hid (SdS.far HNOW.out b4)
  go_wp2_with fail
  refine hK.out _ _ ?_ (fun hHeld => ?_)
  · (try dsimp only); first | exact HSH.out _ HNOW.out | exact HSH.out _ (SdS.far HNOW.out (below_alloc _ _))
  clear hK K
  try simp only [Act.put, setIfInBounds_toArray, set_cons_zero, set_cons_succ]
  refine wpAnyH_ready (rs := [16]) (by kernel_rfl) (by simp) ?_
  refine AllReadyH.cons (o := ⟨some 21, _, _, _, _, _⟩) rfl (fun K hK => ?_) AllReadyH.nil
  go_simp
  refine hK.out _ _ ?_ (fun hHeld => ?_)
  · (try dsimp only); first | exact HSH.out _ HNOW.out | exact HSH.out _ (SdS.far HNOW.out (below_alloc _ _))
  clear hK K
  try simp only [Act.put, setIfInBounds_toArray, set_cons_zero, set_cons_succ]
  refine wpAnyH_ready (rs := [17]) (by kernel_rfl) (by simp) ?_
  refine AllReadyH.cons (o := ⟨some 22, _, _, _, _, _⟩) rfl (fun K hK => ?_) AllReadyH.nil
  go_simp
  refine (HA.out _ _ _ _ HNOW.out k3 k4 rfl).mono ?_
  rintro e w5 ⟨rfl, b5⟩
  have HNOW := Lib.hid (SdS.far (SdS.far HNOW.out (below_alloc _ _)) b5)
  go_wp2_with fail
  refine hK.out _ _ ?_ (fun hHeld => ?_)
  · (try dsimp only); first | exact HSH.out _ HNOW.out | exact HSH.out _ (SdS.far HNOW.out (below_alloc _ _))
  clear hK K
  try simp only [Act.put, setIfInBounds_toArray, set_cons_zero, set_cons_succ]
  refine wpAnyH_take (i := 18) (oi := ⟨some 4, _, _, _, _, _⟩) (v := ?_) rfl (by kernel_rfl) (by kernel_rfl) (by kernel_rfl) (fun _ _ _ h => h) (Or.inl ⟨by rfl, ?_⟩) (by assumption) ?_; rotate_left
  · intro w hSw; (try dsimp only at hSw); go_simp; try with_reducible rfl
  try simp only [Act.put, setIfInBounds_toArray, set_cons_zero, set_cons_succ]
  refine wpAnyH_done (by kernel_rfl) ?_ _
  go_wp2_with fail
  go_ret
  exact ⟨rfl, HNOW.out.2.2.2.2⟩
def totL (x : LkV) : Int := x.free + x.held + x.spent
/-- What each call keeps. -/
structure Step (s s' : NS) : Prop where
  nodes : s'.nodes = s.nodes
  pairs : s'.pairs = s.pairs
  fen : ∀ x, s.fen x = true → s'.fen x = true
  cap : ∀ q, (s'.lk q).cap = (s.lk q).cap
  now : s.now ≤ s'.now
  sum : ∀ q ∈ s.pairs, totL (s.lk q) ≤ totL (s'.lk q) ∧ (s'.now = s.now → totL (s'.lk q) = totL (s.lk q))
  sents : ∃ l, s'.sents = s.sents ++ l ∧ ∀ t ∈ l, ∀ p ∈ t.paths, ∀ x ∈ p, s.fen x = false
theorem Step.refl (s : NS) : Step s s := ⟨rfl, rfl, fun _ h => h, fun _ => rfl, Int.le_refl _, fun _ _ => ⟨Int.le_refl _, fun _ => rfl⟩, [], by simp, by simp⟩
theorem Step.trans {a b c : NS} (h : Step a b) (k : Step b c) : Step a c := by
  obtain ⟨l, hl, hl2⟩ := h.sents
  obtain ⟨m, hm, hm2⟩ := k.sents
  refine ⟨k.nodes.trans h.nodes, k.pairs.trans h.pairs, fun x hx => k.fen x (h.fen x hx), fun q => (k.cap q).trans (h.cap q), Int.le_trans h.now k.now, fun q hq => ?_, l ++ m, by rw [hm, hl, List.append_assoc], fun t ht p hp x hx => ?_⟩
  · have h1 := h.sum q hq
    have h2 := k.sum q (by rw [h.pairs]; exact hq)
    have h3 := h.now; have h4 := k.now
    refine ⟨Int.le_trans h1.1 h2.1, fun e => ?_⟩
    rw [h2.2 (by omega), h1.2 (by omega)]
  · rcases List.mem_append.1 ht with h1 | h1
    · exact hl2 t h1 p hp x hx
    · have := hm2 t h1 p hp x hx
      cases hf : a.fen x with
      | false => rfl
      | true => rw [h.fen x hf] at this; cases this
/-- Another state with the same nodes, links and time. -/
theorem Step.plain {s s' : NS} (e1 : s'.nodes = s.nodes) (e2 : s'.fen = s.fen) (e3 : s'.pairs = s.pairs) (e4 : s'.lk = s.lk) (e5 : s'.now = s.now) (e6 : s'.sents = s.sents) : Step s s' :=
  ⟨e1, e3, fun x h => by rw [e2]; exact h, fun q => by rw [e4], by rw [e5]; exact Int.le_refl _, fun q _ => by rw [e4]; exact ⟨Int.le_refl _, fun _ => rfl⟩, [], by rw [e6]; simp, by simp⟩
theorem Step.move {s : NS} {p : List Nm} {f h sp : Int} (hp : p.Nodup) (h0 : f + h + sp = 0) : Step s (moveG s p f h sp) := by
  obtain ⟨e1, e2, e3, e4, e5, e6, e7⟩ := moveG_same s p f h sp
  refine ⟨e1, e3, fun x h => by rw [e2]; exact h, fun q => ?_, by rw [e4]; exact Int.le_refl _, fun q _ => ?_, [], by rw [e7]; simp, by simp⟩
  · rw [moveG_lk hp]; split <;> rfl
  · rw [moveG_lk hp]
    split
    · have : totL (addLk (s.lk q) f h sp) = totL (s.lk q) := by unfold totL addLk; dsimp only; omega
      rw [this]; exact ⟨Int.le_refl _, fun _ => rfl⟩
    · exact ⟨Int.le_refl _, fun _ => rfl⟩
theorem Step.moves {f h sp : Int} (h0 : f + h + sp = 0) : ∀ (ps : List (List Nm)) (s : NS), (∀ p ∈ ps, p.Nodup) → Step s (moves s ps f h sp)
  | [], s, _ => Step.refl s
  | p :: ps, s, hp => (Step.move (hp p (by simp)) h0).trans (Step.moves h0 ps _ (fun q hq => hp q (by simp [hq])))
theorem Step.drop {P : HoldM → Bool} {s : NS} {l : List HoldM} (h : ∀ x ∈ l, x.path.Nodup) : Step s (dropF P s l).1 := by
  have key : ∀ (l : List HoldM) (y : NS × List HoldM), (∀ x ∈ l, x.path.Nodup) → Step s y.1 → Step s (l.foldl (dropStep P) y).1 := fun l => by
    induction l with
    | nil => intro y _ hy; exact hy
    | cons x l ih =>
      intro y hl hy
      rw [List.foldl_cons]
      refine ih _ (fun z hz => hl z (by simp [hz])) ?_
      unfold dropStep
      split
      · exact hy.trans (Step.move (hl x (by simp)) (by omega))
      · exact hy
  exact key l (s, []) h (Step.refl s)
/-- The paths of transfers. -/
def TOK (l : List SentM) : Prop := ∀ t ∈ l, 1 ≤ t.paths.length ∧ t.paths.length ≤ 16 ∧ ∀ p ∈ t.paths, 2 ≤ p.length ∧ p.length ≤ 16
/-- What holds between calls. -/
structure NI (s : NS) : Prop where
  held : HeldBy s s.holds
  hl : s.holds.length ≤ 64
  sl : s.sents.length ≤ 256
  tok : TOK s.sents
  clr : ∀ h ∈ s.holds, ∀ x ∈ h.path, s.fen x = false
theorem HeldBy.to {s s' : NS} {l : List HoldM} (h : HeldBy s l) (e1 : s'.nodes = s.nodes) (e3 : s'.pairs = s.pairs) (e4 : ∀ q ∈ s.pairs, (s'.lk q).held = (s.lk q).held) : HeldBy s' l :=
  ⟨fun x hx => (h.each x hx).same e1 e3, fun q hq => by rw [e3] at hq; rw [e4 q hq]; exact h.held q hq⟩
theorem NSOK.to {s s' : NS} (h : NSOK s) (e1 : s'.nodes = s.nodes) (e3 : s'.pairs = s.pairs) (e4 : s'.lk = s.lk) (e5 : s'.now = s.now) : NSOK s' :=
  ⟨by rw [e1]; exact h.nod, by rw [e1]; exact h.nn, by rw [e1]; exact h.named, by rw [e3]; exact h.pod, by rw [e3]; exact h.pn, by rw [e3, e1]; exact h.pin, by rw [e3, e4, e5]; exact h.lk, by rw [e5]; exact h.now⟩
def dropS' (P : HoldM → Bool) (s : NS) : NS := { (dropF P s s.holds).1 with holds := (dropF P s s.holds).2 }
theorem dropS_ok {P : HoldM → Bool} {s : NS} (hok : NSOK s) (hh : HeldBy s s.holds) : NSOK (dropS' P s) ∧ HeldBy (dropS' P s) (dropS' P s).holds ∧ Step s (dropS' P s) := by
  obtain ⟨h1, h2, h3⟩ := dropF_at (P := P) hok hh s.holds.length (Nat.le_refl _)
  rw [List.take_length] at h1 h2 h3
  rw [List.drop_length, List.append_nil] at h2
  have hs := Step.drop (P := P) (s := s) (l := s.holds) (fun x hx => (hh.each x hx).nodup)
  exact ⟨h1.to rfl rfl rfl rfl, h2.to rfl rfl (fun _ _ => rfl), hs.trans (Step.plain rfl rfl rfl rfl rfl rfl)⟩
theorem dropS_fen (P : HoldM → Bool) {s : NS} (hok : NSOK s) (hh : HeldBy s s.holds) : (dropS' P s).fen = s.fen ∧ (dropS' P s).now = s.now ∧ (dropS' P s).sents = s.sents ∧ (dropS' P s).last = s.last ∧ (dropS' P s).holds = s.holds.filter fun h => !P h := by
  obtain ⟨_, _, h3⟩ := dropF_at (P := P) hok hh s.holds.length (Nat.le_refl _)
  rw [List.take_length] at h3
  exact ⟨h3.2.1, h3.2.2.2.1, h3.2.2.2.2.2.2, h3.2.2.2.2.1, dropF_left _ _ _⟩
/-- A fence. -/
def fenS (s : NS) (x : Nm) : NS := { s with fen := fun y => if y = x then true else s.fen y }
def onB (x : Nm) (h : HoldM) : Bool := h.path.contains x
theorem fence_ok {s : NS} (hok : NSOK s) (h : NI s) (x : Nm) : NSOK (dropS' (onB x) (fenS s x)) ∧ NI (dropS' (onB x) (fenS s x)) ∧ Step s (dropS' (onB x) (fenS s x)) ∧ (dropS' (onB x) (fenS s x)).fen x = true := by
  have k1 : NSOK (fenS s x) := hok.to rfl rfl rfl rfl
  have k2 : HeldBy (fenS s x) (fenS s x).holds := h.held.to rfl rfl (fun _ _ => rfl)
  obtain ⟨a1, a2, a3⟩ := dropS_ok (P := onB x) k1 k2
  obtain ⟨b1, b2, b3, b4, b5⟩ := dropS_fen (onB x) k1 k2
  have hs : Step s (fenS s x) := ⟨rfl, rfl, fun y hy => by unfold fenS; dsimp only; split <;> first | rfl | exact hy, fun _ => rfl, Int.le_refl _, fun _ _ => ⟨Int.le_refl _, fun _ => rfl⟩, [], by simp [fenS], by simp⟩
  refine ⟨a1, ⟨a2, ?_, by rw [b3]; exact h.sl, by rw [b3]; exact h.tok, fun y hy z hz => ?_⟩, hs.trans a3, ?_⟩
  · rw [b5]
    exact Nat.le_trans (List.length_filter_le _ _) h.hl
  · rw [b5, List.mem_filter] at hy
    rw [b1]
    have hne : z ≠ x := fun e => by
      subst e
      have h2 := hy.2
      simp [onB, hz] at h2
    show (if z = x then true else s.fen z) = false
    rw [if_neg hne]
    exact h.clr y hy.1 z hz
  · rw [b1]; show (if x = x then true else s.fen x) = true; rw [if_pos rfl]
/-- What a link gains. -/
def gainL (x : LkV) (was now : Int) : LkV := if x.gain = 0 then x else { x with free := x.free + min ((now / x.every - was / x.every) * x.gain) (x.cap - x.free - x.held) }
def gainS (s : NS) (was : Int) : NS := { s with lk := fun q => gainL (s.lk q) was s.now }
theorem gain_more {x : LkV} {was now : Int} (hw : 0 ≤ was) (hn : was ≤ now) (he : 1 ≤ x.every) (hg : 0 ≤ x.gain) : 0 ≤ (now / x.every - was / x.every) * x.gain := by
  refine Int.mul_nonneg ?_ hg
  have := Int.ediv_le_ediv (c := x.every) (by omega) hn
  omega
theorem gain_ok {s : NS} (hok : NSOK s) {was : Int} (hw : 0 ≤ was) (hn : was + 1 ≤ s.now) (hb : ∀ q ∈ s.pairs, totL (s.lk q) ≤ 65536 * (was + 1)) : NSOK (gainS s was) ∧ (∀ q ∈ s.pairs, totL (s.lk q) ≤ totL ((gainS s was).lk q)) ∧ (∀ q, ((gainS s was).lk q).cap = (s.lk q).cap) ∧ ∀ q, ((gainS s was).lk q).held = (s.lk q).held := by
  have e : ∀ q, (gainS s was).lk q = gainL (s.lk q) was s.now := fun _ => rfl
  refine ⟨⟨hok.nod, hok.nn, hok.named, hok.pod, hok.pn, hok.pin, fun q hq => ?_, hok.now⟩, fun q hq => ?_, fun q => ?_, fun q => ?_⟩
  · have hq : q ∈ s.pairs := hq
    have h0 := hok.lk q hq
    have h1 := hb q hq
    rw [e]
    show _ ∧ _ ∧ _ ∧ _ ∧ _ ∧ _ ∧ _ ∧ _ ∧ _ ∧ _ ≤ 65536 * (s.now + 1)
    unfold gainL
    unfold totL at h1
    split
    · omega
    · have hm := gain_more (x := s.lk q) hw (now := s.now) (by omega) (by omega) (by omega)
      dsimp only
      generalize (s.now / (s.lk q).every - was / (s.lk q).every) * (s.lk q).gain = m at *
      omega
  · have h0 := hok.lk q hq
    rw [e]
    unfold gainL totL
    split
    · exact Int.le_refl _
    · have hm := gain_more (x := s.lk q) hw (now := s.now) (by omega) (by omega) (by omega)
      dsimp only
      generalize (s.now / (s.lk q).every - was / (s.lk q).every) * (s.lk q).gain = m at *
      omega
  · rw [e]; unfold gainL; split <;> rfl
  · rw [e]; unfold gainL; split <;> rfl
/-- Time goes on. -/
def nowS (s : NS) (t : Int) : NS := { s with now := s.now + t }
def lateB (now : Int) (h : HoldM) : Bool := decide (h.til ≤ now)
def tickS (s : NS) (t : Int) : NS := gainS (dropS' (lateB (s.now + t)) (nowS s t)) s.now
theorem nowS_ok {s : NS} (hok : NSOK s) {t : Int} (h1 : 1 ≤ t) (h2 : s.now + t ≤ 1099511627776) : NSOK (nowS s t) :=
  ⟨hok.nod, hok.nn, hok.named, hok.pod, hok.pn, hok.pin, fun q hq => by
    have h0 := hok.lk q hq
    show _ ∧ _ ∧ _ ∧ _ ∧ _ ∧ _ ∧ _ ∧ _ ∧ _ ∧ _ ≤ 65536 * (s.now + t + 1)
    have e : (nowS s t).lk q = s.lk q := rfl
    rw [e]
    omega, by have := hok.now; show 0 ≤ s.now + t ∧ s.now + t ≤ _; omega⟩
theorem tick_ok {s : NS} (hok : NSOK s) (h : NI s) {t : Int} (h1 : 1 ≤ t) (h2 : s.now + t ≤ 1099511627776) : NSOK (tickS s t) ∧ NI (tickS s t) ∧ Step s (tickS s t) := by
  have k1 := nowS_ok hok h1 h2
  have k2 : HeldBy (nowS s t) (nowS s t).holds := h.held.to rfl rfl (fun _ _ => rfl)
  obtain ⟨a1, a2, a3⟩ := dropS_ok (P := lateB (s.now + t)) k1 k2
  obtain ⟨b1, b2, b3, b4, b5⟩ := dropS_fen (lateB (s.now + t)) k1 k2
  have hp := a3.pairs
  have hnow : (dropS' (lateB (s.now + t)) (nowS s t)).now = s.now + t := b2
  have hsum : ∀ q ∈ s.pairs, totL ((dropS' (lateB (s.now + t)) (nowS s t)).lk q) = totL (s.lk q) := fun q hq => (a3.sum q hq).2 b2
  have hcap := a3.cap
  have hnn := hok.now.1
  unfold tickS
  generalize dropS' (lateB (s.now + t)) (nowS s t) = D at *
  have hp' : D.pairs = s.pairs := hp
  obtain ⟨g1, g2, g3, g4⟩ := gain_ok (s := D) a1 (was := s.now) hnn (by omega) (fun q hq => by
    rw [hp'] at hq
    rw [hsum q hq]
    have h0 := hok.lk q hq
    unfold totL
    omega)
  have hst : Step s (gainS D s.now) := by
    refine ⟨a3.nodes, hp, fun x hx => ?_, fun q => (g3 q).trans (hcap q), ?_, fun q hq => ?_, [], ?_, by simp⟩
    · show D.fen x = true
      rw [b1]; exact hx
    · show s.now ≤ D.now
      omega
    · refine ⟨?_, fun e => ?_⟩
      · rw [← hsum q hq]; exact g2 q (by rw [hp']; exact hq)
      · have e : D.now = s.now := e
        omega
    · show D.sents = _
      rw [b3]; simp [nowS]
  refine ⟨g1, ⟨a2.to rfl rfl (fun q _ => g4 q), ?_, ?_, (by show TOK D.sents; rw [b3]; exact h.tok), fun y hy z hz => ?_⟩, hst⟩
  · show D.holds.length ≤ 64
    rw [b5]; exact Nat.le_trans (List.length_filter_le _ _) h.hl
  · show D.sents.length ≤ 256
    rw [b3]; exact h.sl
  · have hy : y ∈ D.holds := hy
    rw [b5, List.mem_filter] at hy
    show D.fen z = false
    rw [b1]; exact h.clr y hy.1 z hz
/-- The network without the i-th hold. -/
def takeS' (s : NS) (i : Nat) : NS := { s with holds := s.holds.take i ++ s.holds.drop (i + 1) }
/-- The i-th hold, given back or spent. -/
def backS (s : NS) (i : Nat) (x : HoldM) (f sp : Int) : NS := moveG (takeS' s i) x.path f (-x.bits) sp
theorem back_ok {s : NS} (hok : NSOK s) (h : NI s) {i : Nat} {x : HoldM} (hx : s.holds[i]? = some x) {f sp : Int} (hf : f + sp = x.bits) (hf0 : 0 ≤ f) (hs0 : 0 ≤ sp) : NSOK (backS s i x f sp) ∧ NI (backS s i x f sp) ∧ Step s (backS s i x f sp) := by
  obtain ⟨hi, e⟩ := List.getElem?_eq_some_iff.1 hx
  have hsp : s.holds = s.holds.take i ++ x :: s.holds.drop (i + 1) := by
    rw [← e, List.getElem_cons_drop, List.take_append_drop]
  have h1 : HeldBy (takeS' s i) (s.holds.take i ++ x :: s.holds.drop (i + 1)) := by
    have := h.held
    rw [hsp] at this
    exact this.to rfl rfl (fun _ _ => rfl)
  have k1 : NSOK (takeS' s i) := hok.to rfl rfl rfl rfl
  obtain ⟨a1, a2⟩ := h1.back k1 f sp hf hf0 hs0
  obtain ⟨e1, e2, e3, e4, e5, e6, e7⟩ := moveG_same (takeS' s i) x.path f (-x.bits) sp
  have hnd := (h1.each x (by simp)).nodup
  have hm : Step (takeS' s i) (moveG (takeS' s i) x.path f (-x.bits) sp) := Step.move hnd (by omega)
  have hstep : Step s (backS s i x f sp) := (Step.plain (s := s) (s' := takeS' s i) rfl rfl rfl rfl rfl rfl).trans hm
  have hsub : ∀ y ∈ s.holds.take i ++ s.holds.drop (i + 1), y ∈ s.holds := fun y hy => by
    rcases List.mem_append.1 hy with h1 | h1
    · exact List.mem_of_mem_take h1
    · exact List.mem_of_mem_drop h1
  refine ⟨a1, ⟨?_, ?_, ?_, (by show TOK (moveG (takeS' s i) x.path f (-x.bits) sp).sents; rw [e7]; exact h.tok), fun y hy z hz => ?_⟩, hstep⟩
  · show HeldBy _ (moveG (takeS' s i) x.path f (-x.bits) sp).holds
    rw [e6]; exact a2
  · show (moveG (takeS' s i) x.path f (-x.bits) sp).holds.length ≤ 64
    rw [e6]
    show (s.holds.take i ++ s.holds.drop (i + 1)).length ≤ 64
    have := h.hl
    simp; omega
  · show (moveG (takeS' s i) x.path f (-x.bits) sp).sents.length ≤ 256
    rw [e7]; exact h.sl
  · have hy : y ∈ (moveG (takeS' s i) x.path f (-x.bits) sp).holds := hy
    rw [e6] at hy
    show (moveG (takeS' s i) x.path f (-x.bits) sp).fen z = false
    rw [e2]
    exact h.clr y (hsub y hy) z hz
/-- A hold more. -/
def resS (s : NS) (bits til : Int) (p : List Nm) (id : Int) : NS := { moveG s p (-bits) bits 0 with last := id, holds := s.holds ++ [⟨id, p, bits, til⟩] }
theorem res_ok {s : NS} (hok : NSOK s) (h : NI s) {a b : Nm} {bits til id : Int} {p : List Nm} (hp : GoodN s bits a b p) (hb1 : 1 ≤ bits) (hb2 : bits ≤ 65536) (hl : s.holds.length ≠ 64) : NSOK (resS s bits til p id) ∧ NI (resS s bits til p id) ∧ Step s (resS s bits til p id) := by
  have hh : HolOK s ⟨id, p, bits, til⟩ := ⟨hp.len, hp.nodup, hp.mem, fun i hi => (hp.link i hi).1, hb1, hb2⟩
  obtain ⟨a1, a2⟩ := h.held.take hok hh (fun i hi => (hp.link i hi).2)
  obtain ⟨e1, e2, e3, e4, e5, e6, e7⟩ := moveG_same s p (-bits) bits 0
  refine ⟨a1.to rfl rfl rfl rfl, ⟨a2.to rfl rfl (fun _ _ => rfl), ?_, ?_, (by show TOK (moveG s p (-bits) bits 0).sents; rw [e7]; exact h.tok), fun y hy z hz => ?_⟩, (Step.move hp.nodup (by omega)).trans (Step.plain rfl rfl rfl rfl rfl rfl)⟩
  · show (s.holds ++ [_]).length ≤ 64
    have := h.hl
    simp; omega
  · show (moveG s p (-bits) bits 0).sents.length ≤ 256
    rw [e7]; exact h.sl
  · show (moveG s p (-bits) bits 0).fen z = false
    rw [e2]
    have hy : y ∈ s.holds ++ [⟨id, p, bits, til⟩] := hy
    rcases List.mem_append.1 hy with h1 | h1
    · exact h.clr y h1 z hz
    · rw [List.mem_singleton] at h1
      subst h1
      have h1 := hp.fen z hz
      have h2 := hp.mem z hz
      unfold fenB at h1
      simpa [h2] using h1
def mostG (s : NS) (bits : Int) (a b : Nm) (k : Nat) : Nat := countG (graphG s bits) (ixN s a) (ixN s b) k
theorem flow_names {w : World} {G : Nat} {s : NS} {bits : Int} (h : GX w w.heap.size G (namesG s) (graphG s bits)) (hok : NSOK s) (a b : Nm) (ha : a ∈ s.nodes) (hb : b ∈ s.nodes) (hab : a ≠ b) (k : Nat) (hk : k ≤ 1000) :
    Calls Tryz.prog 56 #[.pointer (some ⟨G, 0, none⟩), encS a, encS b, .int .i64 (k : Int)] w fun e w' => (∃ z : Int, z = mostG s bits a b k ∧ e = .returned (.int .i64 z)) ∧ Below w.heap.size w w' :=
  flow_any (h.at' (Nat.le_refl _)) (namesG_lt hok.nod) (ixN s a) (ixN s b) k a b (ixN_get ha) (ixN_get hb) (ixN_ne ha hb hab) hk
/-- What Most hands back. -/
def MostP (s : NS) (a b : Nm) (bits : Int) (w : World) (e : Ending) (w' : World) : Prop :=
  (∃ m z : Int, e = .returned (.tuple #[.int .i64 m, .int .i64 z]) ∧ z = routeE s a b bits ∧ m = if routeE s a b bits = 0 then (mostG s bits a b 16 : Int) else 0) ∧ Below w.heap.size w w'
set_option maxRecDepth 100000 in
set_option maxHeartbeats 4000000 in
theorem Most_any {w : World} {N : Nat} {s : NS} {bn bl : Nat} {vh vs : Value} (h : NetAt w N s bn bl vh vs) (a b : Nm) (bits : Int) (ha : a.length ≤ maxLen) (hb : b.length ≤ maxLen) :
    Calls Tryz.prog 33 #[.pointer (some ⟨N, 0, none⟩), encS a, encS b, .int .i64 bits] w (MostP s a b bits w) := by
  have HE := Lib.hid (ends_any h a b ha hb)
  have HM := Lib.hid (fun W => amount_any bits W)
  have HA : Hid (∀ (W : World) (f1 f2 : Value) (g : Nat), Below w.heap.size w W → CondOK W f1 (endsE s a b) → CondOK W f2 (amtE bits) → W.heap.size = g →
      Calls Tryz.prog 13 #[.pointer (some ⟨N, 0, none⟩), .slice (some ⟨g, 0, none⟩) 2 2] (W.alloc (.cells #[f1, f2] 59)) (AnsN (routeE s a b bits) (W.alloc (.cells #[f1, f2] 59)))) := Lib.hid fun W f1 f2 g hW q1 q2 hg => by
    refine ask_made (h.far hW) [(f1, endsE s a b), (f2, amtE bits)] _ rfl 2 rfl (by omega) ?_ g hg
    intro y hy
    simp only [List.mem_cons, List.not_mem_nil, or_false] at hy
    rcases hy with rfl | rfl
    · exact q1
    · exact q2
  have H := Lib.hid h
  have HZ : Hid (routeE s a b bits = 0 → endsE s a b = 0 ∧ amtE bits = 0) := Lib.hid firstE2
  generalize hz : routeE s a b bits = zv at *
  have HZV := Lib.hid hz
  clear h hz
  go_enter Tryz.func33, Tryz.ntmps33
  go_wp2_with fail
  refine HE.out.mono ?_
  rintro e w3 ⟨f3, rfl, k3, b3⟩
  obtain ⟨fn3, cap3, rfl, _⟩ := id k3
  go_wp2_with fail
  refine (HM.out _).mono ?_
  rintro e w4 ⟨f4, rfl, k4, b4⟩
  obtain ⟨fn4, cap4, rfl, _⟩ := id k4
  go_wp2_with fail
  refine (HA.out w4 _ _ _ (bnextK b3 b4) (k3.far b4) k4 rfl).mono ?_
  rintro e w5 ⟨rfl, b5⟩
  have HB5 : Hid (Below w.heap.size w w5) := Lib.hid (bnextK (bnextK (bnextK b3 b4) (below_alloc _ _)) b5)
  clear b3 b4 b5 k3 k4 HA HM HE
  by_cases h0 : zv = 0
  · obtain ⟨e1, e2⟩ := HZ.out h0
    obtain ⟨_, _, hab, hma, hmb, _, _⟩ := endsE_zero e1
    have hN5 := H.out.far HB5.out
    have HG := Lib.hid (graph_any hN5 bits (by have := List.length_pos_of_mem hma; omega))
    have HOK := Lib.hid H.out.ok
    subst h0
    clear hN5 e1 e2
    go_wp2_with fail
    refine HG.out.mono ?_
    clear HG
    rintro e w6 ⟨G, rfl, hgx, hb6⟩
    have HC := Lib.hid (flow_names hgx HOK.out a b hma hmb hab 16 (by omega))
    have HB6 := Lib.hid (bnextK HB5.out hb6)
    clear hgx hb6
    go_wp2_with fail
    refine HC.out.mono ?_
    clear HC
    rintro e w7 ⟨⟨z, hz, rfl⟩, hb7⟩
    have HZ7 := Lib.hid hz
    have HB7 := Lib.hid (bnextK HB6.out hb7)
    clear hz hb7
    go_wp2_with fail
    refine bodyPost_ret (a := Act.mk _ _) (results_tmp2 rfl _ _ _) rfl ?_
    exact ⟨⟨_, _, rfl, HZV.out.symm, by rw [HZV.out, if_pos rfl]; exact HZ7.out⟩, HB7.out⟩
  · have hb0 : (zv != 0) = true := by simp [h0]
    go_wp2_with fail
    refine bodyPost_ret (a := Act.mk _ _) (results_tmp2 rfl _ _ _) rfl ?_
    exact ⟨⟨_, _, rfl, HZV.out.symm, by rw [HZV.out, if_neg h0]⟩, HB5.out⟩
def nA : Nm := [97]
def nB : Nm := [98]
def nC : Nm := [99]
def nD : Nm := [100]
def ns0 : NS := ⟨[], fun _ => false, [], fun _ => lk0, 0, 0, [], []⟩
def exN : Nat → NS
  | 0 => ns0
  | 1 => addNode ns0 nA
  | 2 => addNode (addNode ns0 nA) nB
  | 3 => addNode (addNode (addNode ns0 nA) nB) nC
  | _ => addNode (addNode (addNode (addNode ns0 nA) nB) nC) nD
def exL1 : NS := addLink (exN 4) nA nB 100 100 0 0
def exL2 : NS := addLink exL1 nB nD 100 100 0 0
def exL3 : NS := addLink exL2 nA nC 100 100 0 0
def exL4 : NS := addLink exL3 nC nD 100 100 0 0
def exS : NS := addLink exL4 nA nD 20 20 0 0
def nms4 : List Nm := [nA, nB, nC, nD]
theorem exN_step (k : Nat) (hk : k < 4) : nodeE (exN k) (nms4.getD k []) = 0 ∧ addNode (exN k) (nms4.getD k []) = exN (k + 1) := by
  match k, hk with
  | 0, _ => exact ⟨by decide, rfl⟩
  | 1, _ => exact ⟨by decide, rfl⟩
  | 2, _ => exact ⟨by decide, rfl⟩
  | 3, _ => exact ⟨by decide, rfl⟩
theorem exL1_ok : linkE (exN 4) nA nB 100 100 0 0 = 0 := by decide
theorem exL2_ok : linkE exL1 nB nD 100 100 0 0 = 0 := by decide
theorem exL3_ok : linkE exL2 nA nC 100 100 0 0 = 0 := by decide
theorem exL4_ok : linkE exL3 nC nD 100 100 0 0 = 0 := by decide
theorem exS_ok : linkE exL4 nA nD 20 20 0 0 = 0 := by decide
theorem namesG_eq {s : NS} {l : List Nm} (hp : l.Perm s.nodes) (hl : l.Pairwise (· < ·)) (hn : s.nodes.Nodup) : namesG s = l := by
  refine List.Perm.eq_of_pairwise (le := fun a b => a < b) (fun a b _ _ h1 h2 => ?_) (namesG_lt hn) hl ((namesG_perm s).trans hp.symm)
  exact absurd h2 (List.lt_asymm h1)
theorem names_ex : namesG exS = nms4 := namesG_eq (l := nms4) (by show nms4.Perm nms4; exact List.Perm.refl _) (by decide) (by decide)
theorem row_ex (bits : Int) (x y : Nm) (i : Bool) (f : Int) (h1 : (decide (pairOf x y ∈ exS.pairs) && decide (x ≠ y) && !fenB exS x && !fenB exS y) = i) (h2 : (exS.lk (pairOf x y)).free = f) : rowE exS bits x y = (i && decide (bits ≤ f)) := by
  unfold rowE
  rw [h1, h2]
theorem graph_ex (bits : Int) (h0 : 0 ≤ bits) : graphG exS bits = exG bits.toNat := by
  have hb : ∀ c : Nat, decide (bits ≤ (c : Int)) = decide (bits.toNat ≤ c) := fun c => by
    by_cases h : bits ≤ (c : Int)
    · rw [decide_eq_true h, decide_eq_true (by omega)]
    · rw [decide_eq_false h, decide_eq_false (by omega)]
  have e100 := hb 100; have e20 := hb 20
  unfold graphG rowG
  rw [names_ex]
  simp only [nms4, List.map_cons, List.map_nil]
  rw [row_ex bits nA nA false 0 (by decide) (by decide), row_ex bits nA nB true 100 (by decide) (by decide), row_ex bits nA nC true 100 (by decide) (by decide), row_ex bits nA nD true 20 (by decide) (by decide),
    row_ex bits nB nA true 100 (by decide) (by decide), row_ex bits nB nB false 0 (by decide) (by decide), row_ex bits nB nC false 0 (by decide) (by decide), row_ex bits nB nD true 100 (by decide) (by decide),
    row_ex bits nC nA true 100 (by decide) (by decide), row_ex bits nC nB false 0 (by decide) (by decide), row_ex bits nC nC false 0 (by decide) (by decide), row_ex bits nC nD true 100 (by decide) (by decide),
    row_ex bits nD nA true 20 (by decide) (by decide), row_ex bits nD nB true 100 (by decide) (by decide), row_ex bits nD nC true 100 (by decide) (by decide), row_ex bits nD nD false 0 (by decide) (by decide)]
  simp only [Bool.true_and, Bool.false_and]
  unfold exG exAdj
  rw [show decide (bits ≤ 100) = decide (bits.toNat ≤ 100) from e100, show decide (bits ≤ 20) = decide (bits.toNat ≤ 20) from e20]
  rfl
theorem ixA : ixN exS nA = 0 := by unfold ixN; rw [names_ex]; decide
theorem ixD : ixN exS nD = 3 := by unfold ixN; rw [names_ex]; decide
theorem ex_paths : pathsG exS 50 nA nD 1 = [[0, 1, 3]] := by unfold pathsG; rw [graph_ex 50 (by decide), ixA, ixD]; exact ex_route
theorem ex_mostG : mostG exS 10 nA nD 16 = 3 := by unfold mostG; rw [graph_ex 10 (by decide), ixA, ixD]; exact ex_most
theorem ex_routeE : routeE exS nA nD 50 = 0 := by decide
theorem ex_routeE10 : routeE exS nA nD 10 = 0 := by decide
def names8 : List Nm := [[97], [98], [99], [100], [101], [102], [103], [104]]
def nm (i : Nat) : Nm := names8.getD i []
/-- The network behind the first k nodes. -/
def smN : Nat → NS
  | 0 => ns0
  | k + 1 => addNode (smN k) (nm k)
theorem smN_nodes : ∀ k, k ≤ 8 → (smN k).nodes = names8.take k
  | 0, _ => rfl
  | k + 1, h => by
    show (smN k).nodes ++ [nm k] = _
    rw [smN_nodes k (by omega), List.take_succ_eq_append_getElem (by show k < 8; omega)]
    have : nm k = names8[k]'(by show k < 8; omega) := by unfold nm; rw [List.getD_eq_getElem?_getD, List.getElem?_eq_getElem (by show k < 8; omega)]; rfl
    rw [this]
theorem nm_named (k : Nat) (h : k < 8) : namedB (nm k) = true := by
  match k, h with
  | 0, _ => decide
  | 1, _ => decide
  | 2, _ => decide
  | 3, _ => decide
  | 4, _ => decide
  | 5, _ => decide
  | 6, _ => decide
  | 7, _ => decide
theorem smN_step (k : Nat) (h : k < 8) : nodeE (smN k) (nm k) = 0 := by
  have hn := smN_nodes k (by omega)
  unfold nodeE nmE node1E
  rw [if_pos (nm_named k h), hn]
  have h1 : nm k ∉ names8.take k := by
    match k, h with
    | 0, _ => decide
    | 1, _ => decide
    | 2, _ => decide
    | 3, _ => decide
    | 4, _ => decide
    | 5, _ => decide
    | 6, _ => decide
    | 7, _ => decide
  have h2 : ¬ (names8.take k).length = 16 := by rw [List.length_take]; have : names8.length = 8 := rfl; omega
  rw [if_neg h1, if_neg h2]
  rfl
theorem nm_lt {a b : Nat} (ha : a < 8) (hb : b < 8) : nm a < nm b ↔ a < b := by
  have key : ∀ a, a < 8 → ∀ b, b < 8 → (nm a < nm b ↔ a < b) := by decide
  exact key a ha b hb
theorem nm_inj {a b : Nat} (ha : a < 8) (hb : b < 8) (h : nm a = nm b) : a = b := by
  have key : ∀ a, a < 8 → ∀ b, b < 8 → nm a = nm b → a = b := by decide
  exact key a ha b hb h
theorem nm_mem {a : Nat} (ha : a < 8) : nm a ∈ names8 := by
  have key : ∀ a, a < 8 → nm a ∈ names8 := by decide
  exact key a ha
/-- The pair of two places. -/
def pr8 (a b : Nat) : Nm × Nm := pairOf (nm a) (nm b)
theorem pr8_comm (a b : Nat) (ha : a < 8) (hb : b < 8) : pr8 a b = pr8 b a := by
  unfold pr8 pairOf
  by_cases h : a = b
  · subst h; rfl
  · by_cases h1 : a < b
    · rw [if_pos ((nm_lt ha hb).2 h1), if_neg (fun h2 => by have := (nm_lt hb ha).1 h2; omega)]
    · rw [if_neg (fun h2 => h1 ((nm_lt ha hb).1 h2)), if_pos ((nm_lt hb ha).2 (by omega))]
theorem pr8_inj {a b c d : Nat} (ha : a < 8) (hb : b < 8) (hc : c < 8) (hd : d < 8) (h : pr8 a b = pr8 c d) : (a = c ∧ b = d) ∨ (a = d ∧ b = c) := by
  unfold pr8 pairOf at h
  split at h <;> split at h <;> (injection h with h1 h2)
  · exact .inl ⟨nm_inj ha hc h1, nm_inj hb hd h2⟩
  · exact .inr ⟨nm_inj ha hd h1, nm_inj hb hc h2⟩
  · exact .inr ⟨nm_inj ha hd h2, nm_inj hb hc h1⟩
  · exact .inl ⟨nm_inj ha hc h2, nm_inj hb hd h1⟩
def stG (st : List Int) (a b : Nat) : Int := st.getD (a * 8 + b) 0
/-- What holds of a small network and its table of bits. -/
structure SmI (s : NS) (st : List Int) : Prop where
  nodes : s.nodes = names8
  fen : ∀ x, s.fen x = false
  len : st.length = 64
  sl : ∀ a b, a < 8 → b < 8 → a ≠ b → stG st a b = if pr8 a b ∈ s.pairs then (s.lk (pr8 a b)).free else 0
  diag : ∀ a, a < 8 → stG st a a = 0
  pos : ∀ p ∈ s.pairs, 1 ≤ (s.lk p).free ∧ (s.lk p).free ≤ 256
  prs : ∀ p ∈ s.pairs, ∃ a b, a < b ∧ b < 8 ∧ p = pr8 a b
  pod : s.pairs.Nodup
  now : s.now = 0
  last : s.last = 0
  holds : s.holds = []
  sents : s.sents = []
  lks : ∀ p ∈ s.pairs, s.lk p = ⟨(s.lk p).free, (s.lk p).free, 0, 0, (s.lk p).free, 0, 0⟩
def allPr : List (Nm × Nm) := (List.range 8).flatMap fun b => (List.range b).map fun a => pr8 a b
theorem allPr_len : allPr.length = 28 := by decide
theorem SmI.len28 {s : NS} {st : List Int} (h : SmI s st) : s.pairs.length ≤ 28 := by
  have := nodup_sub_len (l := s.pairs) (m := allPr) h.pod (fun p hp => by
    obtain ⟨a, b, h1, h2, rfl⟩ := h.prs p hp
    unfold allPr
    rw [List.mem_flatMap]
    exact ⟨b, List.mem_range.2 h2, List.mem_map.2 ⟨a, List.mem_range.2 h1, rfl⟩⟩)
  rwa [allPr_len] at this
theorem smN_pairs : ∀ k, (smN k).pairs = [] ∧ (∀ x, (smN k).fen x = false) ∧ (smN k).now = 0 ∧ (smN k).last = 0 ∧ (smN k).holds = [] ∧ (smN k).sents = []
  | 0 => ⟨rfl, fun _ => rfl, rfl, rfl, rfl, rfl⟩
  | k + 1 => by
    obtain ⟨h1, h2, h3, h4, h5, h6⟩ := smN_pairs k
    refine ⟨h1, fun x => ?_, h3, h4, h5, h6⟩
    show (if x = nm k then false else (smN k).fen x) = false
    split
    · rfl
    · exact h2 x
theorem SmI.start : SmI (smN 8) (List.replicate 64 0) := by
  obtain ⟨h1, h2, h3, h4, h5, h6⟩ := smN_pairs 8
  have hz : ∀ a b, stG (List.replicate 64 0) a b = 0 := fun a b => by
    unfold stG
    rw [List.getD_eq_getElem?_getD, List.getElem?_replicate]
    split <;> rfl
  refine ⟨by rw [smN_nodes 8 (by omega)]; rfl, h2, List.length_replicate, fun a b _ _ _ => ?_, fun a _ => hz a a, ?_, ?_, by rw [h1]; exact List.nodup_nil, h3, h4, h5, h6, ?_⟩
  · rw [hz, h1, if_neg (by simp)]
  · rw [h1]; intro p hp; cases hp
  · rw [h1]; intro p hp; cases hp
  · rw [h1]; intro p hp; cases hp
def smL (s : NS) (a b : Nat) (v : Int) : NS := addLink s (nm a) (nm b) v v 0 0
def smT (st : List Int) (a b : Nat) (v : Int) : List Int := (st.set (a * 8 + b) v).set (b * 8 + a) v
theorem stG_set (st : List Int) (a b c d : Nat) (v : Int) (hl : st.length = 64) (ha : a < 8) (hb : b < 8) (hc : c < 8) (hd : d < 8) : stG (smT st a b v) c d = if (c = a ∧ d = b) ∨ (c = b ∧ d = a) then v else stG st c d := by
  unfold stG smT
  simp only [List.getD_eq_getElem?_getD, List.getElem?_set, List.length_set, hl]
  by_cases h1 : b * 8 + a = c * 8 + d
  · rw [if_pos h1, if_pos (by omega), if_pos (by omega)]; rfl
  · rw [if_neg h1]
    by_cases h2 : a * 8 + b = c * 8 + d
    · rw [if_pos h2, if_pos (by omega), if_pos (by omega)]; rfl
    · rw [if_neg h2, if_neg (by omega)]
theorem SmI.linkE {s : NS} {st : List Int} (h : SmI s st) {a b : Nat} (ha : a < 8) (hb : b < 8) (hab : a ≠ b) (h0 : stG st a b = 0) (v : Int) (hv : 1 ≤ v ∧ v ≤ 256) : linkE s (nm a) (nm b) v v 0 0 = 0 ∧ pr8 a b ∉ s.pairs := by
  have hnot : pr8 a b ∉ s.pairs := fun hm => by
    have := h.sl a b ha hb hab
    rw [if_pos hm, h0] at this
    have := (h.pos _ hm).1
    omega
  refine ⟨?_, hnot⟩
  have h28 := h.len28
  unfold Go.Proofs.YtblilfbhohnbgaaGreat.linkE twoE possE bothE link1E
  rw [if_pos ⟨nm_named a ha, nm_named b hb, fun e => hab (nm_inj ha hb e)⟩, if_pos (by unfold possL; rw [decide_eq_true_eq]; omega), if_pos (by rw [h.nodes]; exact ⟨nm_mem ha, nm_mem hb⟩), if_neg (show ¬ pairOf (nm a) (nm b) ∈ s.pairs from hnot), if_neg (by omega)]
  rfl
theorem SmI.step {s : NS} {st : List Int} (h : SmI s st) {a b : Nat} (ha : a < 8) (hb : b < 8) (hab : a ≠ b) (h0 : stG st a b = 0) (v : Int) (hv : 1 ≤ v ∧ v ≤ 256) : SmI (smL s a b v) (smT st a b v) := by
  obtain ⟨_, hnot⟩ := h.linkE ha hb hab h0 v hv
  have hlk : ∀ p, (smL s a b v).lk p = if p = pr8 a b then ⟨v, v, 0, 0, v, 0, 0⟩ else s.lk p := fun p => rfl
  have hpr : (smL s a b v).pairs = s.pairs ++ [pr8 a b] := rfl
  have hmem : ∀ p, p ∈ (smL s a b v).pairs ↔ p ∈ s.pairs ∨ p = pr8 a b := fun p => by rw [hpr, List.mem_append, List.mem_singleton]
  have hold : ∀ p, p ∈ s.pairs → (smL s a b v).lk p = s.lk p := fun p hp => by rw [hlk, if_neg (fun e : p = pr8 a b => hnot (by rw [← e]; exact hp))]
  have hnew : (smL s a b v).lk (pr8 a b) = ⟨v, v, 0, 0, v, 0, 0⟩ := by rw [hlk, if_pos rfl]
  refine ⟨h.nodes, h.fen, by unfold smT; simp [h.len], fun c d hc hd hcd => ?_, fun c hc => ?_, fun p hp => ?_, fun p hp => ?_, ?_, h.now, h.last, h.holds, h.sents, fun p hp => ?_⟩
  · rw [stG_set st a b c d v h.len ha hb hc hd]
    by_cases e : (c = a ∧ d = b) ∨ (c = b ∧ d = a)
    · have e2 : pr8 c d = pr8 a b := by
        rcases e with ⟨rfl, rfl⟩ | ⟨rfl, rfl⟩
        · rfl
        · exact pr8_comm _ _ hc hd
      rw [if_pos e, e2, if_pos ((hmem _).2 (.inr rfl)), hnew]
    · rw [if_neg e, h.sl c d hc hd hcd]
      have hne : pr8 c d ≠ pr8 a b := fun e2 => e (pr8_inj hc hd ha hb e2)
      by_cases hm : pr8 c d ∈ s.pairs
      · rw [if_pos hm, if_pos ((hmem _).2 (.inl hm)), hold _ hm]
      · rw [if_neg hm, if_neg (fun h2 => ((hmem _).1 h2).elim hm hne)]
  · rw [stG_set st a b c c v h.len ha hb hc hc, if_neg (by omega)]
    exact h.diag c hc
  · rcases (hmem p).1 hp with hp | rfl
    · rw [hold p hp]; exact h.pos p hp
    · rw [hnew]; exact hv
  · rcases (hmem p).1 hp with hp | rfl
    · exact h.prs p hp
    · rcases Nat.lt_or_gt_of_ne hab with h1 | h1
      · exact ⟨a, b, h1, hb, rfl⟩
      · exact ⟨b, a, h1, ha, pr8_comm _ _ ha hb⟩
  · rw [hpr, List.nodup_append]
    exact ⟨h.pod, by simp, fun x hx y hy e => by rw [List.mem_singleton] at hy; subst hy; subst e; exact hnot hx⟩
  · rcases (hmem p).1 hp with hp | rfl
    · rw [hold p hp]; exact h.lks p hp
    · rw [hnew]
/-- A link by numbers. -/
structure PrN where
  a : Nat
  b : Nat
  bits : Nat
def smallStep (x : NS × List Int) (p : PrN) : NS × List Int := if p.a % 8 = p.b % 8 ∨ 0 < stG x.2 (p.a % 8) (p.b % 8) then x else (smL x.1 (p.a % 8) (p.b % 8) (1 + (p.bits : Int)), smT x.2 (p.a % 8) (p.b % 8) (1 + (p.bits : Int)))
theorem SmI.nonneg {s : NS} {st : List Int} (h : SmI s st) {a b : Nat} (ha : a < 8) (hb : b < 8) : 0 ≤ stG st a b := by
  by_cases hab : a = b
  · subst hab; rw [h.diag a ha]; omega
  · rw [h.sl a b ha hb hab]
    split
    · rename_i hm; have := (h.pos _ hm).1; omega
    · omega
theorem SmI.small {x : NS × List Int} (h : SmI x.1 x.2) (p : PrN) (hp : p.bits < 256) : SmI (smallStep x p).1 (smallStep x p).2 := by
  unfold smallStep
  split
  · exact h
  · rename_i hn
    rw [not_or] at hn
    have ha : p.a % 8 < 8 := Nat.mod_lt _ (by omega)
    have hb : p.b % 8 < 8 := Nat.mod_lt _ (by omega)
    exact h.step ha hb hn.1 (by have := h.nonneg ha hb; omega) _ (by omega)
theorem ns0_ok : NSOK ns0 := ⟨List.nodup_nil, by decide, (by intro x hx; cases hx), List.nodup_nil, by decide, (by intro x hx; cases hx), (by intro x hx; cases hx), by decide⟩
theorem new_at (w : World) : NetAt (newW w) (w.heap.size + 1 + 1) ns0 w.heap.size (w.heap.size + 1) (.slice none 0 0) (.slice none 0 0) := by
  have h2 := Bk.new ((w.alloc (.map #[] 0)).alloc (.map #[] 0)) #[.map (some w.heap.size), .map (some (w.heap.size + 1)), .int .i64 0, .slice none 0 0, .int .i64 0, .slice none 0 0] 56
  rw [World.size_alloc, World.size_alloc] at h2
  have m0 := MapL.made strK w
  have m1 := MapL.made pairK (w.alloc (.map #[] 0))
  rw [World.size_alloc] at m1
  refine ⟨h2, ?_, ?_, ⟨[], World.ownsRow_nil _ _ _ _, by simp [ns0]⟩, ⟨[], World.ownsRow_nil _ _ _ _, by simp [ns0]⟩, ns0_ok, by omega⟩
  · have k : KeepL [] (w.alloc (.map #[] 0)) (newW w) := (KeepL.alloc [] _ _).trans (KeepL.alloc [] _ _)
    exact (m0.keep (k.block _ m0.lt (by simp))).same (fun x _ => by simp [nodesF, ns0])
  · have k : KeepL [] ((w.alloc (.map #[] 0)).alloc (.map #[] 0)) (newW w) := KeepL.alloc [] _ _
    exact (m1.keep (k.block _ m1.lt (by simp))).same (fun x _ => by simp [linksF, ns0])
theorem newW_below (w : World) : Below w.heap.size w (newW w) := alloc3_below w _ _ _
/-- A network whose memory lies behind the world w. -/
def NetNew (w : World) (s : NS) (N bn bl : Nat) (W : World) : Prop := NetAt W N s bn bl (.slice none 0 0) (.slice none 0 0) ∧ Below w.heap.size w W ∧ w.heap.size ≤ bn ∧ w.heap.size ≤ bl ∧ w.heap.size ≤ N
theorem NetNew.far {w : World} {s : NS} {N bn bl : Nat} {W W' : World} (h : NetNew w s N bn bl W) (hb : Below W.heap.size W W') : NetNew w s N bn bl W' := ⟨h.1.far hb, bnextK h.2.1 hb, h.2.2⟩
theorem NetNew.node {w : World} {s : NS} {N bn bl : Nat} {W W' : World} {x : Nm} {e : Ending} (h : NetNew w s N bn bl W) (hp : NodeP N s bn bl (.slice none 0 0) (.slice none 0 0) x W e W') : NetNew w (nodeS s x) N bn bl W' ∧ KeepL [bn] W W' :=
  ⟨⟨hp.2.1, h.2.1.trans (hp.2.2.below h.2.1.size (by simpa using h.2.2.1)), h.2.2⟩, hp.2.2⟩
theorem NetNew.link {w : World} {s : NS} {N bn bl : Nat} {W W' : World} {a b : Nm} {st cp gn ev : Int} {e : Ending} (h : NetNew w s N bn bl W) (hp : LinkP N s bn bl (.slice none 0 0) (.slice none 0 0) a b st cp gn ev W e W') : NetNew w (linkS s a b st cp gn ev) N bn bl W' ∧ KeepL [bl] W W' :=
  ⟨⟨hp.2.1, h.2.1.trans (hp.2.2.below h.2.1.size (by simpa using h.2.2.2.1)), h.2.2⟩, hp.2.2⟩
def ExmP (w : World) (e : Ending) (w' : World) : Prop := ∃ N bn bl, e = .returned (.pointer (some ⟨N, 0, none⟩)) ∧ NetNew w exS N bn bl w'
theorem lk4 {w : World} {b : Nat} {t : TypeId} {a0 a1 a2 a3 : Value} (h : Bk w b #[a0, a1, a2, a3] t) : w.cell? ⟨b, 0, none⟩ = some a0 ∧ w.cell? ⟨b, 1, none⟩ = some a1 ∧ w.cell? ⟨b, 2, none⟩ = some a2 ∧ w.cell? ⟨b, 3, none⟩ = some a3 :=
  ⟨by rw [h.cell]; rfl, by rw [h.cell]; rfl, by rw [h.cell]; rfl, by rw [h.cell]; rfl⟩
theorem lenN (x : UInt8) : ([x] : Nm).length ≤ maxLen := by unfold maxLen; simp
set_option maxRecDepth 100000 in
set_option maxHeartbeats 4000000 in
theorem example_any (w : World) : Calls Tryz.prog 31 #[] w (ExmP w) := by
  have hok : ∀ k, k < 4 → nodeS (exN k) (nms4.getD k []) = exN (k + 1) := fun k hk => by
    unfold nodeS
    rw [if_pos (exN_step k hk).1]
    exact (exN_step k hk).2
  have HOK := Lib.hid hok
  clear hok
  go_enter Tryz.func31, Tryz.ntmps31
  go_wp2_with fail
  refine (newNet_any _).mono ?_
  rintro e w1 ⟨rfl, rfl⟩
  have HN1 : Hid (NetNew w ns0 (w.heap.size + 1 + 1) w.heap.size (w.heap.size + 1) (newW w)) := Lib.hid ⟨new_at w, newW_below w, Nat.le_refl _, by omega, by omega⟩
  obtain ⟨w1, hw1⟩ : ∃ z, z = newW w := ⟨_, rfl⟩
  rw [← hw1] at HN1 ⊢
  clear hw1
  generalize hN : w.heap.size + 1 + 1 = N at HN1 ⊢
  generalize hbn : w.heap.size = bn at HN1
  generalize hbl : bn + 1 = bl at HN1
  clear hN hbn hbl
  go_wp2_with fail
  obtain ⟨w2, hw2⟩ : ∃ z, z = w1.alloc (.cells #[.string ⟨#[97]⟩, .string ⟨#[98]⟩, .string ⟨#[99]⟩, .string ⟨#[100]⟩] 9) := ⟨_, rfl⟩
  have HI : Hid (NetNew w (exN 0) N bn bl w2 ∧ Bk w2 w1.heap.size #[.string ⟨#[97]⟩, .string ⟨#[98]⟩, .string ⟨#[99]⟩, .string ⟨#[100]⟩] 9) := Lib.hid (by
    rw [hw2]; exact ⟨HN1.out.far (below_alloc _ _), Bk.new _ _ _⟩)
  rw [← hw2]
  clear hw2 HN1
  generalize w1.heap.size = hl at HI ⊢
  go_loopw [3] (fun i wr => ∃ k : Nat, k ≤ 4 ∧ i = .int .i64 k ∧ NetNew w (exN k) N bn bl wr ∧ Bk wr hl #[.string ⟨#[97]⟩, .string ⟨#[98]⟩, .string ⟨#[99]⟩, .string ⟨#[100]⟩] 9) (fun i _ => 4 - (intOf i).toNat)
  case atStart => exact ⟨0, by omega, rfl, HI.out⟩
  case round =>
    obtain ⟨k, hk, rfl, hn, hb⟩ := hrel
    obtain ⟨wa, rfl⟩ : ∃ z : World, z = wr := ⟨_, rfl⟩
    have HN := Lib.hid hn; have HB := Lib.hid hb
    have hc := hb.cell k
    clear hn hb HI
    by_cases hlt : k < 4
    · have hki : (k : Int) < 4 := by omega
      have ck : wa.cell? ⟨hl, k, none⟩ = some (encS (nms4.getD k [])) := by
        rw [hc]
        match k, hlt with
        | 0, _ => rfl
        | 1, _ => rfl
        | 2, _ => rfl
        | 3, _ => rfl
      have HP := Lib.hid (Node_any HN.out.1 (nms4.getD k []) (by
        match k, hlt with
        | 0, _ => exact lenN _
        | 1, _ => exact lenN _
        | 2, _ => exact lenN _
        | 3, _ => exact lenN _))
      have HS := Lib.hid (HOK.out k hlt)
      generalize nms4.getD k [] = x at *
      clear hc
      go_wp2_with fail
      refine HP.out.mono ?_
      clear HP
      rintro e w3 hp
      have HQ := Lib.hid (HN.out.node hp)
      rw [HS.out] at HQ
      have HB3 := Lib.hid (HB.out.keepL HQ.out.2 (by simpa using HB.out.nmapL HN.out.1.nodes))
      obtain ⟨z, hz, rfl⟩ := hp.1
      clear hp hz
      go_wp2_with fail
      go_roundw
      case rel => exact ⟨k + 1, by omega, by go_num, HQ.out.1, HB3.out⟩
      case measure => simp [intOf]; omega
    · have hki : ¬ (k : Int) < 4 := by omega
      obtain rfl : k = 4 := by omega
      clear hc HB
      go_wp2_with fail
      obtain ⟨w4, hw4⟩ : ∃ z, z = wa.alloc (.cells #[.int .i64 100, .int .i64 100, .int .i64 0, .int .i64 0] 38) := ⟨_, rfl⟩
      have HI4 : Hid (NetNew w (exN 4) N bn bl w4 ∧ Bk w4 wa.heap.size #[.int .i64 100, .int .i64 100, .int .i64 0, .int .i64 0] 38) := Lib.hid (by
        rw [hw4]; exact ⟨HN.out.far (below_alloc _ _), Bk.new _ _ _⟩)
      rw [← hw4]
      clear hw4 HN
      generalize wa.heap.size = X at HI4 ⊢
      obtain ⟨d0, d1, d2, d3⟩ := lk4 HI4.out.2
      have hlk : linkS (exN 4) nA nB 100 100 0 0 = exL1 := by unfold linkS; rw [if_pos exL1_ok]; rfl
      have HP := Lib.hid (Link_any HI4.out.1.1 nA nB 100 100 0 0 (lenN _) (lenN _))
      refine HP.out.mono ?_
      clear HP d0 d1 d2 d3
      rintro e w5 hp
      have HQ := Lib.hid (HI4.out.1.link hp)
      rw [hlk] at HQ
      have HI5 : Hid (NetNew w (exL1) N bn bl w5 ∧ Bk w5 X #[.int .i64 100, .int .i64 100, .int .i64 0, .int .i64 0] 38) := Lib.hid ⟨HQ.out.1, HI4.out.2.keepL HQ.out.2 (by simpa using HI4.out.2.nmapL HI4.out.1.1.links)⟩
      obtain ⟨z, hz, rfl⟩ := hp.1
      clear hp hz HQ hlk HI4
      obtain ⟨d0, d1, d2, d3⟩ := lk4 HI5.out.2
      have hlk : linkS (exL1) nB nD 100 100 0 0 = exL2 := by unfold linkS; rw [if_pos exL2_ok]; rfl
      have HP := Lib.hid (Link_any HI5.out.1.1 nB nD 100 100 0 0 (lenN _) (lenN _))
      go_wp2_with fail
      refine HP.out.mono ?_
      clear HP d0 d1 d2 d3
      rintro e w6 hp
      have HQ := Lib.hid (HI5.out.1.link hp)
      rw [hlk] at HQ
      have HI6 : Hid (NetNew w (exL2) N bn bl w6 ∧ Bk w6 X #[.int .i64 100, .int .i64 100, .int .i64 0, .int .i64 0] 38) := Lib.hid ⟨HQ.out.1, HI5.out.2.keepL HQ.out.2 (by simpa using HI5.out.2.nmapL HI5.out.1.1.links)⟩
      obtain ⟨z, hz, rfl⟩ := hp.1
      clear hp hz HQ hlk HI5
      obtain ⟨d0, d1, d2, d3⟩ := lk4 HI6.out.2
      have hlk : linkS (exL2) nA nC 100 100 0 0 = exL3 := by unfold linkS; rw [if_pos exL3_ok]; rfl
      have HP := Lib.hid (Link_any HI6.out.1.1 nA nC 100 100 0 0 (lenN _) (lenN _))
      go_wp2_with fail
      refine HP.out.mono ?_
      clear HP d0 d1 d2 d3
      rintro e w7 hp
      have HQ := Lib.hid (HI6.out.1.link hp)
      rw [hlk] at HQ
      have HI7 : Hid (NetNew w (exL3) N bn bl w7 ∧ Bk w7 X #[.int .i64 100, .int .i64 100, .int .i64 0, .int .i64 0] 38) := Lib.hid ⟨HQ.out.1, HI6.out.2.keepL HQ.out.2 (by simpa using HI6.out.2.nmapL HI6.out.1.1.links)⟩
      obtain ⟨z, hz, rfl⟩ := hp.1
      clear hp hz HQ hlk HI6
      obtain ⟨d0, d1, d2, d3⟩ := lk4 HI7.out.2
      have hlk : linkS (exL3) nC nD 100 100 0 0 = exL4 := by unfold linkS; rw [if_pos exL4_ok]; rfl
      have HP := Lib.hid (Link_any HI7.out.1.1 nC nD 100 100 0 0 (lenN _) (lenN _))
      go_wp2_with fail
      refine HP.out.mono ?_
      clear HP d0 d1 d2 d3
      rintro e w8 hp
      have HQ := Lib.hid (HI7.out.1.link hp)
      rw [hlk] at HQ
      have HI8 : Hid (NetNew w (exL4) N bn bl w8 ∧ Bk w8 X #[.int .i64 100, .int .i64 100, .int .i64 0, .int .i64 0] 38) := Lib.hid ⟨HQ.out.1, HI7.out.2.keepL HQ.out.2 (by simpa using HI7.out.2.nmapL HI7.out.1.1.links)⟩
      obtain ⟨z, hz, rfl⟩ := hp.1
      clear hp hz HQ hlk HI7
      obtain ⟨d0, d1, d2, d3⟩ := lk4 HI8.out.2
      have hlk : linkS (exL4) nA nD 20 20 0 0 = exS := by unfold linkS; rw [if_pos exS_ok]; rfl
      have HP := Lib.hid (Link_any HI8.out.1.1 nA nD 20 20 0 0 (lenN _) (lenN _))
      go_wp2_with fail
      refine HP.out.mono ?_
      clear HP d0 d1 d2 d3
      rintro e w9 hp
      have HQ := Lib.hid (HI8.out.1.link hp)
      rw [hlk] at HQ
      have HI9 : Hid (NetNew w (exS) N bn bl w9 ∧ Bk w9 X #[.int .i64 100, .int .i64 100, .int .i64 0, .int .i64 0] 38) := Lib.hid ⟨HQ.out.1, HI8.out.2.keepL HQ.out.2 (by simpa using HI8.out.2.nmapL HI8.out.1.1.links)⟩
      obtain ⟨z, hz, rfl⟩ := hp.1
      clear hp hz HQ hlk HI8
      go_wp2_with fail
      go_ret
      exact ⟨N, bn, bl, rfl, HI9.out.1⟩
def n8V : Array Value := #[.string ⟨#[97]⟩, .string ⟨#[98]⟩, .string ⟨#[99]⟩, .string ⟨#[100]⟩, .string ⟨#[101]⟩, .string ⟨#[102]⟩, .string ⟨#[103]⟩, .string ⟨#[104]⟩]
theorem n8V_get (a : Nat) (h : a < 8) : n8V[a]? = some (encS (nm a)) := by
  match a, h with
  | 0, _ => rfl
  | 1, _ => rfl
  | 2, _ => rfl
  | 3, _ => rfl
  | 4, _ => rfl
  | 5, _ => rfl
  | 6, _ => rfl
  | 7, _ => rfl
theorem names_any (w : World) : Calls Tryz.prog 6 #[] w fun e w' => e = .returned (.slice (some ⟨w.heap.size, 0, none⟩) 8 8) ∧ w' = w.alloc (.cells n8V 9) := by
  go_enter Tryz.func6, Tryz.ntmps6
  go_wp2_with fail
  go_ret
  exact ⟨rfl, rfl⟩
/-- The names as a call of names hands them back. -/
theorem n8_cell (w : World) (a : Nat) (h : a < 8) : (w.alloc (.cells n8V 9)).cell? ⟨w.heap.size, a, none⟩ = some (encS (nm a)) := by rw [(Bk.new w n8V 9).cell, n8V_get a h]
/-- The pairs that are handed in. -/
def prCells (l : List PrN) : List Value := l.flatMap fun p => [.int .u8 (p.a : Int), .int .u8 (p.b : Int), .int .u8 (p.bits : Int)]
theorem prCells_get (l : List PrN) (i : Nat) (h : i < l.length) : (prCells l)[i * 3]? = some (.int .u8 (l[i].a : Int)) ∧ (prCells l)[i * 3 + 1]? = some (.int .u8 (l[i].b : Int)) ∧ (prCells l)[i * 3 + 2]? = some (.int .u8 (l[i].bits : Int)) := by
  induction l generalizing i with
  | nil => simp at h
  | cons a l ih =>
    cases i with
    | zero => simp [prCells]
    | succ i =>
      have := ih i (by simpa using h)
      simp only [prCells, List.flatMap_cons, List.getElem_cons_succ, show (i + 1) * 3 = i * 3 + 3 by omega, List.cons_append, List.nil_append] at this ⊢
      exact this
def stV (st : List Int) : Array Value := (st.map (Value.int .i64)).toArray
theorem stV_set (st : List Int) (i : Nat) (v : Int) : (stV st).setIfInBounds i (.int .i64 v) = stV (st.set i v) := by unfold stV; rw [List.map_set]; simp
theorem stV_get (st : List Int) (i : Nat) (h : i < st.length) : (stV st)[i]? = some (.int .i64 (st.getD i 0)) := by
  unfold stV
  rw [List.getElem?_toArray, List.getElem?_map, List.getD_eq_getElem?_getD, List.getElem?_eq_getElem h]; rfl
set_option maxRecDepth 100000 in
set_option maxHeartbeats 4000000 in
theorem works09_any (w : World) : Calls Tryz.prog 12 #[] w fun e w' => e = .returned (.bool true) ∧ Below w.heap.size w w' := by
  go_enter Tryz.func12, Tryz.ntmps12
  go_wp2_with fail
  refine (example_any _).mono ?_
  rintro e w1 ⟨N, bn, bl, rfl, hn⟩
  have HN := Lib.hid hn
  have HR := Lib.hid (Route_any hn.1 nA nD 50 (lenN _) (lenN _))
  clear hn
  go_wp2_with fail
  refine HR.out.mono ?_
  clear HR
  rintro e w2 ⟨⟨v, z, rfl, h1⟩, hb2⟩
  have hx : z = 0 ∧ RowAt w2 (namesG exS) v [0, 1, 3] := by
    rcases h1 with ⟨q1, _⟩ | ⟨_, q2, _⟩ | ⟨_, p, l, q2, q3, q4⟩
    · exact absurd ex_routeE q1
    · rw [ex_paths] at q2; cases q2
    · rw [ex_paths] at q2
      injection q2 with q2 _
      subst q2
      exact ⟨q3, q4⟩
  obtain ⟨rfl, hrow⟩ := hx
  obtain ⟨h, c, cs, rfl, hc, hbk, hcs⟩ := hrow
  have hN2 := HN.out.far hb2
  have HB2 := Lib.hid hN2.2.1
  have HM := Lib.hid (Most_any hN2.1 nA nD 10 (lenN _) (lenN _))
  have e1 := hcs 1 (by simp)
  rw [names_ex] at e1
  change cs[1]? = some (.string ⟨#[98]⟩) at e1
  have HBK := Lib.hid hbk
  clear h1 hb2 hN2 hcs hbk HN
  go_wp2_with fail
  refine HM.out.mono ?_
  clear HM
  rintro e w3 ⟨⟨m, z, rfl, hz, hm⟩, hb3⟩
  rw [ex_routeE10] at hz hm
  rw [if_pos rfl, ex_mostG] at hm
  subst hz
  have hm3 : m = 3 := hm
  subst hm3
  have HB3 : Hid (Below w.heap.size w w3) := Lib.hid (bnextK HB2.out hb3)
  have ck := (HBK.out.past hb3 HBK.out.lt).cell 1
  rw [e1] at ck
  have hl3 : ([0, 1, 3] : List Nat).length = 3 := rfl
  clear hb3 e1 hm HBK
  simp only [List.length_cons, List.length_nil, Nat.zero_add, Nat.reduceAdd] at hc
  go_wp2_with fail
  go_ret
  exact ⟨rfl, HB3.out⟩
end Go.Proofs.YtblilfbhohnbgaaGreat
