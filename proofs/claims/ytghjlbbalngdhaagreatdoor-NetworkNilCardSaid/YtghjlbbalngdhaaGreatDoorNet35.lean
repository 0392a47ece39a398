/- The contracts of Route and Most. Conditions: as each statement says. -/
import Derived.Test.YtghjlbbalngdhaaGreatDoorNet32
import Derived.Test.YtghjlbbalngdhaaGreatDoorNet16
import Derived.Test.YtghjlbbalngdhaaGreatDoorNet13
import Derived.Test.YtghjlbbalngdhaaGreatDoorNet18
import Derived.Test.YtghjlbbalngdhaaGreatDoorNet30
namespace Go.Proofs.YtghjlbbalngdhaaGreatDoor
open Go.RowKit
set_option linter.unusedVariables false
/-- The place of a name. -/
def ixN (s : NS) (a : Nm) : Nat := (namesG s).idxOf a
theorem ixN_get {s : NS} {a : Nm} (h : a ∈ s.nodes) : (namesG s)[ixN s a]? = some a := by
  have hm := namesG_mem.2 h
  have hlt : (namesG s).idxOf a < (namesG s).length := List.idxOf_lt_length_of_mem hm
  unfold ixN
  rw [List.getElem?_eq_getElem hlt, List.getElem_idxOf hlt]
theorem ixN_lt {s : NS} {a : Nm} (h : a ∈ s.nodes) : ixN s a < s.nodes.length := by
  have := (List.getElem?_eq_some_iff.1 (ixN_get h)).1
  rwa [namesG_len] at this
theorem ixN_ne {s : NS} {a b : Nm} (ha : a ∈ s.nodes) (hb : b ∈ s.nodes) (h : a ≠ b) : ixN s a ≠ ixN s b := fun e => by
  have h1 := ixN_get ha
  rw [e, ixN_get hb] at h1
  injection h1 with h1
  exact h h1.symm
theorem firstE3 {x y z : Int} (h : firstE [x, y, z] = 0) : x = 0 ∧ y = 0 ∧ z = 0 := by
  simp only [firstE] at h
  split at h
  · split at h
    · split at h
      · exact ⟨by assumption, by assumption, by assumption⟩
      · contradiction
    · contradiction
  · contradiction
theorem firstE2 {x y : Int} (h : firstE [x, y] = 0) : x = 0 ∧ y = 0 := by
  simp only [firstE] at h
  split at h
  · split at h
    · exact ⟨by assumption, by assumption⟩
    · contradiction
  · contradiction
theorem endsE_zero {s : NS} {a b : Nm} (h : endsE s a b = 0) : namedB a = true ∧ namedB b = true ∧ a ≠ b ∧ a ∈ s.nodes ∧ b ∈ s.nodes ∧ fenB s a = false ∧ fenB s b = false := by
  obtain ⟨h1, h2, h3⟩ := firstE3 h
  unfold twoE at h1; unfold bothE at h2; unfold fenE at h3
  split at h1
  case isFalse => omega
  split at h2
  case isFalse => omega
  split at h3
  case isTrue => omega
  rename_i k1 k2 k3
  rw [Bool.not_eq_true, Bool.or_eq_false_iff] at k3
  exact ⟨k1.1, k1.2.1, k1.2.2, k2.1, k2.2, k3.1, k3.2⟩
theorem amtE_zero {n : Int} (h : amtE n = 0) : 1 ≤ n ∧ n ≤ 65536 := by
  unfold amtE at h
  split at h
  · assumption
  · omega
/-- The paths that are chosen, as places. -/
def pathsG (s : NS) (bits : Int) (a b : Nm) (k : Nat) : List (List Nat) := chooseG (graphG s bits) (ixN s a) (ixN s b) k
theorem ChP.of {s : NS} {bits : Int} {a b : Nm} {k : Nat} {w : World} {e : Ending} {w' : World} (hk : 1 ≤ k) (h : ChP (namesG s) (graphG s bits) (ixN s a) (ixN s b) k w e w') :
    (∃ v, e = .returned v ∧ (pathsG s bits a b k = [] → v = .slice none 0 0) ∧ (pathsG s bits a b k ≠ [] → OutAt w' w.heap.size (namesG s) v (pathsG s bits a b k))) ∧ Below w.heap.size w w' := by
  obtain ⟨⟨v, rfl, h1⟩, h2⟩ := h
  refine ⟨⟨v, rfl, ?_⟩, h2⟩
  unfold pathsG chooseG
  split at h1
  · rename_i hc
    rw [if_pos hc]
    exact ⟨fun _ => h1, fun h => absurd rfl h⟩
  · rename_i hc
    rw [if_neg hc]
    exact ⟨h1.2, fun _ => h1.1⟩
theorem choose_names {w : World} {G : Nat} {s : NS} {bits : Int} (h : GX w w.heap.size G (namesG s) (graphG s bits)) (hok : NSOK s) (a b : Nm) (ha : a ∈ s.nodes) (hb : b ∈ s.nodes) (hab : a ≠ b) (k : Nat) (hk1 : 1 ≤ k) (hk : k ≤ 1000) :
    Calls Tryz.prog 66 #[.pointer (some ⟨G, 0, none⟩), encS a, encS b, .int .i64 (k : Int)] w fun e w' => (∃ v, e = .returned v ∧ (pathsG s bits a b k = [] → v = .slice none 0 0) ∧ (pathsG s bits a b k ≠ [] → OutAt w' w.heap.size (namesG s) v (pathsG s bits a b k))) ∧ Below w.heap.size w w' :=
  (choose_any h (namesG_lt hok.nod) (ixN s a) (ixN s b) k a b (ixN_get ha) (ixN_get hb) (ixN_ne ha hb hab) hk1 hk).mono fun e w' h => ChP.of hk1 h
/-- A list of paths in memory. -/
theorem OutAt.slice {w : World} {n₀ : Nat} {ns : List Nm} {v : Value} {acc : List (List Nat)} (h : OutAt w n₀ ns v acc) (h0 : acc ≠ []) : ∃ g cap cur, v = .slice (some ⟨g, 0, none⟩) acc.length cap ∧ acc.length ≤ cap ∧ n₀ ≤ g ∧ Bk w g cur 35 ∧ ∀ (i : Nat) (p : List Nat), acc[i]? = some p → ∃ u, cur[i]? = some u ∧ RowAt w ns u p := by
  obtain ⟨vals, h1, h2⟩ := h
  rcases h1.2 with ⟨_, h3⟩ | ⟨g, cap, cur, hv, hg1, hh, hcap, _, _, htk⟩
  · exact absurd (List.length_eq_zero_iff.1 h3) h0
  · refine ⟨g, cap, cur, hv, hcap, hg1, hh, fun i p hp => ?_⟩
    obtain ⟨u, q1, q2⟩ := h2 i p hp
    have hi := (List.getElem?_eq_some_iff.1 hp).1
    rw [← htk, List.getElem?_take, if_pos (by omega), Array.getElem?_toList] at q1
    exact ⟨u, q1, q2⟩
theorem eql_nil_rows (w : World) : (binOp BinOp.eql 55 (.slice none 0 0) (.slice none 0 0)).run Tryz.prog w = .ok (.bool true) w := by kernel_rfl
theorem eql_some_rows (g n c : Nat) (w : World) : (binOp BinOp.eql 55 (.slice (some ⟨g, 0, none⟩) n c) (.slice none 0 0)).run Tryz.prog w = .ok (.bool false) w := by kernel_rfl
def routeE (s : NS) (a b : Nm) (bits : Int) : Int := firstE [endsE s a b, amtE bits]
/-- What Route hands back. -/
def RouteP (s : NS) (a b : Nm) (bits : Int) (w : World) (e : Ending) (w' : World) : Prop :=
  (∃ v z, e = .returned (.tuple #[v, .int .i64 z]) ∧ ((routeE s a b bits ≠ 0 ∧ z = routeE s a b bits ∧ v = .slice none 0 0) ∨ (routeE s a b bits = 0 ∧ pathsG s bits a b 1 = [] ∧ z = 21 ∧ v = .slice none 0 0) ∨ (routeE s a b bits = 0 ∧ ∃ p l, pathsG s bits a b 1 = p :: l ∧ z = 0 ∧ RowAt w' (namesG s) v p))) ∧ Below w.heap.size w w'
set_option maxRecDepth 100000 in
set_option maxHeartbeats 4000000 in
theorem Route_any {w : World} {N : Nat} {s : NS} {bn bl : Nat} {vh vs : Value} (h : NetAt w N s bn bl vh vs) (a b : Nm) (bits : Int) (ha : a.length ≤ maxLen) (hb : b.length ≤ maxLen) :
    Calls Tryz.prog 17 #[.pointer (some ⟨N, 0, none⟩), encS a, encS b, .int .i64 bits] w (RouteP s a b bits w) := by
  have HE := Lib.hid (ends_any h a b ha hb)
  have HM := Lib.hid (fun W => amount_any bits W)
  have HA : Hid (∀ (W : World) (f1 f2 : Value) (g : Nat), Below w.heap.size w W → CondOK W f1 (endsE s a b) → CondOK W f2 (amtE bits) → W.heap.size = g →
      Calls Tryz.prog 28 #[.pointer (some ⟨N, 0, none⟩), .slice (some ⟨g, 0, none⟩) 2 2] (W.alloc (.cells #[f1, f2] 74)) (AnsN (routeE s a b bits) (W.alloc (.cells #[f1, f2] 74)))) := Lib.hid fun W f1 f2 g hW q1 q2 hg => by
    refine ask_made (h.far hW) [(f1, endsE s a b), (f2, amtE bits)] _ rfl 2 rfl (by omega) ?_ g hg
    intro y hy
    simp only [List.mem_cons, List.not_mem_nil, or_false] at hy
    rcases hy with rfl | rfl
    · exact q1
    · exact q2
  have H := Lib.hid h
  have HZ : Hid (routeE s a b bits = 0 → endsE s a b = 0 ∧ amtE bits = 0) := Lib.hid firstE2
  generalize hz : routeE s a b bits = zv at *
  have HZV := Lib.hid hz
  clear h hz
  go_enter Tryz.func17, Tryz.ntmps17
  go_wp2_with fail
  refine HE.out.mono ?_
  rintro e w3 ⟨f3, rfl, k3, b3⟩
  obtain ⟨fn3, cap3, rfl, _⟩ := id k3
  go_wp2_with fail
  refine (HM.out _).mono ?_
  rintro e w4 ⟨f4, rfl, k4, b4⟩
  obtain ⟨fn4, cap4, rfl, _⟩ := id k4
  go_wp2_with fail
  refine (HA.out w4 _ _ _ (bnextK b3 b4) (k3.far b4) k4 rfl).mono ?_
  rintro e w5 ⟨rfl, b5⟩
  have HB5 : Hid (Below w.heap.size w w5) := Lib.hid (bnextK (bnextK (bnextK b3 b4) (below_alloc _ _)) b5)
  clear b3 b4 b5 k3 k4 HA HM HE
  by_cases h0 : zv = 0
  · obtain ⟨e1, e2⟩ := HZ.out h0
    obtain ⟨_, _, hab, hma, hmb, _, _⟩ := endsE_zero e1
    have hN5 := H.out.far HB5.out
    have HG := Lib.hid (graph_any hN5 bits (by have := List.length_pos_of_mem hma; omega))
    have HOK := Lib.hid H.out.ok
    subst h0
    clear hN5 e1 e2
    go_wp2_with fail
    refine HG.out.mono ?_
    clear HG
    rintro e w6 ⟨G, rfl, hgx, hb6⟩
    have HC := Lib.hid (choose_names hgx HOK.out a b hma hmb hab 1 (by omega) (by omega))
    have HB6 := Lib.hid (bnextK HB5.out hb6)
    clear hgx hb6
    go_wp2_with fail
    refine HC.out.mono ?_
    clear HC
    rintro e w7 ⟨⟨v, rfl, h1, h2⟩, hb7⟩
    have HB7 := Lib.hid (bnextK HB6.out hb7)
    by_cases hp : pathsG s bits a b 1 = []
    · obtain rfl := h1 hp
      have hq := eql_nil_rows
      clear h1 h2 hb7
      go_wp2_with fail
      refine bodyPost_ret (a := Act.mk _ _) (results_tmp2 rfl _ _ _) rfl ?_
      exact ⟨⟨_, _, rfl, .inr (.inl ⟨HZV.out, hp, rfl, rfl⟩)⟩, HB7.out⟩
    · obtain ⟨g, cap, cur, rfl, hcap, _, hbk, hrows⟩ := (h2 hp).slice hp
      obtain ⟨p, l, hpl⟩ : ∃ p l, pathsG s bits a b 1 = p :: l := by
        cases hq : pathsG s bits a b 1 with
        | nil => exact absurd hq hp
        | cons p l => exact ⟨p, l, rfl⟩
      obtain ⟨u, hu, hrow⟩ := hrows 0 p (by rw [hpl]; rfl)
      have cu := hbk.cell 0
      have hq := eql_some_rows g
      rw [hu] at cu
      obtain ⟨h8, c8, cs8, rfl, _⟩ := id hrow
      have HROW := Lib.hid hrow; have HPL := Lib.hid hpl
      rw [hpl] at hcap ⊢
      have hpos : 0 < (p :: l).length := by simp
      generalize (p :: l).length = ln at *
      have hpos' : (0 : Int) < (ln : Int) := by omega
      clear h1 h2 hb7 hbk hrows hrow hpl hu
      go_wp2_with fail
      refine bodyPost_ret (a := Act.mk _ _) (results_tmp2 rfl _ _ _) rfl ?_
      exact ⟨⟨_, _, rfl, .inr (.inr ⟨HZV.out, p, l, HPL.out, rfl, HROW.out⟩)⟩, HB7.out⟩
  · have hb0 : (zv != 0) = true := by simp [h0]
    go_wp2_with fail
    refine bodyPost_ret (a := Act.mk _ _) (results_tmp2 rfl _ _ _) rfl ?_
    exact ⟨⟨_, _, rfl, .inl ⟨by rw [HZV.out]; exact h0, HZV.out.symm, rfl⟩⟩, HB5.out⟩
#print axioms Route_any
end Go.Proofs.YtghjlbbalngdhaaGreatDoor
/- The contract of Most. Conditions: as each statement says. -/
namespace Go.Proofs.YtghjlbbalngdhaaGreatDoor
open Go.RowKit
set_option linter.unusedVariables false
def mostG (s : NS) (bits : Int) (a b : Nm) (k : Nat) : Nat := countG (graphG s bits) (ixN s a) (ixN s b) k
theorem flow_names {w : World} {G : Nat} {s : NS} {bits : Int} (h : GX w w.heap.size G (namesG s) (graphG s bits)) (hok : NSOK s) (a b : Nm) (ha : a ∈ s.nodes) (hb : b ∈ s.nodes) (hab : a ≠ b) (k : Nat) (hk : k ≤ 1000) :
    Calls Tryz.prog 67 #[.pointer (some ⟨G, 0, none⟩), encS a, encS b, .int .i64 (k : Int)] w fun e w' => (∃ z : Int, z = mostG s bits a b k ∧ e = .returned (.int .i64 z)) ∧ Below w.heap.size w w' :=
  flow_any (h.at' (Nat.le_refl _)) (namesG_lt hok.nod) (ixN s a) (ixN s b) k a b (ixN_get ha) (ixN_get hb) (ixN_ne ha hb hab) hk
/-- What Most hands back. -/
def MostP (s : NS) (a b : Nm) (bits : Int) (w : World) (e : Ending) (w' : World) : Prop :=
  (∃ m z : Int, e = .returned (.tuple #[.int .i64 m, .int .i64 z]) ∧ z = routeE s a b bits ∧ m = if routeE s a b bits = 0 then (mostG s bits a b 16 : Int) else 0) ∧ Below w.heap.size w w'
set_option maxRecDepth 100000 in
set_option maxHeartbeats 4000000 in
theorem Most_any {w : World} {N : Nat} {s : NS} {bn bl : Nat} {vh vs : Value} (h : NetAt w N s bn bl vh vs) (a b : Nm) (bits : Int) (ha : a.length ≤ maxLen) (hb : b.length ≤ maxLen) :
    Calls Tryz.prog 19 #[.pointer (some ⟨N, 0, none⟩), encS a, encS b, .int .i64 bits] w (MostP s a b bits w) := by
  have HE := Lib.hid (ends_any h a b ha hb)
  have HM := Lib.hid (fun W => amount_any bits W)
  have HA : Hid (∀ (W : World) (f1 f2 : Value) (g : Nat), Below w.heap.size w W → CondOK W f1 (endsE s a b) → CondOK W f2 (amtE bits) → W.heap.size = g →
      Calls Tryz.prog 28 #[.pointer (some ⟨N, 0, none⟩), .slice (some ⟨g, 0, none⟩) 2 2] (W.alloc (.cells #[f1, f2] 74)) (AnsN (routeE s a b bits) (W.alloc (.cells #[f1, f2] 74)))) := Lib.hid fun W f1 f2 g hW q1 q2 hg => by
    refine ask_made (h.far hW) [(f1, endsE s a b), (f2, amtE bits)] _ rfl 2 rfl (by omega) ?_ g hg
    intro y hy
    simp only [List.mem_cons, List.not_mem_nil, or_false] at hy
    rcases hy with rfl | rfl
    · exact q1
    · exact q2
  have H := Lib.hid h
  have HZ : Hid (routeE s a b bits = 0 → endsE s a b = 0 ∧ amtE bits = 0) := Lib.hid firstE2
  generalize hz : routeE s a b bits = zv at *
  have HZV := Lib.hid hz
  clear h hz
  go_enter Tryz.func19, Tryz.ntmps19
  go_wp2_with fail
  refine HE.out.mono ?_
  rintro e w3 ⟨f3, rfl, k3, b3⟩
  obtain ⟨fn3, cap3, rfl, _⟩ := id k3
  go_wp2_with fail
  refine (HM.out _).mono ?_
  rintro e w4 ⟨f4, rfl, k4, b4⟩
  obtain ⟨fn4, cap4, rfl, _⟩ := id k4
  go_wp2_with fail
  refine (HA.out w4 _ _ _ (bnextK b3 b4) (k3.far b4) k4 rfl).mono ?_
  rintro e w5 ⟨rfl, b5⟩
  have HB5 : Hid (Below w.heap.size w w5) := Lib.hid (bnextK (bnextK (bnextK b3 b4) (below_alloc _ _)) b5)
  clear b3 b4 b5 k3 k4 HA HM HE
  by_cases h0 : zv = 0
  · obtain ⟨e1, e2⟩ := HZ.out h0
    obtain ⟨_, _, hab, hma, hmb, _, _⟩ := endsE_zero e1
    have hN5 := H.out.far HB5.out
    have HG := Lib.hid (graph_any hN5 bits (by have := List.length_pos_of_mem hma; omega))
    have HOK := Lib.hid H.out.ok
    subst h0
    clear hN5 e1 e2
    go_wp2_with fail
    refine HG.out.mono ?_
    clear HG
    rintro e w6 ⟨G, rfl, hgx, hb6⟩
    have HC := Lib.hid (flow_names hgx HOK.out a b hma hmb hab 16 (by omega))
    have HB6 := Lib.hid (bnextK HB5.out hb6)
    clear hgx hb6
    go_wp2_with fail
    refine HC.out.mono ?_
    clear HC
    rintro e w7 ⟨⟨z, hz, rfl⟩, hb7⟩
    have HZ7 := Lib.hid hz
    have HB7 := Lib.hid (bnextK HB6.out hb7)
    clear hz hb7
    go_wp2_with fail
    refine bodyPost_ret (a := Act.mk _ _) (results_tmp2 rfl _ _ _) rfl ?_
    exact ⟨⟨_, _, rfl, HZV.out.symm, by rw [HZV.out, if_pos rfl]; exact HZ7.out⟩, HB7.out⟩
  · have hb0 : (zv != 0) = true := by simp [h0]
    go_wp2_with fail
    refine bodyPost_ret (a := Act.mk _ _) (results_tmp2 rfl _ _ _) rfl ?_
    exact ⟨⟨_, _, rfl, HZV.out.symm, by rw [HZV.out, if_neg h0]⟩, HB5.out⟩
#print axioms Most_any
end Go.Proofs.YtghjlbbalngdhaaGreatDoor
/- The chapter's example, plainly. Conditions: none. -/
namespace Go.Proofs.YtghjlbbalngdhaaGreatDoor
set_option linter.unusedVariables false
def nA : Nm := [97]
def nB : Nm := [98]
def nC : Nm := [99]
def nD : Nm := [100]
def ns0 : NS := ⟨[], fun _ => false, [], fun _ => lk0, 0, 0, [], []⟩
def exN : Nat → NS
  | 0 => ns0
  | 1 => addNode ns0 nA
  | 2 => addNode (addNode ns0 nA) nB
  | 3 => addNode (addNode (addNode ns0 nA) nB) nC
  | _ => addNode (addNode (addNode (addNode ns0 nA) nB) nC) nD
def exL1 : NS := addLink (exN 4) nA nB 100 100 0 0
def exL2 : NS := addLink exL1 nB nD 100 100 0 0
def exL3 : NS := addLink exL2 nA nC 100 100 0 0
def exL4 : NS := addLink exL3 nC nD 100 100 0 0
def exS : NS := addLink exL4 nA nD 20 20 0 0
def nms4 : List Nm := [nA, nB, nC, nD]
theorem exN_step (k : Nat) (hk : k < 4) : nodeE (exN k) (nms4.getD k []) = 0 ∧ addNode (exN k) (nms4.getD k []) = exN (k + 1) := by
  match k, hk with
  | 0, _ => exact ⟨by decide, rfl⟩
  | 1, _ => exact ⟨by decide, rfl⟩
  | 2, _ => exact ⟨by decide, rfl⟩
  | 3, _ => exact ⟨by decide, rfl⟩
theorem exL1_ok : linkE (exN 4) nA nB 100 100 0 0 = 0 := by decide
theorem exL2_ok : linkE exL1 nB nD 100 100 0 0 = 0 := by decide
theorem exL3_ok : linkE exL2 nA nC 100 100 0 0 = 0 := by decide
theorem exL4_ok : linkE exL3 nC nD 100 100 0 0 = 0 := by decide
theorem exS_ok : linkE exL4 nA nD 20 20 0 0 = 0 := by decide
theorem namesG_eq {s : NS} {l : List Nm} (hp : l.Perm s.nodes) (hl : l.Pairwise (· < ·)) (hn : s.nodes.Nodup) : namesG s = l := by
  refine List.Perm.eq_of_pairwise (le := fun a b => a < b) (fun a b _ _ h1 h2 => ?_) (namesG_lt hn) hl ((namesG_perm s).trans hp.symm)
  exact absurd h2 (List.lt_asymm h1)
theorem names_ex : namesG exS = nms4 := namesG_eq (l := nms4) (by show nms4.Perm nms4; exact List.Perm.refl _) (by decide) (by decide)
theorem row_ex (bits : Int) (x y : Nm) (i : Bool) (f : Int) (h1 : (decide (pairOf x y ∈ exS.pairs) && decide (x ≠ y) && !fenB exS x && !fenB exS y) = i) (h2 : (exS.lk (pairOf x y)).free = f) : rowE exS bits x y = (i && decide (bits ≤ f)) := by
  unfold rowE
  rw [h1, h2]
theorem graph_ex (bits : Int) (h0 : 0 ≤ bits) : graphG exS bits = exG bits.toNat := by
  have hb : ∀ c : Nat, decide (bits ≤ (c : Int)) = decide (bits.toNat ≤ c) := fun c => by
    by_cases h : bits ≤ (c : Int)
    · rw [decide_eq_true h, decide_eq_true (by omega)]
    · rw [decide_eq_false h, decide_eq_false (by omega)]
  have e100 := hb 100; have e20 := hb 20
  unfold graphG rowG
  rw [names_ex]
  simp only [nms4, List.map_cons, List.map_nil]
  rw [row_ex bits nA nA false 0 (by decide) (by decide), row_ex bits nA nB true 100 (by decide) (by decide), row_ex bits nA nC true 100 (by decide) (by decide), row_ex bits nA nD true 20 (by decide) (by decide),
    row_ex bits nB nA true 100 (by decide) (by decide), row_ex bits nB nB false 0 (by decide) (by decide), row_ex bits nB nC false 0 (by decide) (by decide), row_ex bits nB nD true 100 (by decide) (by decide),
    row_ex bits nC nA true 100 (by decide) (by decide), row_ex bits nC nB false 0 (by decide) (by decide), row_ex bits nC nC false 0 (by decide) (by decide), row_ex bits nC nD true 100 (by decide) (by decide),
    row_ex bits nD nA true 20 (by decide) (by decide), row_ex bits nD nB true 100 (by decide) (by decide), row_ex bits nD nC true 100 (by decide) (by decide), row_ex bits nD nD false 0 (by decide) (by decide)]
  simp only [Bool.true_and, Bool.false_and]
  unfold exG exAdj
  rw [show decide (bits ≤ 100) = decide (bits.toNat ≤ 100) from e100, show decide (bits ≤ 20) = decide (bits.toNat ≤ 20) from e20]
  rfl
theorem ixA : ixN exS nA = 0 := by unfold ixN; rw [names_ex]; decide
theorem ixD : ixN exS nD = 3 := by unfold ixN; rw [names_ex]; decide
theorem ex_paths : pathsG exS 50 nA nD 1 = [[0, 1, 3]] := by unfold pathsG; rw [graph_ex 50 (by decide), ixA, ixD]; exact ex_route
theorem ex_mostG : mostG exS 10 nA nD 16 = 3 := by unfold mostG; rw [graph_ex 10 (by decide), ixA, ixD]; exact ex_most
theorem ex_routeE : routeE exS nA nD 50 = 0 := by decide
theorem ex_routeE10 : routeE exS nA nD 10 = 0 := by decide
#print axioms ex_mostG
end Go.Proofs.YtghjlbbalngdhaaGreatDoor
/- The contracts of example and works. Conditions: none. -/
namespace Go.Proofs.YtghjlbbalngdhaaGreatDoor
open Go.RowKit
set_option linter.unusedVariables false
theorem ns0_ok : NSOK ns0 := ⟨List.nodup_nil, by decide, (by intro x hx; cases hx), List.nodup_nil, by decide, (by intro x hx; cases hx), (by intro x hx; cases hx), by decide⟩
theorem new_at (w : World) : NetAt (newW w) (w.heap.size + 1 + 1) ns0 w.heap.size (w.heap.size + 1) (.slice none 0 0) (.slice none 0 0) := by
  have h2 := Bk.new ((w.alloc (.map #[] 0)).alloc (.map #[] 0)) #[.map (some w.heap.size), .map (some (w.heap.size + 1)), .int .i64 0, .slice none 0 0, .int .i64 0, .slice none 0 0] 28
  rw [World.size_alloc, World.size_alloc] at h2
  have m0 := MapL.made strK w
  have m1 := MapL.made pairK (w.alloc (.map #[] 0))
  rw [World.size_alloc] at m1
  refine ⟨h2, ?_, ?_, ⟨[], World.ownsRow_nil _ _ _ _, by simp [ns0]⟩, ⟨[], World.ownsRow_nil _ _ _ _, by simp [ns0]⟩, ns0_ok, by omega⟩
  · have k : KeepL [] (w.alloc (.map #[] 0)) (newW w) := (KeepL.alloc [] _ _).trans (KeepL.alloc [] _ _)
    exact (m0.keep (k.block _ m0.lt (by simp))).same (fun x _ => by simp [nodesF, ns0])
  · have k : KeepL [] ((w.alloc (.map #[] 0)).alloc (.map #[] 0)) (newW w) := KeepL.alloc [] _ _
    exact (m1.keep (k.block _ m1.lt (by simp))).same (fun x _ => by simp [linksF, ns0])
theorem newW_below (w : World) : Below w.heap.size w (newW w) := alloc3_below w _ _ _
/-- A network whose memory lies behind the world w. -/
def NetNew (w : World) (s : NS) (N bn bl : Nat) (W : World) : Prop := NetAt W N s bn bl (.slice none 0 0) (.slice none 0 0) ∧ Below w.heap.size w W ∧ w.heap.size ≤ bn ∧ w.heap.size ≤ bl ∧ w.heap.size ≤ N
theorem NetNew.far {w : World} {s : NS} {N bn bl : Nat} {W W' : World} (h : NetNew w s N bn bl W) (hb : Below W.heap.size W W') : NetNew w s N bn bl W' := ⟨h.1.far hb, bnextK h.2.1 hb, h.2.2⟩
theorem NetNew.node {w : World} {s : NS} {N bn bl : Nat} {W W' : World} {x : Nm} {e : Ending} (h : NetNew w s N bn bl W) (hp : NodeP N s bn bl (.slice none 0 0) (.slice none 0 0) x W e W') : NetNew w (nodeS s x) N bn bl W' ∧ KeepL [bn] W W' :=
  ⟨⟨hp.2.1, h.2.1.trans (hp.2.2.below h.2.1.size (by simpa using h.2.2.1)), h.2.2⟩, hp.2.2⟩
theorem NetNew.link {w : World} {s : NS} {N bn bl : Nat} {W W' : World} {a b : Nm} {st cp gn ev : Int} {e : Ending} (h : NetNew w s N bn bl W) (hp : LinkP N s bn bl (.slice none 0 0) (.slice none 0 0) a b st cp gn ev W e W') : NetNew w (linkS s a b st cp gn ev) N bn bl W' ∧ KeepL [bl] W W' :=
  ⟨⟨hp.2.1, h.2.1.trans (hp.2.2.below h.2.1.size (by simpa using h.2.2.2.1)), h.2.2⟩, hp.2.2⟩
def ExmP (w : World) (e : Ending) (w' : World) : Prop := ∃ N bn bl, e = .returned (.pointer (some ⟨N, 0, none⟩)) ∧ NetNew w exS N bn bl w'
theorem lk4 {w : World} {b : Nat} {t : TypeId} {a0 a1 a2 a3 : Value} (h : Bk w b #[a0, a1, a2, a3] t) : w.cell? ⟨b, 0, none⟩ = some a0 ∧ w.cell? ⟨b, 1, none⟩ = some a1 ∧ w.cell? ⟨b, 2, none⟩ = some a2 ∧ w.cell? ⟨b, 3, none⟩ = some a3 :=
  ⟨by rw [h.cell]; rfl, by rw [h.cell]; rfl, by rw [h.cell]; rfl, by rw [h.cell]; rfl⟩
theorem lenN (x : UInt8) : ([x] : Nm).length ≤ maxLen := by unfold maxLen; simp
set_option maxRecDepth 100000 in
set_option maxHeartbeats 4000000 in
theorem example_any (w : World) : Calls Tryz.prog 75 #[] w (ExmP w) := by
  have hok : ∀ k, k < 4 → nodeS (exN k) (nms4.getD k []) = exN (k + 1) := fun k hk => by
    unfold nodeS
    rw [if_pos (exN_step k hk).1]
    exact (exN_step k hk).2
  have HOK := Lib.hid hok
  clear hok
  go_enter Tryz.func75, Tryz.ntmps75
  go_wp2_with fail
  refine (newNet_any _).mono ?_
  rintro e w1 ⟨rfl, rfl⟩
  have HN1 : Hid (NetNew w ns0 (w.heap.size + 1 + 1) w.heap.size (w.heap.size + 1) (newW w)) := Lib.hid ⟨new_at w, newW_below w, Nat.le_refl _, by omega, by omega⟩
  obtain ⟨w1, hw1⟩ : ∃ z, z = newW w := ⟨_, rfl⟩
  rw [← hw1] at HN1 ⊢
  clear hw1
  generalize hN : w.heap.size + 1 + 1 = N at HN1 ⊢
  generalize hbn : w.heap.size = bn at HN1
  generalize hbl : bn + 1 = bl at HN1
  clear hN hbn hbl
  go_wp2_with fail
  obtain ⟨w2, hw2⟩ : ∃ z, z = w1.alloc (.cells #[.string ⟨#[97]⟩, .string ⟨#[98]⟩, .string ⟨#[99]⟩, .string ⟨#[100]⟩] 9) := ⟨_, rfl⟩
  have HI : Hid (NetNew w (exN 0) N bn bl w2 ∧ Bk w2 w1.heap.size #[.string ⟨#[97]⟩, .string ⟨#[98]⟩, .string ⟨#[99]⟩, .string ⟨#[100]⟩] 9) := Lib.hid (by
    rw [hw2]; exact ⟨HN1.out.far (below_alloc _ _), Bk.new _ _ _⟩)
  rw [← hw2]
  clear hw2 HN1
  generalize w1.heap.size = hl at HI ⊢
  go_loopw [3] (fun i wr => ∃ k : Nat, k ≤ 4 ∧ i = .int .i64 k ∧ NetNew w (exN k) N bn bl wr ∧ Bk wr hl #[.string ⟨#[97]⟩, .string ⟨#[98]⟩, .string ⟨#[99]⟩, .string ⟨#[100]⟩] 9) (fun i _ => 4 - (intOf i).toNat)
  case atStart => exact ⟨0, by omega, rfl, HI.out⟩
  case round =>
    obtain ⟨k, hk, rfl, hn, hb⟩ := hrel
    obtain ⟨wa, rfl⟩ : ∃ z : World, z = wr := ⟨_, rfl⟩
    have HN := Lib.hid hn; have HB := Lib.hid hb
    have hc := hb.cell k
    clear hn hb HI
    by_cases hlt : k < 4
    · have hki : (k : Int) < 4 := by omega
      have ck : wa.cell? ⟨hl, k, none⟩ = some (encS (nms4.getD k [])) := by
        rw [hc]
        match k, hlt with
        | 0, _ => rfl
        | 1, _ => rfl
        | 2, _ => rfl
        | 3, _ => rfl
      have HP := Lib.hid (Node_any HN.out.1 (nms4.getD k []) (by
        match k, hlt with
        | 0, _ => exact lenN _
        | 1, _ => exact lenN _
        | 2, _ => exact lenN _
        | 3, _ => exact lenN _))
      have HS := Lib.hid (HOK.out k hlt)
      generalize nms4.getD k [] = x at *
      clear hc
      go_wp2_with fail
      refine HP.out.mono ?_
      clear HP
      rintro e w3 hp
      have HQ := Lib.hid (HN.out.node hp)
      rw [HS.out] at HQ
      have HB3 := Lib.hid (HB.out.keepL HQ.out.2 (by simpa using HB.out.nmapL HN.out.1.nodes))
      obtain ⟨z, hz, rfl⟩ := hp.1
      clear hp hz
      go_wp2_with fail
      go_roundw
      case rel => exact ⟨k + 1, by omega, by go_num, HQ.out.1, HB3.out⟩
      case measure => simp [intOf]; omega
    · have hki : ¬ (k : Int) < 4 := by omega
      obtain rfl : k = 4 := by omega
      clear hc HB
      go_wp2_with fail
      obtain ⟨w4, hw4⟩ : ∃ z, z = wa.alloc (.cells #[.int .i64 100, .int .i64 100, .int .i64 0, .int .i64 0] 34) := ⟨_, rfl⟩
      have HI4 : Hid (NetNew w (exN 4) N bn bl w4 ∧ Bk w4 wa.heap.size #[.int .i64 100, .int .i64 100, .int .i64 0, .int .i64 0] 34) := Lib.hid (by
        rw [hw4]; exact ⟨HN.out.far (below_alloc _ _), Bk.new _ _ _⟩)
      rw [← hw4]
      clear hw4 HN
      generalize wa.heap.size = X at HI4 ⊢
      obtain ⟨d0, d1, d2, d3⟩ := lk4 HI4.out.2
      have hlk : linkS (exN 4) nA nB 100 100 0 0 = exL1 := by unfold linkS; rw [if_pos exL1_ok]; rfl
      have HP := Lib.hid (Link_any HI4.out.1.1 nA nB 100 100 0 0 (lenN _) (lenN _))
      refine HP.out.mono ?_
      clear HP d0 d1 d2 d3
      rintro e w5 hp
      have HQ := Lib.hid (HI4.out.1.link hp)
      rw [hlk] at HQ
      have HI5 : Hid (NetNew w (exL1) N bn bl w5 ∧ Bk w5 X #[.int .i64 100, .int .i64 100, .int .i64 0, .int .i64 0] 34) := Lib.hid ⟨HQ.out.1, HI4.out.2.keepL HQ.out.2 (by simpa using HI4.out.2.nmapL HI4.out.1.1.links)⟩
      obtain ⟨z, hz, rfl⟩ := hp.1
      clear hp hz HQ hlk HI4
      obtain ⟨d0, d1, d2, d3⟩ := lk4 HI5.out.2
      have hlk : linkS (exL1) nB nD 100 100 0 0 = exL2 := by unfold linkS; rw [if_pos exL2_ok]; rfl
      have HP := Lib.hid (Link_any HI5.out.1.1 nB nD 100 100 0 0 (lenN _) (lenN _))
      go_wp2_with fail
      refine HP.out.mono ?_
      clear HP d0 d1 d2 d3
      rintro e w6 hp
      have HQ := Lib.hid (HI5.out.1.link hp)
      rw [hlk] at HQ
      have HI6 : Hid (NetNew w (exL2) N bn bl w6 ∧ Bk w6 X #[.int .i64 100, .int .i64 100, .int .i64 0, .int .i64 0] 34) := Lib.hid ⟨HQ.out.1, HI5.out.2.keepL HQ.out.2 (by simpa using HI5.out.2.nmapL HI5.out.1.1.links)⟩
      obtain ⟨z, hz, rfl⟩ := hp.1
      clear hp hz HQ hlk HI5
      obtain ⟨d0, d1, d2, d3⟩ := lk4 HI6.out.2
      have hlk : linkS (exL2) nA nC 100 100 0 0 = exL3 := by unfold linkS; rw [if_pos exL3_ok]; rfl
      have HP := Lib.hid (Link_any HI6.out.1.1 nA nC 100 100 0 0 (lenN _) (lenN _))
      go_wp2_with fail
      refine HP.out.mono ?_
      clear HP d0 d1 d2 d3
      rintro e w7 hp
      have HQ := Lib.hid (HI6.out.1.link hp)
      rw [hlk] at HQ
      have HI7 : Hid (NetNew w (exL3) N bn bl w7 ∧ Bk w7 X #[.int .i64 100, .int .i64 100, .int .i64 0, .int .i64 0] 34) := Lib.hid ⟨HQ.out.1, HI6.out.2.keepL HQ.out.2 (by simpa using HI6.out.2.nmapL HI6.out.1.1.links)⟩
      obtain ⟨z, hz, rfl⟩ := hp.1
      clear hp hz HQ hlk HI6
      obtain ⟨d0, d1, d2, d3⟩ := lk4 HI7.out.2
      have hlk : linkS (exL3) nC nD 100 100 0 0 = exL4 := by unfold linkS; rw [if_pos exL4_ok]; rfl
      have HP := Lib.hid (Link_any HI7.out.1.1 nC nD 100 100 0 0 (lenN _) (lenN _))
      go_wp2_with fail
      refine HP.out.mono ?_
      clear HP d0 d1 d2 d3
      rintro e w8 hp
      have HQ := Lib.hid (HI7.out.1.link hp)
      rw [hlk] at HQ
      have HI8 : Hid (NetNew w (exL4) N bn bl w8 ∧ Bk w8 X #[.int .i64 100, .int .i64 100, .int .i64 0, .int .i64 0] 34) := Lib.hid ⟨HQ.out.1, HI7.out.2.keepL HQ.out.2 (by simpa using HI7.out.2.nmapL HI7.out.1.1.links)⟩
      obtain ⟨z, hz, rfl⟩ := hp.1
      clear hp hz HQ hlk HI7
      obtain ⟨d0, d1, d2, d3⟩ := lk4 HI8.out.2
      have hlk : linkS (exL4) nA nD 20 20 0 0 = exS := by unfold linkS; rw [if_pos exS_ok]; rfl
      have HP := Lib.hid (Link_any HI8.out.1.1 nA nD 20 20 0 0 (lenN _) (lenN _))
      go_wp2_with fail
      refine HP.out.mono ?_
      clear HP d0 d1 d2 d3
      rintro e w9 hp
      have HQ := Lib.hid (HI8.out.1.link hp)
      rw [hlk] at HQ
      have HI9 : Hid (NetNew w (exS) N bn bl w9 ∧ Bk w9 X #[.int .i64 100, .int .i64 100, .int .i64 0, .int .i64 0] 34) := Lib.hid ⟨HQ.out.1, HI8.out.2.keepL HQ.out.2 (by simpa using HI8.out.2.nmapL HI8.out.1.1.links)⟩
      obtain ⟨z, hz, rfl⟩ := hp.1
      clear hp hz HQ hlk HI8
      go_wp2_with fail
      go_ret
      exact ⟨N, bn, bl, rfl, HI9.out.1⟩
#print axioms example_any
end Go.Proofs.YtghjlbbalngdhaaGreatDoor
/- The contract of works. Conditions: none. -/
namespace Go.Proofs.YtghjlbbalngdhaaGreatDoor
open Go.RowKit
set_option linter.unusedVariables false
set_option maxRecDepth 100000 in
set_option maxHeartbeats 4000000 in
theorem works09_any (w : World) : Calls Tryz.prog 27 #[] w fun e w' => e = .returned (.bool true) ∧ Below w.heap.size w w' := by
  go_enter Tryz.func27, Tryz.ntmps27
  go_wp2_with fail
  refine (example_any _).mono ?_
  rintro e w1 ⟨N, bn, bl, rfl, hn⟩
  have HN := Lib.hid hn
  have HR := Lib.hid (Route_any hn.1 nA nD 50 (lenN _) (lenN _))
  clear hn
  go_wp2_with fail
  refine HR.out.mono ?_
  clear HR
  rintro e w2 ⟨⟨v, z, rfl, h1⟩, hb2⟩
  have hx : z = 0 ∧ RowAt w2 (namesG exS) v [0, 1, 3] := by
    rcases h1 with ⟨q1, _⟩ | ⟨_, q2, _⟩ | ⟨_, p, l, q2, q3, q4⟩
    · exact absurd ex_routeE q1
    · rw [ex_paths] at q2; cases q2
    · rw [ex_paths] at q2
      injection q2 with q2 _
      subst q2
      exact ⟨q3, q4⟩
  obtain ⟨rfl, hrow⟩ := hx
  obtain ⟨h, c, cs, rfl, hc, hbk, hcs⟩ := hrow
  have hN2 := HN.out.far hb2
  have HB2 := Lib.hid hN2.2.1
  have HM := Lib.hid (Most_any hN2.1 nA nD 10 (lenN _) (lenN _))
  have e1 := hcs 1 (by simp)
  rw [names_ex] at e1
  change cs[1]? = some (.string ⟨#[98]⟩) at e1
  have HBK := Lib.hid hbk
  clear h1 hb2 hN2 hcs hbk HN
  go_wp2_with fail
  refine HM.out.mono ?_
  clear HM
  rintro e w3 ⟨⟨m, z, rfl, hz, hm⟩, hb3⟩
  rw [ex_routeE10] at hz hm
  rw [if_pos rfl, ex_mostG] at hm
  subst hz
  have hm3 : m = 3 := hm
  subst hm3
  have HB3 : Hid (Below w.heap.size w w3) := Lib.hid (bnextK HB2.out hb3)
  have ck := (HBK.out.past hb3 HBK.out.lt).cell 1
  rw [e1] at ck
  have hl3 : ([0, 1, 3] : List Nat).length = 3 := rfl
  clear hb3 e1 hm HBK
  simp only [List.length_cons, List.length_nil, Nat.zero_add, Nat.reduceAdd] at hc
  go_wp2_with fail
  go_ret
  exact ⟨rfl, HB3.out⟩
#print axioms works09_any
end Go.Proofs.YtghjlbbalngdhaaGreatDoor
/- NetworkNil: the walk. Conditions: as the statement says. -/
namespace Go.Proofs.YtghjlbbalngdhaaGreatDoor
open Go.RowKit
set_option linter.unusedVariables false
def TrueB (w : World) (e : Ending) (w' : World) : Prop := e = .returned (.bool true) ∧ Below w.heap.size w w'
set_option maxRecDepth 100000 in
set_option maxHeartbeats 4000000 in
theorem NetworkNil_walk (a b : Nm) (k : Int) (w : World) : Calls Tryz.prog 3 #[encS a, encS b, .int .i64 k] w (TrueB w) := by
  have HW := Lib.hid (fun W => works09_any W)
  have q1 : ∀ w, (binOp BinOp.neq 22 (.pointer none) (.pointer none)).run Tryz.prog w = .ok (.bool false) w := fun w => by kernel_rfl
  have q2 : ∀ w, (binOp BinOp.neq 45 (.agg #[.int .i64 0, .int .i64 0, .int .i64 0]) (.agg #[.int .i64 0, .int .i64 0, .int .i64 0])).run Tryz.prog w = .ok (.bool false) w := fun w => by kernel_rfl
  have q3 : ∀ w, (binOp BinOp.neq 9 (.string ⟨#[]⟩) (.string ⟨#[]⟩)).run Tryz.prog w = .ok (.bool false) w := fun w => by kernel_rfl
  obtain ⟨w2, hw2⟩ : ∃ w2, w2 = (w.alloc (.cells #[.map none, .map none, .int .i64 0, .slice none 0 0, .int .i64 0, .slice none 0 0] 28)).alloc (.cells #[.pointer none, .pointer (some ⟨w.heap.size, 0, none⟩)] 22) := ⟨_, rfl⟩
  obtain ⟨k0, k1⟩ := boxes2 w #[.map none, .map none, .int .i64 0, .slice none 0 0, .int .i64 0, .slice none 0 0] #[.pointer none, .pointer (some ⟨w.heap.size, 0, none⟩)] 28 22
  have hb2 : Below w.heap.size w w2 := by rw [hw2]; exact alloc2_below _ _ _
  rw [← hw2] at k0 k1
  have HW2 := Lib.hid hw2; have HB2 := Lib.hid hb2
  have HOB : Hid (∀ (i : Nat) W, i < 2 → Below w2.heap.size w2 W → ∃ p, W.cell? ⟨w.heap.size + 1, i, none⟩ = some (.pointer p) ∧ BadN W p) := Lib.hid fun i W hi hW => by
    have c0 := (k0.past hW k0.lt).cell 0
    have c1 := (k1.past hW k1.lt).cell i
    match i, hi with
    | 0, _ => exact ⟨none, by simpa using c1, .inl rfl⟩
    | 1, _ => exact ⟨_, by simpa using c1, .inr ⟨_, rfl, by simpa using c0⟩⟩
  clear k0 k1 hb2 hw2
  go_enter Tryz.func3, Tryz.ntmps3
  go_wp2_with fail
  rw [← HW2.out]
  clear HW2
  go_loopw [8, 9, 10, 11, 12, 13, 14, 15, 16, 17, 18, 19, 20, 21, 22, 23, 24, 25, 26, 27, 28, 29, 30, 31, 32, 33] (fun i _ _ _ _ _ _ _ _ _ _ _ _ _ _ _ _ _ _ _ _ _ _ _ _ _ wr => ∃ j : Nat, j ≤ 2 ∧ i = .int .i64 j ∧ Below w2.heap.size w2 wr) (fun i _ _ _ _ _ _ _ _ _ _ _ _ _ _ _ _ _ _ _ _ _ _ _ _ _ _ => 2 - (intOf i).toNat)
  case atStart => exact ⟨0, by omega, rfl, Below.refl _ _⟩
  case round =>
    obtain ⟨j, hj, rfl, hb⟩ := hrel
    obtain ⟨wa, rfl⟩ : ∃ z : World, z = wr := ⟨_, rfl⟩
    have HB := Lib.hid hb
    clear hb
    by_cases hlt : j < 2
    · have hki : (j : Int) < 2 := by omega
      obtain ⟨p, cp, hd⟩ := HOB.out j wa hlt HB.out
      have HD := Lib.hid hd
      clear hd
      go_wp2_with fail
      refine (Node_bad HD.out a).mono ?_
      rintro e x3 ⟨rfl, hb⟩
      have HB := Lib.hid (bnextK HB.out hb)
      have HD := Lib.hid (HD.out.far hb)
      clear hb
      go_wp2_with fail
      refine (Link_bad HD.out a b 0 0 0 0).mono ?_
      rintro e x4 ⟨rfl, hb⟩
      have HB := Lib.hid (bnextK HB.out hb)
      have HD := Lib.hid (HD.out.far hb)
      clear hb
      go_wp2_with fail
      refine (Nodes_bad HD.out).mono ?_
      rintro e wq ⟨rfl, rfl⟩
      go_wp2_with fail
      refine (Now_bad HD.out).mono ?_
      rintro e wq ⟨rfl, rfl⟩
      go_wp2_with fail
      refine (Tick_bad HD.out k).mono ?_
      rintro e x5 ⟨rfl, hb⟩
      have HB := Lib.hid (bnextK HB.out hb)
      have HD := Lib.hid (HD.out.far hb)
      clear hb
      go_wp2_with fail
      refine (Fence_bad HD.out a).mono ?_
      rintro e x6 ⟨rfl, hb⟩
      have HB := Lib.hid (bnextK HB.out hb)
      have HD := Lib.hid (HD.out.far hb)
      clear hb
      go_wp2_with fail
      refine (Cancel_bad HD.out k).mono ?_
      rintro e x7 ⟨rfl, hb⟩
      have HB := Lib.hid (bnextK HB.out hb)
      have HD := Lib.hid (HD.out.far hb)
      clear hb
      go_wp2_with fail
      refine (Holds_bad HD.out).mono ?_
      rintro e wq ⟨rfl, rfl⟩
      go_wp2_with fail
      refine (Transfers_bad HD.out).mono ?_
      rintro e wq ⟨rfl, rfl⟩
      go_wp2_with fail
      refine (Text_bad HD.out).mono ?_
      rintro e wq ⟨rfl, rfl⟩
      go_wp2_with fail
      refine (Copy_bad HD.out).mono ?_
      rintro e wq ⟨rfl, rfl⟩
      go_wp2_with fail
      refine (Stock_bad HD.out a b).mono ?_
      rintro e x8 ⟨rfl, hb⟩
      have HB := Lib.hid (bnextK HB.out hb)
      have HD := Lib.hid (HD.out.far hb)
      clear hb
      go_wp2_with fail
      obtain ⟨x0, hx0⟩ : ∃ z, z = x8.alloc (.cells #[.int .i64 0, .int .i64 0, .int .i64 0] 45) := ⟨_, rfl⟩
      have HS : Hid (Bk x0 x8.heap.size #[.int .i64 0, .int .i64 0, .int .i64 0] 45) := Lib.hid (by rw [hx0]; exact Bk.new _ _ _)
      have hb : Below x8.heap.size x8 x0 := by rw [hx0]; exact below_alloc _ _
      have HB := Lib.hid (bnextK HB.out hb)
      have HD := Lib.hid (HD.out.far hb)
      rw [← hx0]
      clear hx0 hb
      generalize x8.heap.size = zb at HS ⊢
      refine (Fenced_bad HD.out a).mono ?_
      rintro e x9 ⟨rfl, hb⟩
      have HB := Lib.hid (bnextK HB.out hb)
      have HD := Lib.hid (HD.out.far hb)
      have HS := Lib.hid (HS.out.past hb HS.out.lt)
      clear hb
      go_wp2_with fail
      refine (Route_bad HD.out a b k).mono ?_
      rintro e x10 ⟨rfl, hb⟩
      have HB := Lib.hid (bnextK HB.out hb)
      have HD := Lib.hid (HD.out.far hb)
      have HS := Lib.hid (HS.out.past hb HS.out.lt)
      clear hb
      go_wp2_with fail
      refine (Widest_bad HD.out a b).mono ?_
      rintro e x11 ⟨rfl, hb⟩
      have HB := Lib.hid (bnextK HB.out hb)
      have HD := Lib.hid (HD.out.far hb)
      have HS := Lib.hid (HS.out.past hb HS.out.lt)
      clear hb
      go_wp2_with fail
      refine (Most_bad HD.out a b k).mono ?_
      rintro e x12 ⟨rfl, hb⟩
      have HB := Lib.hid (bnextK HB.out hb)
      have HD := Lib.hid (HD.out.far hb)
      have HS := Lib.hid (HS.out.past hb HS.out.lt)
      clear hb
      go_wp2_with fail
      refine (Paths_bad HD.out a b k k).mono ?_
      rintro e x13 ⟨rfl, hb⟩
      have HB := Lib.hid (bnextK HB.out hb)
      have HD := Lib.hid (HD.out.far hb)
      have HS := Lib.hid (HS.out.past hb HS.out.lt)
      clear hb
      have z0 := HS.out.cell 0; have z1 := HS.out.cell 1; have z2 := HS.out.cell 2
      simp only [List.getElem?_toArray, List.getElem?_cons_succ, List.getElem?_cons_zero] at z0 z1 z2
      go_wp2_with fail
      clear HS z0 z1 z2
      refine (Reserve_bad HD.out a b k k).mono ?_
      rintro e x14 ⟨rfl, hb⟩
      have HB := Lib.hid (bnextK HB.out hb)
      have HD := Lib.hid (HD.out.far hb)
      clear hb
      go_wp2_with fail
      refine (Use_bad HD.out k).mono ?_
      rintro e x15 ⟨rfl, hb⟩
      have HB := Lib.hid (bnextK HB.out hb)
      have HD := Lib.hid (HD.out.far hb)
      clear hb
      go_wp2_with fail
      refine (Send_bad HD.out a b k k).mono ?_
      rintro e x16 ⟨rfl, hb⟩
      have HB := Lib.hid (bnextK HB.out hb)
      have HD := Lib.hid (HD.out.far hb)
      clear hb
      go_wp2_with fail
      refine (Deliver_bad HD.out k).mono ?_
      rintro e x17 ⟨rfl, hb⟩
      have HB := Lib.hid (bnextK HB.out hb)
      have HD := Lib.hid (HD.out.far hb)
      clear hb
      go_wp2_with fail
      refine (View_bad (HD.out.far (below_alloc _ _)) k _ 1 1).mono ?_
      rintro e x18 ⟨rfl, hb⟩
      have hb := bnextK (below_alloc _ _) hb
      have HB := Lib.hid (bnextK HB.out hb)
      have HD := Lib.hid (HD.out.far hb)
      clear hb
      go_wp2_with fail
      refine (Exposed_bad (HD.out.far (below_alloc _ _)) _ 1 1).mono ?_
      rintro e x19 ⟨rfl, hb⟩
      have hb := bnextK (below_alloc _ _) hb
      have HB := Lib.hid (bnextK HB.out hb)
      have HD := Lib.hid (HD.out.far hb)
      clear hb
      go_wp2_with fail
      go_roundw
      case rel => exact ⟨j + 1, by omega, by go_num, HB.out⟩
      case measure => simp [intOf]; omega
    · have hki : ¬ (j : Int) < 2 := by omega
      obtain rfl : j = 2 := by omega
      go_wp2_with fail
      refine (HW.out _).mono ?_
      rintro e w9 ⟨rfl, hb9⟩
      have HB9 := Lib.hid (bnextK HB2.out (bnextK HB.out hb9))
      clear hb9
      go_wp2_with fail
      go_ret
      exact ⟨rfl, HB9.out⟩
#print axioms NetworkNil_walk
end Go.Proofs.YtghjlbbalngdhaaGreatDoor
