/- The contracts of Route and Most. Conditions: as each statement says. -/
import Derived.Test.YtkmacmeeinpncaaNet32
import Derived.Test.YtkmacmeeinpncaaNet16
import Derived.Test.YtkmacmeeinpncaaNet13
import Derived.Test.YtkmacmeeinpncaaBase
import Derived.Test.YtkmacmeeinpncaaNet18
import Derived.Test.YtkmacmeeinpncaaTail
import Derived.Test.YtkmacmeeinpncaaNet26
namespace Go.Proofs.Ytkmacmeeinpncaa
open Go.RowKit
set_option linter.unusedVariables false
/-- The place of a name. -/
def ixN (s : NS) (a : Nm) : Nat := (namesG s).idxOf a
theorem ixN_get {s : NS} {a : Nm} (h : a ∈ s.nodes) : (namesG s)[ixN s a]? = some a := by
  have hm := namesG_mem.2 h
  have hlt : (namesG s).idxOf a < (namesG s).length := List.idxOf_lt_length_of_mem hm
  unfold ixN
  rw [List.getElem?_eq_getElem hlt, List.getElem_idxOf hlt]
theorem ixN_lt {s : NS} {a : Nm} (h : a ∈ s.nodes) : ixN s a < s.nodes.length := by
  have := (List.getElem?_eq_some_iff.1 (ixN_get h)).1
  rwa [namesG_len] at this
theorem ixN_ne {s : NS} {a b : Nm} (ha : a ∈ s.nodes) (hb : b ∈ s.nodes) (h : a ≠ b) : ixN s a ≠ ixN s b := fun e => by
  have h1 := ixN_get ha
  rw [e, ixN_get hb] at h1
  injection h1 with h1
  exact h h1.symm
theorem firstE3 {x y z : Int} (h : firstE [x, y, z] = 0) : x = 0 ∧ y = 0 ∧ z = 0 := by
  simp only [firstE] at h
  split at h
  · split at h
    · split at h
      · exact ⟨by assumption, by assumption, by assumption⟩
      · contradiction
    · contradiction
  · contradiction
theorem firstE2 {x y : Int} (h : firstE [x, y] = 0) : x = 0 ∧ y = 0 := by
  simp only [firstE] at h
  split at h
  · split at h
    · exact ⟨by assumption, by assumption⟩
    · contradiction
  · contradiction
theorem endsE_zero {s : NS} {a b : Nm} (h : endsE s a b = 0) : namedB a = true ∧ namedB b = true ∧ a ≠ b ∧ a ∈ s.nodes ∧ b ∈ s.nodes ∧ fenB s a = false ∧ fenB s b = false := by
  obtain ⟨h1, h2, h3⟩ := firstE3 h
  unfold twoE at h1; unfold bothE at h2; unfold fenE at h3
  split at h1
  case isFalse => omega
  split at h2
  case isFalse => omega
  split at h3
  case isTrue => omega
  rename_i k1 k2 k3
  rw [Bool.not_eq_true, Bool.or_eq_false_iff] at k3
  exact ⟨k1.1, k1.2.1, k1.2.2, k2.1, k2.2, k3.1, k3.2⟩
theorem amtE_zero {n : Int} (h : amtE n = 0) : 1 ≤ n ∧ n ≤ 65536 := by
  unfold amtE at h
  split at h
  · assumption
  · omega
/-- The paths that are chosen, as places. -/
def pathsG (s : NS) (bits : Int) (a b : Nm) (k : Nat) : List (List Nat) := chooseG (graphG s bits) (ixN s a) (ixN s b) k
theorem ChP.of {s : NS} {bits : Int} {a b : Nm} {k : Nat} {w : World} {e : Ending} {w' : World} (hk : 1 ≤ k) (h : ChP (namesG s) (graphG s bits) (ixN s a) (ixN s b) k w e w') :
    (∃ v, e = .returned v ∧ (pathsG s bits a b k = [] → v = .slice none 0 0) ∧ (pathsG s bits a b k ≠ [] → OutAt w' w.heap.size (namesG s) v (pathsG s bits a b k))) ∧ Below w.heap.size w w' := by
  obtain ⟨⟨v, rfl, h1⟩, h2⟩ := h
  refine ⟨⟨v, rfl, ?_⟩, h2⟩
  unfold pathsG chooseG
  split at h1
  · rename_i hc
    rw [if_pos hc]
    exact ⟨fun _ => h1, fun h => absurd rfl h⟩
  · rename_i hc
    rw [if_neg hc]
    exact ⟨h1.2, fun _ => h1.1⟩
theorem choose_names {w : World} {G : Nat} {s : NS} {bits : Int} (h : GX w w.heap.size G (namesG s) (graphG s bits)) (hok : NSOK s) (a b : Nm) (ha : a ∈ s.nodes) (hb : b ∈ s.nodes) (hab : a ≠ b) (k : Nat) (hk1 : 1 ≤ k) (hk : k ≤ 1000) :
    Calls Try.prog 24 #[.pointer (some ⟨G, 0, none⟩), encS a, encS b, .int .i64 (k : Int)] w fun e w' => (∃ v, e = .returned v ∧ (pathsG s bits a b k = [] → v = .slice none 0 0) ∧ (pathsG s bits a b k ≠ [] → OutAt w' w.heap.size (namesG s) v (pathsG s bits a b k))) ∧ Below w.heap.size w w' :=
  (choose_any h (namesG_lt hok.nod) (ixN s a) (ixN s b) k a b (ixN_get ha) (ixN_get hb) (ixN_ne ha hb hab) hk1 hk).mono fun e w' h => ChP.of hk1 h
/-- A list of paths in memory. -/
theorem OutAt.slice {w : World} {n₀ : Nat} {ns : List Nm} {v : Value} {acc : List (List Nat)} (h : OutAt w n₀ ns v acc) (h0 : acc ≠ []) : ∃ g cap cur, v = .slice (some ⟨g, 0, none⟩) acc.length cap ∧ acc.length ≤ cap ∧ n₀ ≤ g ∧ Bk w g cur 31 ∧ ∀ (i : Nat) (p : List Nat), acc[i]? = some p → ∃ u, cur[i]? = some u ∧ RowAt w ns u p := by
  obtain ⟨vals, h1, h2⟩ := h
  rcases h1.2 with ⟨_, h3⟩ | ⟨g, cap, cur, hv, hg1, hh, hcap, _, _, htk⟩
  · exact absurd (List.length_eq_zero_iff.1 h3) h0
  · refine ⟨g, cap, cur, hv, hcap, hg1, hh, fun i p hp => ?_⟩
    obtain ⟨u, q1, q2⟩ := h2 i p hp
    have hi := (List.getElem?_eq_some_iff.1 hp).1
    rw [← htk, List.getElem?_take, if_pos (by omega), Array.getElem?_toList] at q1
    exact ⟨u, q1, q2⟩
theorem eql_nil_rows (w : World) : (binOp BinOp.eql 36 (.slice none 0 0) (.slice none 0 0)).run Try.prog w = .ok (.bool true) w := by kernel_rfl
theorem eql_some_rows (g n c : Nat) (w : World) : (binOp BinOp.eql 36 (.slice (some ⟨g, 0, none⟩) n c) (.slice none 0 0)).run Try.prog w = .ok (.bool false) w := by kernel_rfl
def routeE (s : NS) (a b : Nm) (bits : Int) : Int := firstE [endsE s a b, amtE bits]
/-- What Route hands back. -/
def RouteP (s : NS) (a b : Nm) (bits : Int) (w : World) (e : Ending) (w' : World) : Prop :=
  (∃ v z, e = .returned (.tuple #[v, .int .i64 z]) ∧ ((routeE s a b bits ≠ 0 ∧ z = routeE s a b bits ∧ v = .slice none 0 0) ∨ (routeE s a b bits = 0 ∧ pathsG s bits a b 1 = [] ∧ z = 21 ∧ v = .slice none 0 0) ∨ (routeE s a b bits = 0 ∧ ∃ p l, pathsG s bits a b 1 = p :: l ∧ z = 0 ∧ RowAt w' (namesG s) v p))) ∧ Below w.heap.size w w'
set_option maxRecDepth 100000 in
set_option maxHeartbeats 4000000 in
theorem Route_any {w : World} {N : Nat} {s : NS} {bn bl : Nat} {vh vs : Value} (h : NetAt w N s bn bl vh vs) (a b : Nm) (bits : Int) (ha : a.length ≤ maxLen) (hb : b.length ≤ maxLen) :
    Calls Try.prog 13 #[.pointer (some ⟨N, 0, none⟩), encS a, encS b, .int .i64 bits] w (RouteP s a b bits w) := by
  have HE := Lib.hid (ends_any h a b ha hb)
  have HM := Lib.hid (fun W => amount_any bits W)
  have HA : Hid (∀ (W : World) (f1 f2 : Value) (g : Nat), Below w.heap.size w W → CondOK W f1 (endsE s a b) → CondOK W f2 (amtE bits) → W.heap.size = g →
      Calls Try.prog 17 #[.pointer (some ⟨N, 0, none⟩), .slice (some ⟨g, 0, none⟩) 2 2] (W.alloc (.cells #[f1, f2] 55)) (AnsN (routeE s a b bits) (W.alloc (.cells #[f1, f2] 55)))) := Lib.hid fun W f1 f2 g hW q1 q2 hg => by
    refine ask_made (h.far hW) [(f1, endsE s a b), (f2, amtE bits)] _ rfl 2 rfl (by omega) ?_ g hg
    intro y hy
    simp only [List.mem_cons, List.not_mem_nil, or_false] at hy
    rcases hy with rfl | rfl
    · exact q1
    · exact q2
  have H := Lib.hid h
  have HZ : Hid (routeE s a b bits = 0 → endsE s a b = 0 ∧ amtE bits = 0) := Lib.hid firstE2
  generalize hz : routeE s a b bits = zv at *
  have HZV := Lib.hid hz
  clear h hz
  go_enter Try.func13, Try.ntmps13
  go_wp2_with fail
  refine HE.out.mono ?_
  rintro e w3 ⟨f3, rfl, k3, b3⟩
  obtain ⟨fn3, cap3, rfl, _⟩ := id k3
  go_wp2_with fail
  refine (HM.out _).mono ?_
  rintro e w4 ⟨f4, rfl, k4, b4⟩
  obtain ⟨fn4, cap4, rfl, _⟩ := id k4
  go_wp2_with fail
  refine (HA.out w4 _ _ _ (bnextK b3 b4) (k3.far b4) k4 rfl).mono ?_
  rintro e w5 ⟨rfl, b5⟩
  have HB5 : Hid (Below w.heap.size w w5) := Lib.hid (bnextK (bnextK (bnextK b3 b4) (below_alloc _ _)) b5)
  clear b3 b4 b5 k3 k4 HA HM HE
  by_cases h0 : zv = 0
  · obtain ⟨e1, e2⟩ := HZ.out h0
    obtain ⟨_, _, hab, hma, hmb, _, _⟩ := endsE_zero e1
    have hN5 := H.out.far HB5.out
    have HG := Lib.hid (graph_any hN5 bits (by have := List.length_pos_of_mem hma; omega))
    have HOK := Lib.hid H.out.ok
    subst h0
    clear hN5 e1 e2
    go_wp2_with fail
    refine HG.out.mono ?_
    clear HG
    rintro e w6 ⟨G, rfl, hgx, hb6⟩
    have HC := Lib.hid (choose_names hgx HOK.out a b hma hmb hab 1 (by omega) (by omega))
    have HB6 := Lib.hid (bnextK HB5.out hb6)
    clear hgx hb6
    go_wp2_with fail
    refine HC.out.mono ?_
    clear HC
    rintro e w7 ⟨⟨v, rfl, h1, h2⟩, hb7⟩
    have HB7 := Lib.hid (bnextK HB6.out hb7)
    by_cases hp : pathsG s bits a b 1 = []
    · obtain rfl := h1 hp
      have hq := eql_nil_rows
      clear h1 h2 hb7
      go_wp2_with fail
      refine bodyPost_ret (a := Act.mk _ _) (results_tmp2 rfl _ _ _) rfl ?_
      exact ⟨⟨_, _, rfl, .inr (.inl ⟨HZV.out, hp, rfl, rfl⟩)⟩, HB7.out⟩
    · obtain ⟨g, cap, cur, rfl, hcap, _, hbk, hrows⟩ := (h2 hp).slice hp
      obtain ⟨p, l, hpl⟩ : ∃ p l, pathsG s bits a b 1 = p :: l := by
        cases hq : pathsG s bits a b 1 with
        | nil => exact absurd hq hp
        | cons p l => exact ⟨p, l, rfl⟩
      obtain ⟨u, hu, hrow⟩ := hrows 0 p (by rw [hpl]; rfl)
      have cu := hbk.cell 0
      have hq := eql_some_rows g
      rw [hu] at cu
      obtain ⟨h8, c8, cs8, rfl, _⟩ := id hrow
      have HROW := Lib.hid hrow; have HPL := Lib.hid hpl
      rw [hpl] at hcap ⊢
      have hpos : 0 < (p :: l).length := by simp
      generalize (p :: l).length = ln at *
      have hpos' : (0 : Int) < (ln : Int) := by omega
      clear h1 h2 hb7 hbk hrows hrow hpl hu
      go_wp2_with fail
      refine bodyPost_ret (a := Act.mk _ _) (results_tmp2 rfl _ _ _) rfl ?_
      exact ⟨⟨_, _, rfl, .inr (.inr ⟨HZV.out, p, l, HPL.out, rfl, HROW.out⟩)⟩, HB7.out⟩
  · have hb0 : (zv != 0) = true := by simp [h0]
    go_wp2_with fail
    refine bodyPost_ret (a := Act.mk _ _) (results_tmp2 rfl _ _ _) rfl ?_
    exact ⟨⟨_, _, rfl, .inl ⟨by rw [HZV.out]; exact h0, HZV.out.symm, rfl⟩⟩, HB5.out⟩
#print axioms Route_any
end Go.Proofs.Ytkmacmeeinpncaa
/- The contract of Most. Conditions: as each statement says. -/
namespace Go.Proofs.Ytkmacmeeinpncaa
open Go.RowKit
set_option linter.unusedVariables false
def mostG (s : NS) (bits : Int) (a b : Nm) (k : Nat) : Nat := countG (graphG s bits) (ixN s a) (ixN s b) k
theorem flow_names {w : World} {G : Nat} {s : NS} {bits : Int} (h : GX w w.heap.size G (namesG s) (graphG s bits)) (hok : NSOK s) (a b : Nm) (ha : a ∈ s.nodes) (hb : b ∈ s.nodes) (hab : a ≠ b) (k : Nat) (hk : k ≤ 1000) :
    Calls Try.prog 21 #[.pointer (some ⟨G, 0, none⟩), encS a, encS b, .int .i64 (k : Int)] w fun e w' => (∃ z : Int, z = mostG s bits a b k ∧ e = .returned (.int .i64 z)) ∧ Below w.heap.size w w' :=
  flow_any (h.at' (Nat.le_refl _)) (namesG_lt hok.nod) (ixN s a) (ixN s b) k a b (ixN_get ha) (ixN_get hb) (ixN_ne ha hb hab) hk
/-- What Most hands back. -/
def MostP (s : NS) (a b : Nm) (bits : Int) (w : World) (e : Ending) (w' : World) : Prop :=
  (∃ m z : Int, e = .returned (.tuple #[.int .i64 m, .int .i64 z]) ∧ z = routeE s a b bits ∧ m = if routeE s a b bits = 0 then (mostG s bits a b 16 : Int) else 0) ∧ Below w.heap.size w w'
set_option maxRecDepth 100000 in
set_option maxHeartbeats 4000000 in
theorem Most_any {w : World} {N : Nat} {s : NS} {bn bl : Nat} {vh vs : Value} (h : NetAt w N s bn bl vh vs) (a b : Nm) (bits : Int) (ha : a.length ≤ maxLen) (hb : b.length ≤ maxLen) :
    Calls Try.prog 6 #[.pointer (some ⟨N, 0, none⟩), encS a, encS b, .int .i64 bits] w (MostP s a b bits w) := by
  have HE := Lib.hid (ends_any h a b ha hb)
  have HM := Lib.hid (fun W => amount_any bits W)
  have HA : Hid (∀ (W : World) (f1 f2 : Value) (g : Nat), Below w.heap.size w W → CondOK W f1 (endsE s a b) → CondOK W f2 (amtE bits) → W.heap.size = g →
      Calls Try.prog 17 #[.pointer (some ⟨N, 0, none⟩), .slice (some ⟨g, 0, none⟩) 2 2] (W.alloc (.cells #[f1, f2] 55)) (AnsN (routeE s a b bits) (W.alloc (.cells #[f1, f2] 55)))) := Lib.hid fun W f1 f2 g hW q1 q2 hg => by
    refine ask_made (h.far hW) [(f1, endsE s a b), (f2, amtE bits)] _ rfl 2 rfl (by omega) ?_ g hg
    intro y hy
    simp only [List.mem_cons, List.not_mem_nil, or_false] at hy
    rcases hy with rfl | rfl
    · exact q1
    · exact q2
  have H := Lib.hid h
  have HZ : Hid (routeE s a b bits = 0 → endsE s a b = 0 ∧ amtE bits = 0) := Lib.hid firstE2
  generalize hz : routeE s a b bits = zv at *
  have HZV := Lib.hid hz
  clear h hz
  go_enter Try.func6, Try.ntmps6
  go_wp2_with fail
  refine HE.out.mono ?_
  rintro e w3 ⟨f3, rfl, k3, b3⟩
  obtain ⟨fn3, cap3, rfl, _⟩ := id k3
  go_wp2_with fail
  refine (HM.out _).mono ?_
  rintro e w4 ⟨f4, rfl, k4, b4⟩
  obtain ⟨fn4, cap4, rfl, _⟩ := id k4
  go_wp2_with fail
  refine (HA.out w4 _ _ _ (bnextK b3 b4) (k3.far b4) k4 rfl).mono ?_
  rintro e w5 ⟨rfl, b5⟩
  have HB5 : Hid (Below w.heap.size w w5) := Lib.hid (bnextK (bnextK (bnextK b3 b4) (below_alloc _ _)) b5)
  clear b3 b4 b5 k3 k4 HA HM HE
  by_cases h0 : zv = 0
  · obtain ⟨e1, e2⟩ := HZ.out h0
    obtain ⟨_, _, hab, hma, hmb, _, _⟩ := endsE_zero e1
    have hN5 := H.out.far HB5.out
    have HG := Lib.hid (graph_any hN5 bits (by have := List.length_pos_of_mem hma; omega))
    have HOK := Lib.hid H.out.ok
    subst h0
    clear hN5 e1 e2
    go_wp2_with fail
    refine HG.out.mono ?_
    clear HG
    rintro e w6 ⟨G, rfl, hgx, hb6⟩
    have HC := Lib.hid (flow_names hgx HOK.out a b hma hmb hab 16 (by omega))
    have HB6 := Lib.hid (bnextK HB5.out hb6)
    clear hgx hb6
    go_wp2_with fail
    refine HC.out.mono ?_
    clear HC
    rintro e w7 ⟨⟨z, hz, rfl⟩, hb7⟩
    have HZ7 := Lib.hid hz
    have HB7 := Lib.hid (bnextK HB6.out hb7)
    clear hz hb7
    go_wp2_with fail
    refine bodyPost_ret (a := Act.mk _ _) (results_tmp2 rfl _ _ _) rfl ?_
    exact ⟨⟨_, _, rfl, HZV.out.symm, by rw [HZV.out, if_pos rfl]; exact HZ7.out⟩, HB7.out⟩
  · have hb0 : (zv != 0) = true := by simp [h0]
    go_wp2_with fail
    refine bodyPost_ret (a := Act.mk _ _) (results_tmp2 rfl _ _ _) rfl ?_
    exact ⟨⟨_, _, rfl, HZV.out.symm, by rw [HZV.out, if_neg h0]⟩, HB5.out⟩
#print axioms Most_any
end Go.Proofs.Ytkmacmeeinpncaa
/- The chapter's example, plainly. Conditions: none. -/
namespace Go.Proofs.Ytkmacmeeinpncaa
set_option linter.unusedVariables false
def nA : Nm := [97]
def nB : Nm := [98]
def nC : Nm := [99]
def nD : Nm := [100]
def ns0 : NS := ⟨[], fun _ => false, [], fun _ => lk0, 0, 0, [], []⟩
def exN : Nat → NS
  | 0 => ns0
  | 1 => addNode ns0 nA
  | 2 => addNode (addNode ns0 nA) nB
  | 3 => addNode (addNode (addNode ns0 nA) nB) nC
  | _ => addNode (addNode (addNode (addNode ns0 nA) nB) nC) nD
def exL1 : NS := addLink (exN 4) nA nB 100 100 0 0
def exL2 : NS := addLink exL1 nB nD 100 100 0 0
def exL3 : NS := addLink exL2 nA nC 100 100 0 0
def exL4 : NS := addLink exL3 nC nD 100 100 0 0
def exS : NS := addLink exL4 nA nD 20 20 0 0
def nms4 : List Nm := [nA, nB, nC, nD]
theorem exN_step (k : Nat) (hk : k < 4) : nodeE (exN k) (nms4.getD k []) = 0 ∧ addNode (exN k) (nms4.getD k []) = exN (k + 1) := by
  match k, hk with
  | 0, _ => exact ⟨by decide, rfl⟩
  | 1, _ => exact ⟨by decide, rfl⟩
  | 2, _ => exact ⟨by decide, rfl⟩
  | 3, _ => exact ⟨by decide, rfl⟩
theorem exL1_ok : linkE (exN 4) nA nB 100 100 0 0 = 0 := by decide
theorem exL2_ok : linkE exL1 nB nD 100 100 0 0 = 0 := by decide
theorem exL3_ok : linkE exL2 nA nC 100 100 0 0 = 0 := by decide
theorem exL4_ok : linkE exL3 nC nD 100 100 0 0 = 0 := by decide
theorem exS_ok : linkE exL4 nA nD 20 20 0 0 = 0 := by decide
theorem namesG_eq {s : NS} {l : List Nm} (hp : l.Perm s.nodes) (hl : l.Pairwise (· < ·)) (hn : s.nodes.Nodup) : namesG s = l := by
  refine List.Perm.eq_of_pairwise (le := fun a b => a < b) (fun a b _ _ h1 h2 => ?_) (namesG_lt hn) hl ((namesG_perm s).trans hp.symm)
  exact absurd h2 (List.lt_asymm h1)
theorem names_ex : namesG exS = nms4 := namesG_eq (l := nms4) (by show nms4.Perm nms4; exact List.Perm.refl _) (by decide) (by decide)
theorem row_ex (bits : Int) (x y : Nm) (i : Bool) (f : Int) (h1 : (decide (pairOf x y ∈ exS.pairs) && decide (x ≠ y) && !fenB exS x && !fenB exS y) = i) (h2 : (exS.lk (pairOf x y)).free = f) : rowE exS bits x y = (i && decide (bits ≤ f)) := by
  unfold rowE
  rw [h1, h2]
theorem graph_ex (bits : Int) (h0 : 0 ≤ bits) : graphG exS bits = exG bits.toNat := by
  have hb : ∀ c : Nat, decide (bits ≤ (c : Int)) = decide (bits.toNat ≤ c) := fun c => by
    by_cases h : bits ≤ (c : Int)
    · rw [decide_eq_true h, decide_eq_true (by omega)]
    · rw [decide_eq_false h, decide_eq_false (by omega)]
  have e100 := hb 100; have e20 := hb 20
  unfold graphG rowG
  rw [names_ex]
  simp only [nms4, List.map_cons, List.map_nil]
  rw [row_ex bits nA nA false 0 (by decide) (by decide), row_ex bits nA nB true 100 (by decide) (by decide), row_ex bits nA nC true 100 (by decide) (by decide), row_ex bits nA nD true 20 (by decide) (by decide),
    row_ex bits nB nA true 100 (by decide) (by decide), row_ex bits nB nB false 0 (by decide) (by decide), row_ex bits nB nC false 0 (by decide) (by decide), row_ex bits nB nD true 100 (by decide) (by decide),
    row_ex bits nC nA true 100 (by decide) (by decide), row_ex bits nC nB false 0 (by decide) (by decide), row_ex bits nC nC false 0 (by decide) (by decide), row_ex bits nC nD true 100 (by decide) (by decide),
    row_ex bits nD nA true 20 (by decide) (by decide), row_ex bits nD nB true 100 (by decide) (by decide), row_ex bits nD nC true 100 (by decide) (by decide), row_ex bits nD nD false 0 (by decide) (by decide)]
  simp only [Bool.true_and, Bool.false_and]
  unfold exG exAdj
  rw [show decide (bits ≤ 100) = decide (bits.toNat ≤ 100) from e100, show decide (bits ≤ 20) = decide (bits.toNat ≤ 20) from e20]
  rfl
theorem ixA : ixN exS nA = 0 := by unfold ixN; rw [names_ex]; decide
theorem ixD : ixN exS nD = 3 := by unfold ixN; rw [names_ex]; decide
theorem ex_paths : pathsG exS 50 nA nD 1 = [[0, 1, 3]] := by unfold pathsG; rw [graph_ex 50 (by decide), ixA, ixD]; exact ex_route
theorem ex_mostG : mostG exS 10 nA nD 16 = 3 := by unfold mostG; rw [graph_ex 10 (by decide), ixA, ixD]; exact ex_most
theorem ex_routeE : routeE exS nA nD 50 = 0 := by decide
theorem ex_routeE10 : routeE exS nA nD 10 = 0 := by decide
#print axioms ex_mostG
end Go.Proofs.Ytkmacmeeinpncaa
/- The small networks, plainly. No program is in sight. -/
namespace Go.Proofs.Ytkmacmeeinpncaa
set_option linter.unusedVariables false
def names8 : List Nm := [[97], [98], [99], [100], [101], [102], [103], [104]]
def nm (i : Nat) : Nm := names8.getD i []
/-- The network behind the first k nodes. -/
def smN : Nat → NS
  | 0 => ns0
  | k + 1 => addNode (smN k) (nm k)
theorem smN_nodes : ∀ k, k ≤ 8 → (smN k).nodes = names8.take k
  | 0, _ => rfl
  | k + 1, h => by
    show (smN k).nodes ++ [nm k] = _
    rw [smN_nodes k (by omega), List.take_succ_eq_append_getElem (by show k < 8; omega)]
    have : nm k = names8[k]'(by show k < 8; omega) := by unfold nm; rw [List.getD_eq_getElem?_getD, List.getElem?_eq_getElem (by show k < 8; omega)]; rfl
    rw [this]
theorem nm_named (k : Nat) (h : k < 8) : namedB (nm k) = true := by
  match k, h with
  | 0, _ => decide
  | 1, _ => decide
  | 2, _ => decide
  | 3, _ => decide
  | 4, _ => decide
  | 5, _ => decide
  | 6, _ => decide
  | 7, _ => decide
theorem smN_step (k : Nat) (h : k < 8) : nodeE (smN k) (nm k) = 0 := by
  have hn := smN_nodes k (by omega)
  unfold nodeE nmE node1E
  rw [if_pos (nm_named k h), hn]
  have h1 : nm k ∉ names8.take k := by
    match k, h with
    | 0, _ => decide
    | 1, _ => decide
    | 2, _ => decide
    | 3, _ => decide
    | 4, _ => decide
    | 5, _ => decide
    | 6, _ => decide
    | 7, _ => decide
  have h2 : ¬ (names8.take k).length = 16 := by rw [List.length_take]; have : names8.length = 8 := rfl; omega
  rw [if_neg h1, if_neg h2]
  rfl
theorem nm_lt {a b : Nat} (ha : a < 8) (hb : b < 8) : nm a < nm b ↔ a < b := by
  have key : ∀ a, a < 8 → ∀ b, b < 8 → (nm a < nm b ↔ a < b) := by decide
  exact key a ha b hb
theorem nm_inj {a b : Nat} (ha : a < 8) (hb : b < 8) (h : nm a = nm b) : a = b := by
  have key : ∀ a, a < 8 → ∀ b, b < 8 → nm a = nm b → a = b := by decide
  exact key a ha b hb h
theorem nm_mem {a : Nat} (ha : a < 8) : nm a ∈ names8 := by
  have key : ∀ a, a < 8 → nm a ∈ names8 := by decide
  exact key a ha
theorem mem_nm {x : Nm} (h : x ∈ names8) : ∃ a, a < 8 ∧ x = nm a := by
  obtain ⟨a, ha, e⟩ := List.getElem_of_mem h
  exact ⟨a, ha, by rw [← e]; unfold nm; rw [List.getD_eq_getElem?_getD, List.getElem?_eq_getElem ha]; rfl⟩
/-- The pair of two places. -/
def pr8 (a b : Nat) : Nm × Nm := pairOf (nm a) (nm b)
theorem pr8_comm (a b : Nat) (ha : a < 8) (hb : b < 8) : pr8 a b = pr8 b a := by
  unfold pr8 pairOf
  by_cases h : a = b
  · subst h; rfl
  · by_cases h1 : a < b
    · rw [if_pos ((nm_lt ha hb).2 h1), if_neg (fun h2 => by have := (nm_lt hb ha).1 h2; omega)]
    · rw [if_neg (fun h2 => h1 ((nm_lt ha hb).1 h2)), if_pos ((nm_lt hb ha).2 (by omega))]
theorem pr8_inj {a b c d : Nat} (ha : a < 8) (hb : b < 8) (hc : c < 8) (hd : d < 8) (h : pr8 a b = pr8 c d) : (a = c ∧ b = d) ∨ (a = d ∧ b = c) := by
  unfold pr8 pairOf at h
  split at h <;> split at h <;> (injection h with h1 h2)
  · exact .inl ⟨nm_inj ha hc h1, nm_inj hb hd h2⟩
  · exact .inr ⟨nm_inj ha hd h1, nm_inj hb hc h2⟩
  · exact .inr ⟨nm_inj ha hd h2, nm_inj hb hc h1⟩
  · exact .inl ⟨nm_inj ha hc h2, nm_inj hb hd h1⟩
def stG (st : List Int) (a b : Nat) : Int := st.getD (a * 8 + b) 0
/-- What holds of a small network and its table of bits. -/
structure SmI (s : NS) (st : List Int) : Prop where
  nodes : s.nodes = names8
  fen : ∀ x, s.fen x = false
  len : st.length = 64
  sl : ∀ a b, a < 8 → b < 8 → a ≠ b → stG st a b = if pr8 a b ∈ s.pairs then (s.lk (pr8 a b)).free else 0
  diag : ∀ a, a < 8 → stG st a a = 0
  pos : ∀ p ∈ s.pairs, 1 ≤ (s.lk p).free ∧ (s.lk p).free ≤ 256
  prs : ∀ p ∈ s.pairs, ∃ a b, a < b ∧ b < 8 ∧ p = pr8 a b
  pod : s.pairs.Nodup
  now : s.now = 0
  last : s.last = 0
  holds : s.holds = []
  sents : s.sents = []
  lks : ∀ p ∈ s.pairs, s.lk p = ⟨(s.lk p).free, (s.lk p).free, 0, 0, (s.lk p).free, 0, 0⟩
def allPr : List (Nm × Nm) := (List.range 8).flatMap fun b => (List.range b).map fun a => pr8 a b
theorem allPr_len : allPr.length = 28 := by decide
theorem SmI.len28 {s : NS} {st : List Int} (h : SmI s st) : s.pairs.length ≤ 28 := by
  have := nodup_sub_len (l := s.pairs) (m := allPr) h.pod (fun p hp => by
    obtain ⟨a, b, h1, h2, rfl⟩ := h.prs p hp
    unfold allPr
    rw [List.mem_flatMap]
    exact ⟨b, List.mem_range.2 h2, List.mem_map.2 ⟨a, List.mem_range.2 h1, rfl⟩⟩)
  rwa [allPr_len] at this
theorem smN_pairs : ∀ k, (smN k).pairs = [] ∧ (∀ x, (smN k).fen x = false) ∧ (smN k).now = 0 ∧ (smN k).last = 0 ∧ (smN k).holds = [] ∧ (smN k).sents = []
  | 0 => ⟨rfl, fun _ => rfl, rfl, rfl, rfl, rfl⟩
  | k + 1 => by
    obtain ⟨h1, h2, h3, h4, h5, h6⟩ := smN_pairs k
    refine ⟨h1, fun x => ?_, h3, h4, h5, h6⟩
    show (if x = nm k then false else (smN k).fen x) = false
    split
    · rfl
    · exact h2 x
theorem SmI.start : SmI (smN 8) (List.replicate 64 0) := by
  obtain ⟨h1, h2, h3, h4, h5, h6⟩ := smN_pairs 8
  have hz : ∀ a b, stG (List.replicate 64 0) a b = 0 := fun a b => by
    unfold stG
    rw [List.getD_eq_getElem?_getD, List.getElem?_replicate]
    split <;> rfl
  refine ⟨by rw [smN_nodes 8 (by omega)]; rfl, h2, List.length_replicate, fun a b _ _ _ => ?_, fun a _ => hz a a, ?_, ?_, by rw [h1]; exact List.nodup_nil, h3, h4, h5, h6, ?_⟩
  · rw [hz, h1, if_neg (by simp)]
  · rw [h1]; intro p hp; cases hp
  · rw [h1]; intro p hp; cases hp
  · rw [h1]; intro p hp; cases hp
def smL (s : NS) (a b : Nat) (v : Int) : NS := addLink s (nm a) (nm b) v v 0 0
def smT (st : List Int) (a b : Nat) (v : Int) : List Int := (st.set (a * 8 + b) v).set (b * 8 + a) v
theorem stG_set (st : List Int) (a b c d : Nat) (v : Int) (hl : st.length = 64) (ha : a < 8) (hb : b < 8) (hc : c < 8) (hd : d < 8) : stG (smT st a b v) c d = if (c = a ∧ d = b) ∨ (c = b ∧ d = a) then v else stG st c d := by
  unfold stG smT
  simp only [List.getD_eq_getElem?_getD, List.getElem?_set, List.length_set, hl]
  by_cases h1 : b * 8 + a = c * 8 + d
  · rw [if_pos h1, if_pos (by omega), if_pos (by omega)]; rfl
  · rw [if_neg h1]
    by_cases h2 : a * 8 + b = c * 8 + d
    · rw [if_pos h2, if_pos (by omega), if_pos (by omega)]; rfl
    · rw [if_neg h2, if_neg (by omega)]
theorem SmI.linkE {s : NS} {st : List Int} (h : SmI s st) {a b : Nat} (ha : a < 8) (hb : b < 8) (hab : a ≠ b) (h0 : stG st a b = 0) (v : Int) (hv : 1 ≤ v ∧ v ≤ 256) : linkE s (nm a) (nm b) v v 0 0 = 0 ∧ pr8 a b ∉ s.pairs := by
  have hnot : pr8 a b ∉ s.pairs := fun hm => by
    have := h.sl a b ha hb hab
    rw [if_pos hm, h0] at this
    have := (h.pos _ hm).1
    omega
  refine ⟨?_, hnot⟩
  have h28 := h.len28
  unfold Go.Proofs.Ytkmacmeeinpncaa.linkE twoE possE bothE link1E
  rw [if_pos ⟨nm_named a ha, nm_named b hb, fun e => hab (nm_inj ha hb e)⟩, if_pos (by unfold possL; rw [decide_eq_true_eq]; omega), if_pos (by rw [h.nodes]; exact ⟨nm_mem ha, nm_mem hb⟩), if_neg (show ¬ pairOf (nm a) (nm b) ∈ s.pairs from hnot), if_neg (by omega)]
  rfl
theorem SmI.step {s : NS} {st : List Int} (h : SmI s st) {a b : Nat} (ha : a < 8) (hb : b < 8) (hab : a ≠ b) (h0 : stG st a b = 0) (v : Int) (hv : 1 ≤ v ∧ v ≤ 256) : SmI (smL s a b v) (smT st a b v) := by
  obtain ⟨_, hnot⟩ := h.linkE ha hb hab h0 v hv
  have hlk : ∀ p, (smL s a b v).lk p = if p = pr8 a b then ⟨v, v, 0, 0, v, 0, 0⟩ else s.lk p := fun p => rfl
  have hpr : (smL s a b v).pairs = s.pairs ++ [pr8 a b] := rfl
  have hmem : ∀ p, p ∈ (smL s a b v).pairs ↔ p ∈ s.pairs ∨ p = pr8 a b := fun p => by rw [hpr, List.mem_append, List.mem_singleton]
  have hold : ∀ p, p ∈ s.pairs → (smL s a b v).lk p = s.lk p := fun p hp => by rw [hlk, if_neg (fun e : p = pr8 a b => hnot (by rw [← e]; exact hp))]
  have hnew : (smL s a b v).lk (pr8 a b) = ⟨v, v, 0, 0, v, 0, 0⟩ := by rw [hlk, if_pos rfl]
  refine ⟨h.nodes, h.fen, by unfold smT; simp [h.len], fun c d hc hd hcd => ?_, fun c hc => ?_, fun p hp => ?_, fun p hp => ?_, ?_, h.now, h.last, h.holds, h.sents, fun p hp => ?_⟩
  · rw [stG_set st a b c d v h.len ha hb hc hd]
    by_cases e : (c = a ∧ d = b) ∨ (c = b ∧ d = a)
    · have e2 : pr8 c d = pr8 a b := by
        rcases e with ⟨rfl, rfl⟩ | ⟨rfl, rfl⟩
        · rfl
        · exact pr8_comm _ _ hc hd
      rw [if_pos e, e2, if_pos ((hmem _).2 (.inr rfl)), hnew]
    · rw [if_neg e, h.sl c d hc hd hcd]
      have hne : pr8 c d ≠ pr8 a b := fun e2 => e (pr8_inj hc hd ha hb e2)
      by_cases hm : pr8 c d ∈ s.pairs
      · rw [if_pos hm, if_pos ((hmem _).2 (.inl hm)), hold _ hm]
      · rw [if_neg hm, if_neg (fun h2 => ((hmem _).1 h2).elim hm hne)]
  · rw [stG_set st a b c c v h.len ha hb hc hc, if_neg (by omega)]
    exact h.diag c hc
  · rcases (hmem p).1 hp with hp | rfl
    · rw [hold p hp]; exact h.pos p hp
    · rw [hnew]; exact hv
  · rcases (hmem p).1 hp with hp | rfl
    · exact h.prs p hp
    · rcases Nat.lt_or_gt_of_ne hab with h1 | h1
      · exact ⟨a, b, h1, hb, rfl⟩
      · exact ⟨b, a, h1, ha, pr8_comm _ _ ha hb⟩
  · rw [hpr, List.nodup_append]
    exact ⟨h.pod, by simp, fun x hx y hy e => by rw [List.mem_singleton] at hy; subst hy; subst e; exact hnot hx⟩
  · rcases (hmem p).1 hp with hp | rfl
    · rw [hold p hp]; exact h.lks p hp
    · rw [hnew]
/-- A link by numbers. -/
structure PrN where
  a : Nat
  b : Nat
  bits : Nat
def smallStep (x : NS × List Int) (p : PrN) : NS × List Int := if p.a % 8 = p.b % 8 ∨ 0 < stG x.2 (p.a % 8) (p.b % 8) then x else (smL x.1 (p.a % 8) (p.b % 8) (1 + (p.bits : Int)), smT x.2 (p.a % 8) (p.b % 8) (1 + (p.bits : Int)))
/-- The network of a list of links, and its table. -/
def smallG (l : List PrN) : NS × List Int := (l.take 60).foldl smallStep (smN 8, List.replicate 64 0)
theorem SmI.nonneg {s : NS} {st : List Int} (h : SmI s st) {a b : Nat} (ha : a < 8) (hb : b < 8) : 0 ≤ stG st a b := by
  by_cases hab : a = b
  · subst hab; rw [h.diag a ha]; omega
  · rw [h.sl a b ha hb hab]
    split
    · rename_i hm; have := (h.pos _ hm).1; omega
    · omega
theorem SmI.small {x : NS × List Int} (h : SmI x.1 x.2) (p : PrN) (hp : p.bits < 256) : SmI (smallStep x p).1 (smallStep x p).2 := by
  unfold smallStep
  split
  · exact h
  · rename_i hn
    rw [not_or] at hn
    have ha : p.a % 8 < 8 := Nat.mod_lt _ (by omega)
    have hb : p.b % 8 < 8 := Nat.mod_lt _ (by omega)
    exact h.step ha hb hn.1 (by have := h.nonneg ha hb; omega) _ (by omega)
theorem fold_small : ∀ (l : List PrN) (x : NS × List Int), SmI x.1 x.2 → (∀ p ∈ l, p.bits < 256) → SmI (l.foldl smallStep x).1 (l.foldl smallStep x).2
  | [], _, h, _ => h
  | p :: l, x, h, hl => fold_small l _ (h.small p (hl p (by simp))) (fun q hq => hl q (by simp [hq]))
theorem smallG_ok (l : List PrN) (hl : ∀ p ∈ l, p.bits < 256) : SmI (smallG l).1 (smallG l).2 := fold_small _ _ SmI.start (fun p hp => hl p (List.mem_of_mem_take hp))
#print axioms smallG_ok
end Go.Proofs.Ytkmacmeeinpncaa
/- The contracts of example and works. Conditions: none. -/
namespace Go.Proofs.Ytkmacmeeinpncaa
open Go.RowKit
set_option linter.unusedVariables false
theorem ns0_ok : NSOK ns0 := ⟨List.nodup_nil, by decide, (by intro x hx; cases hx), List.nodup_nil, by decide, (by intro x hx; cases hx), (by intro x hx; cases hx), by decide⟩
theorem new_at (w : World) : NetAt (newW w) (w.heap.size + 1 + 1) ns0 w.heap.size (w.heap.size + 1) (.slice none 0 0) (.slice none 0 0) := by
  have h2 := Bk.new ((w.alloc (.map #[] 0)).alloc (.map #[] 0)) #[.map (some w.heap.size), .map (some (w.heap.size + 1)), .int .i64 0, .slice none 0 0, .int .i64 0, .slice none 0 0] 69
  rw [World.size_alloc, World.size_alloc] at h2
  have m0 := MapL.made strK w
  have m1 := MapL.made pairK (w.alloc (.map #[] 0))
  rw [World.size_alloc] at m1
  refine ⟨h2, ?_, ?_, ⟨[], World.ownsRow_nil _ _ _ _, by simp [ns0]⟩, ⟨[], World.ownsRow_nil _ _ _ _, by simp [ns0]⟩, ns0_ok, by omega⟩
  · have k : KeepL [] (w.alloc (.map #[] 0)) (newW w) := (KeepL.alloc [] _ _).trans (KeepL.alloc [] _ _)
    exact (m0.keep (k.block _ m0.lt (by simp))).same (fun x _ => by simp [nodesF, ns0])
  · have k : KeepL [] ((w.alloc (.map #[] 0)).alloc (.map #[] 0)) (newW w) := KeepL.alloc [] _ _
    exact (m1.keep (k.block _ m1.lt (by simp))).same (fun x _ => by simp [linksF, ns0])
theorem newW_below (w : World) : Below w.heap.size w (newW w) := alloc3_below w _ _ _
/-- A network whose memory lies behind the world w. -/
def NetNew (w : World) (s : NS) (N bn bl : Nat) (W : World) : Prop := NetAt W N s bn bl (.slice none 0 0) (.slice none 0 0) ∧ Below w.heap.size w W ∧ w.heap.size ≤ bn ∧ w.heap.size ≤ bl
theorem NetNew.far {w : World} {s : NS} {N bn bl : Nat} {W W' : World} (h : NetNew w s N bn bl W) (hb : Below W.heap.size W W') : NetNew w s N bn bl W' := ⟨h.1.far hb, bnextK h.2.1 hb, h.2.2⟩
theorem NetNew.node {w : World} {s : NS} {N bn bl : Nat} {W W' : World} {x : Nm} {e : Ending} (h : NetNew w s N bn bl W) (hp : NodeP N s bn bl (.slice none 0 0) (.slice none 0 0) x W e W') : NetNew w (nodeS s x) N bn bl W' ∧ KeepL [bn] W W' :=
  ⟨⟨hp.2.1, h.2.1.trans (hp.2.2.below h.2.1.size (by simpa using h.2.2.1)), h.2.2⟩, hp.2.2⟩
theorem NetNew.link {w : World} {s : NS} {N bn bl : Nat} {W W' : World} {a b : Nm} {st cp gn ev : Int} {e : Ending} (h : NetNew w s N bn bl W) (hp : LinkP N s bn bl (.slice none 0 0) (.slice none 0 0) a b st cp gn ev W e W') : NetNew w (linkS s a b st cp gn ev) N bn bl W' ∧ KeepL [bl] W W' :=
  ⟨⟨hp.2.1, h.2.1.trans (hp.2.2.below h.2.1.size (by simpa using h.2.2.2)), h.2.2⟩, hp.2.2⟩
def ExmP (w : World) (e : Ending) (w' : World) : Prop := ∃ N bn bl, e = .returned (.pointer (some ⟨N, 0, none⟩)) ∧ NetNew w exS N bn bl w'
theorem lk4 {w : World} {b : Nat} {t : TypeId} {a0 a1 a2 a3 : Value} (h : Bk w b #[a0, a1, a2, a3] t) : w.cell? ⟨b, 0, none⟩ = some a0 ∧ w.cell? ⟨b, 1, none⟩ = some a1 ∧ w.cell? ⟨b, 2, none⟩ = some a2 ∧ w.cell? ⟨b, 3, none⟩ = some a3 :=
  ⟨by rw [h.cell]; rfl, by rw [h.cell]; rfl, by rw [h.cell]; rfl, by rw [h.cell]; rfl⟩
theorem lenN (x : UInt8) : ([x] : Nm).length ≤ maxLen := by unfold maxLen; simp
set_option maxRecDepth 100000 in
set_option maxHeartbeats 4000000 in
theorem example_any (w : World) : Calls Try.prog 22 #[] w (ExmP w) := by
  have hok : ∀ k, k < 4 → nodeS (exN k) (nms4.getD k []) = exN (k + 1) := fun k hk => by
    unfold nodeS
    rw [if_pos (exN_step k hk).1]
    exact (exN_step k hk).2
  have HOK := Lib.hid hok
  clear hok
  go_enter Try.func22, Try.ntmps22
  go_wp2_with fail
  refine (newNet_any _).mono ?_
  rintro e w1 ⟨rfl, rfl⟩
  have HN1 : Hid (NetNew w ns0 (w.heap.size + 1 + 1) w.heap.size (w.heap.size + 1) (newW w)) := Lib.hid ⟨new_at w, newW_below w, Nat.le_refl _, by omega⟩
  obtain ⟨w1, hw1⟩ : ∃ z, z = newW w := ⟨_, rfl⟩
  rw [← hw1] at HN1 ⊢
  clear hw1
  generalize hN : w.heap.size + 1 + 1 = N at HN1 ⊢
  generalize hbn : w.heap.size = bn at HN1
  generalize hbl : bn + 1 = bl at HN1
  clear hN hbn hbl
  go_wp2_with fail
  obtain ⟨w2, hw2⟩ : ∃ z, z = w1.alloc (.cells #[.string ⟨#[97]⟩, .string ⟨#[98]⟩, .string ⟨#[99]⟩, .string ⟨#[100]⟩] 9) := ⟨_, rfl⟩
  have HI : Hid (NetNew w (exN 0) N bn bl w2 ∧ Bk w2 w1.heap.size #[.string ⟨#[97]⟩, .string ⟨#[98]⟩, .string ⟨#[99]⟩, .string ⟨#[100]⟩] 9) := Lib.hid (by
    rw [hw2]; exact ⟨HN1.out.far (below_alloc _ _), Bk.new _ _ _⟩)
  rw [← hw2]
  clear hw2 HN1
  generalize w1.heap.size = hl at HI ⊢
  go_loopw [3] (fun i wr => ∃ k : Nat, k ≤ 4 ∧ i = .int .i64 k ∧ NetNew w (exN k) N bn bl wr ∧ Bk wr hl #[.string ⟨#[97]⟩, .string ⟨#[98]⟩, .string ⟨#[99]⟩, .string ⟨#[100]⟩] 9) (fun i _ => 4 - (intOf i).toNat)
  case atStart => exact ⟨0, by omega, rfl, HI.out⟩
  case round =>
    obtain ⟨k, hk, rfl, hn, hb⟩ := hrel
    obtain ⟨wa, rfl⟩ : ∃ z : World, z = wr := ⟨_, rfl⟩
    have HN := Lib.hid hn; have HB := Lib.hid hb
    have hc := hb.cell k
    clear hn hb HI
    by_cases hlt : k < 4
    · have hki : (k : Int) < 4 := by omega
      have ck : wa.cell? ⟨hl, k, none⟩ = some (encS (nms4.getD k [])) := by
        rw [hc]
        match k, hlt with
        | 0, _ => rfl
        | 1, _ => rfl
        | 2, _ => rfl
        | 3, _ => rfl
      have HP := Lib.hid (Node_any HN.out.1 (nms4.getD k []) (by
        match k, hlt with
        | 0, _ => exact lenN _
        | 1, _ => exact lenN _
        | 2, _ => exact lenN _
        | 3, _ => exact lenN _))
      have HS := Lib.hid (HOK.out k hlt)
      generalize nms4.getD k [] = x at *
      clear hc
      go_wp2_with fail
      refine HP.out.mono ?_
      clear HP
      rintro e w3 hp
      have HQ := Lib.hid (HN.out.node hp)
      rw [HS.out] at HQ
      have HB3 := Lib.hid (HB.out.keepL HQ.out.2 (by simpa using HB.out.nmapL HN.out.1.nodes))
      obtain ⟨z, hz, rfl⟩ := hp.1
      clear hp hz
      go_wp2_with fail
      go_roundw
      case rel => exact ⟨k + 1, by omega, by go_num, HQ.out.1, HB3.out⟩
      case measure => simp [intOf]; omega
    · have hki : ¬ (k : Int) < 4 := by omega
      obtain rfl : k = 4 := by omega
      clear hc HB
      go_wp2_with fail
      obtain ⟨w4, hw4⟩ : ∃ z, z = wa.alloc (.cells #[.int .i64 100, .int .i64 100, .int .i64 0, .int .i64 0] 52) := ⟨_, rfl⟩
      have HI4 : Hid (NetNew w (exN 4) N bn bl w4 ∧ Bk w4 wa.heap.size #[.int .i64 100, .int .i64 100, .int .i64 0, .int .i64 0] 52) := Lib.hid (by
        rw [hw4]; exact ⟨HN.out.far (below_alloc _ _), Bk.new _ _ _⟩)
      rw [← hw4]
      clear hw4 HN
      generalize wa.heap.size = X at HI4 ⊢
      obtain ⟨d0, d1, d2, d3⟩ := lk4 HI4.out.2
      have hlk : linkS (exN 4) nA nB 100 100 0 0 = exL1 := by unfold linkS; rw [if_pos exL1_ok]; rfl
      have HP := Lib.hid (Link_any HI4.out.1.1 nA nB 100 100 0 0 (lenN _) (lenN _))
      refine HP.out.mono ?_
      clear HP d0 d1 d2 d3
      rintro e w5 hp
      have HQ := Lib.hid (HI4.out.1.link hp)
      rw [hlk] at HQ
      have HI5 : Hid (NetNew w (exL1) N bn bl w5 ∧ Bk w5 X #[.int .i64 100, .int .i64 100, .int .i64 0, .int .i64 0] 52) := Lib.hid ⟨HQ.out.1, HI4.out.2.keepL HQ.out.2 (by simpa using HI4.out.2.nmapL HI4.out.1.1.links)⟩
      obtain ⟨z, hz, rfl⟩ := hp.1
      clear hp hz HQ hlk HI4
      obtain ⟨d0, d1, d2, d3⟩ := lk4 HI5.out.2
      have hlk : linkS (exL1) nB nD 100 100 0 0 = exL2 := by unfold linkS; rw [if_pos exL2_ok]; rfl
      have HP := Lib.hid (Link_any HI5.out.1.1 nB nD 100 100 0 0 (lenN _) (lenN _))
      go_wp2_with fail
      refine HP.out.mono ?_
      clear HP d0 d1 d2 d3
      rintro e w6 hp
      have HQ := Lib.hid (HI5.out.1.link hp)
      rw [hlk] at HQ
      have HI6 : Hid (NetNew w (exL2) N bn bl w6 ∧ Bk w6 X #[.int .i64 100, .int .i64 100, .int .i64 0, .int .i64 0] 52) := Lib.hid ⟨HQ.out.1, HI5.out.2.keepL HQ.out.2 (by simpa using HI5.out.2.nmapL HI5.out.1.1.links)⟩
      obtain ⟨z, hz, rfl⟩ := hp.1
      clear hp hz HQ hlk HI5
      obtain ⟨d0, d1, d2, d3⟩ := lk4 HI6.out.2
      have hlk : linkS (exL2) nA nC 100 100 0 0 = exL3 := by unfold linkS; rw [if_pos exL3_ok]; rfl
      have HP := Lib.hid (Link_any HI6.out.1.1 nA nC 100 100 0 0 (lenN _) (lenN _))
      go_wp2_with fail
      refine HP.out.mono ?_
      clear HP d0 d1 d2 d3
      rintro e w7 hp
      have HQ := Lib.hid (HI6.out.1.link hp)
      rw [hlk] at HQ
      have HI7 : Hid (NetNew w (exL3) N bn bl w7 ∧ Bk w7 X #[.int .i64 100, .int .i64 100, .int .i64 0, .int .i64 0] 52) := Lib.hid ⟨HQ.out.1, HI6.out.2.keepL HQ.out.2 (by simpa using HI6.out.2.nmapL HI6.out.1.1.links)⟩
      obtain ⟨z, hz, rfl⟩ := hp.1
      clear hp hz HQ hlk HI6
      obtain ⟨d0, d1, d2, d3⟩ := lk4 HI7.out.2
      have hlk : linkS (exL3) nC nD 100 100 0 0 = exL4 := by unfold linkS; rw [if_pos exL4_ok]; rfl
      have HP := Lib.hid (Link_any HI7.out.1.1 nC nD 100 100 0 0 (lenN _) (lenN _))
      go_wp2_with fail
      refine HP.out.mono ?_
      clear HP d0 d1 d2 d3
      rintro e w8 hp
      have HQ := Lib.hid (HI7.out.1.link hp)
      rw [hlk] at HQ
      have HI8 : Hid (NetNew w (exL4) N bn bl w8 ∧ Bk w8 X #[.int .i64 100, .int .i64 100, .int .i64 0, .int .i64 0] 52) := Lib.hid ⟨HQ.out.1, HI7.out.2.keepL HQ.out.2 (by simpa using HI7.out.2.nmapL HI7.out.1.1.links)⟩
      obtain ⟨z, hz, rfl⟩ := hp.1
      clear hp hz HQ hlk HI7
      obtain ⟨d0, d1, d2, d3⟩ := lk4 HI8.out.2
      have hlk : linkS (exL4) nA nD 20 20 0 0 = exS := by unfold linkS; rw [if_pos exS_ok]; rfl
      have HP := Lib.hid (Link_any HI8.out.1.1 nA nD 20 20 0 0 (lenN _) (lenN _))
      go_wp2_with fail
      refine HP.out.mono ?_
      clear HP d0 d1 d2 d3
      rintro e w9 hp
      have HQ := Lib.hid (HI8.out.1.link hp)
      rw [hlk] at HQ
      have HI9 : Hid (NetNew w (exS) N bn bl w9 ∧ Bk w9 X #[.int .i64 100, .int .i64 100, .int .i64 0, .int .i64 0] 52) := Lib.hid ⟨HQ.out.1, HI8.out.2.keepL HQ.out.2 (by simpa using HI8.out.2.nmapL HI8.out.1.1.links)⟩
      obtain ⟨z, hz, rfl⟩ := hp.1
      clear hp hz HQ hlk HI8
      go_wp2_with fail
      go_ret
      exact ⟨N, bn, bl, rfl, HI9.out.1⟩
#print axioms example_any
end Go.Proofs.Ytkmacmeeinpncaa
/- The contracts of names, place and Small. Conditions: as each statement says. -/
namespace Go.Proofs.Ytkmacmeeinpncaa
open Go.RowKit
set_option linter.unusedVariables false
def n8V : Array Value := #[.string ⟨#[97]⟩, .string ⟨#[98]⟩, .string ⟨#[99]⟩, .string ⟨#[100]⟩, .string ⟨#[101]⟩, .string ⟨#[102]⟩, .string ⟨#[103]⟩, .string ⟨#[104]⟩]
theorem n8V_get (a : Nat) (h : a < 8) : n8V[a]? = some (encS (nm a)) := by
  match a, h with
  | 0, _ => rfl
  | 1, _ => rfl
  | 2, _ => rfl
  | 3, _ => rfl
  | 4, _ => rfl
  | 5, _ => rfl
  | 6, _ => rfl
  | 7, _ => rfl
theorem names_any (w : World) : Calls Try.prog 7 #[] w fun e w' => e = .returned (.slice (some ⟨w.heap.size, 0, none⟩) 8 8) ∧ w' = w.alloc (.cells n8V 9) := by
  go_enter Try.func7, Try.ntmps7
  go_wp2_with fail
  go_ret
  exact ⟨rfl, rfl⟩
/-- The names as a call of names hands them back. -/
theorem n8_cell (w : World) (a : Nat) (h : a < 8) : (w.alloc (.cells n8V 9)).cell? ⟨w.heap.size, a, none⟩ = some (encS (nm a)) := by rw [(Bk.new w n8V 9).cell, n8V_get a h]
def placeN (x : Nm) : Int := if x ∈ names8 then (names8.idxOf x : Int) else -1
theorem placeN_nm (a : Nat) (h : a < 8) : placeN (nm a) = a := by
  match a, h with
  | 0, _ => decide
  | 1, _ => decide
  | 2, _ => decide
  | 3, _ => decide
  | 4, _ => decide
  | 5, _ => decide
  | 6, _ => decide
  | 7, _ => decide
def PlaceP (x : Nm) (w : World) (e : Ending) (w' : World) : Prop := (∃ z, z = placeN x ∧ e = .returned (.int .i64 z)) ∧ Below w.heap.size w w'
set_option maxHeartbeats 1000000 in
theorem place_any (x : Nm) (w : World) : Calls Try.prog 25 #[encS x] w (PlaceP x w) := by
  go_enter Try.func25, Try.ntmps25
  go_wp2_with fail
  go_loopw [3] (fun i wr => ∃ k : Nat, k ≤ 8 ∧ i = .int .i64 k ∧ (∀ j, j < k → x ≠ nm j) ∧ Below w.heap.size w wr) (fun i _ => 8 - (intOf i).toNat)
  case atStart => exact ⟨0, Nat.zero_le _, rfl, fun j hj => by omega, Below.refl _ _⟩
  case round =>
    obtain ⟨k, hk, rfl, hx, hb⟩ := hrel
    obtain ⟨wa, rfl⟩ : ∃ z : World, z = wr := ⟨_, rfl⟩
    have HX := Lib.hid hx; have HB := Lib.hid hb
    clear hx hb
    by_cases hlt : k < 8
    · have hki : (k : Int) < 8 := by omega
      have hc := n8_cell wa k hlt
      have HBA := Lib.hid (below_alloc wa (.cells n8V 9))
      obtain ⟨w1, hw1⟩ : ∃ z, z = wa.alloc (.cells n8V 9) := ⟨_, rfl⟩
      rw [← hw1] at hc HBA
      have HW1 := Lib.hid hw1
      clear hw1
      by_cases he : nm k = x
      · have hq : (nm k == x) = true := by simp [he]
        have HZ : Hid (placeN x = k) := Lib.hid (by rw [← he]; exact placeN_nm k hlt)
        generalize nm k = y at *
        go_wp2_with fail
        refine (names_any _).mono ?_
        rintro e w2 ⟨rfl, rfl⟩
        rw [← HW1.out]
        clear HW1
        go_wp2_with fail
        go_ret
        exact ⟨⟨_, HZ.out.symm, rfl⟩, bnextK HB.out HBA.out⟩
      · have hq : (nm k == x) = false := by simp [he]
        have HN : Hid (∀ j, j < k + 1 → x ≠ nm j) := Lib.hid fun j hj e => by
          rcases Nat.lt_or_ge j k with h1 | h1
          · exact HX.out j h1 e
          · obtain rfl : j = k := by omega
            exact he e.symm
        generalize nm k = y at *
        go_wp2_with fail
        refine (names_any _).mono ?_
        rintro e w2 ⟨rfl, rfl⟩
        rw [← HW1.out]
        clear HW1
        go_wp2_with fail
        go_roundw
        case rel => exact ⟨k + 1, by omega, by go_num, HN.out, bnextK HB.out HBA.out⟩
        case measure => simp [intOf]; omega
    · have hki : ¬ (k : Int) < 8 := by omega
      obtain rfl : k = 8 := by omega
      have HZ : Hid (placeN x = -1) := Lib.hid (by
        unfold placeN
        rw [if_neg (fun hm => ?_)]
        obtain ⟨a, ha, rfl⟩ := mem_nm hm
        exact HX.out a ha rfl)
      go_wp2_with fail
      go_ret
      exact ⟨⟨_, HZ.out.symm, rfl⟩, HB.out⟩
/-- The pairs that are handed in. -/
def prCells (l : List PrN) : List Value := l.flatMap fun p => [.int .u8 (p.a : Int), .int .u8 (p.b : Int), .int .u8 (p.bits : Int)]
theorem prCells_get (l : List PrN) (i : Nat) (h : i < l.length) : (prCells l)[i * 3]? = some (.int .u8 (l[i].a : Int)) ∧ (prCells l)[i * 3 + 1]? = some (.int .u8 (l[i].b : Int)) ∧ (prCells l)[i * 3 + 2]? = some (.int .u8 (l[i].bits : Int)) := by
  induction l generalizing i with
  | nil => simp at h
  | cons a l ih =>
    cases i with
    | zero => simp [prCells]
    | succ i =>
      have := ih i (by simpa using h)
      simp only [prCells, List.flatMap_cons, List.getElem_cons_succ, show (i + 1) * 3 = i * 3 + 3 by omega, List.cons_append, List.nil_append] at this ⊢
      exact this
def stV (st : List Int) : Array Value := (st.map (Value.int .i64)).toArray
theorem stV_set (st : List Int) (i : Nat) (v : Int) : (stV st).setIfInBounds i (.int .i64 v) = stV (st.set i v) := by unfold stV; rw [List.map_set]; simp
theorem stV_get (st : List Int) (i : Nat) (h : i < st.length) : (stV st)[i]? = some (.int .i64 (st.getD i 0)) := by
  unfold stV
  rw [List.getElem?_toArray, List.getElem?_map, List.getD_eq_getElem?_getD, List.getElem?_eq_getElem h]; rfl
#print axioms stV_get
end Go.Proofs.Ytkmacmeeinpncaa
/- Whether a path carries some bits, plainly. No program is in sight. -/
namespace Go.Proofs.Ytkmacmeeinpncaa
set_option linter.unusedVariables false
def canB (s : NS) (a b : Nm) (x : Int) : Bool := decide (mostG s x a b 1 = 1)
theorem most_le (s : NS) (x : Int) (a b : Nm) (k : Nat) (ha : a ∈ s.nodes) (hb : b ∈ s.nodes) (hab : a ≠ b) : mostG s x a b k ≤ k := by
  obtain ⟨ps, _, _, h, _⟩ := countG_says (g := graphG s x) (ixN_lt ha) (ixN_lt hb) (ixN_ne ha hb hab) k
  exact h
theorem can_iff {s : NS} {a b : Nm} (ha : a ∈ s.nodes) (hb : b ∈ s.nodes) (hab : a ≠ b) (x : Int) : canB s a b x = true ↔ ∃ p, PathG (graphG s x) (ixN s a) (ixN s b) p := by
  unfold canB
  rw [decide_eq_true_eq]
  have h1 := most_le s x a b 1 ha hb hab
  have h2 := countG_iff (g := graphG s x) (ixN_lt ha) (ixN_lt hb) (ixN_ne ha hb hab) 1
  constructor
  · intro h
    obtain ⟨ps, h3, h4⟩ := h2.1 (by unfold mostG at h; omega)
    obtain ⟨p, rfl⟩ : ∃ p, ps = [p] := by
      match ps, h4 with
      | [p], _ => exact ⟨p, rfl⟩
    exact ⟨p, h3.each p (by simp)⟩
  · rintro ⟨p, hp⟩
    have := h2.2 ⟨[p], ⟨fun q hq => by rw [List.mem_singleton] at hq; subst hq; exact hp, List.pairwise_singleton _ _⟩, rfl⟩
    unfold mostG at h1 ⊢
    omega
theorem has_lt (s : NS) (x : Int) {i j : Nat} (h : (graphG s x).has i j = true) : i < s.nodes.length ∧ j < s.nodes.length := by
  have hl := namesG_len s
  unfold PG.has at h
  have hi : i < s.nodes.length := by
    rcases Nat.lt_or_ge i s.nodes.length with h1 | h1
    · exact h1
    · have : (graphG s x).adj.getD i [] = [] := by
        rw [List.getD_eq_getElem?_getD, List.getElem?_eq_none]; · rfl
        · show ((namesG s).map (rowG s x)).length ≤ i
          rw [List.length_map]; omega
      rw [this] at h
      cases h
  refine ⟨hi, ?_⟩
  have e : (graphG s x).adj.getD i [] = rowG s x ((namesG s).getD i []) := by
    show ((namesG s).map (rowG s x)).getD i [] = _
    simp only [List.getD_eq_getElem?_getD]
    rw [List.getElem?_map, List.getElem?_eq_getElem (by omega)]; rfl
  rw [e] at h
  rcases Nat.lt_or_ge j s.nodes.length with h1 | h1
  · exact h1
  · rw [List.getD_eq_getElem?_getD, List.getElem?_eq_none (by rw [rowG_len]; omega)] at h
    cases h
theorem rowE_mono {s : NS} {x y : Int} (hxy : x ≤ y) {a b : Nm} (h : rowE s y a b = true) : rowE s x a b = true := by
  unfold rowE at h ⊢
  simp only [Bool.and_eq_true, decide_eq_true_eq] at h ⊢
  exact ⟨h.1, by omega⟩
theorem has_mono {s : NS} {x y : Int} (hxy : x ≤ y) {i j : Nat} (h : (graphG s y).has i j = true) : (graphG s x).has i j = true := by
  obtain ⟨h1, h2⟩ := has_lt s y h
  rw [graphG_has s y i j h1 h2] at h
  rw [graphG_has s x i j h1 h2]
  exact rowE_mono hxy h
theorem PathG.less {s : NS} {x y : Int} (hxy : x ≤ y) {i j : Nat} {p : List Nat} (h : PathG (graphG s y) i j p) : PathG (graphG s x) i j p :=
  ⟨h.len, h.first, h.last, h.nodup, fun k h1 h2 => by
    obtain ⟨q1, q2, q3, q4, q5⟩ := open_has (h.chain k h1 h2)
    exact open_mk (has_mono hxy q1) q2 q3 q4 q5, h.lt⟩
theorem can_mono {s : NS} {a b : Nm} (ha : a ∈ s.nodes) (hb : b ∈ s.nodes) (hab : a ≠ b) {x y : Int} (hxy : x ≤ y) (h : canB s a b y = true) : canB s a b x = true := by
  obtain ⟨p, hp⟩ := (can_iff ha hb hab y).1 h
  exact (can_iff ha hb hab x).2 ⟨p, hp.less hxy⟩
theorem graphG_out (s : NS) (x : Int) : (graphG s x).out.length = (graphG s x).n := List.length_replicate
/-- Route finds a path just where there is one. -/
theorem paths_none {s : NS} {a b : Nm} (ha : a ∈ s.nodes) (hb : b ∈ s.nodes) (hab : a ≠ b) (x : Int) (h : canB s a b x = false) : pathsG s x a b 1 = [] := by
  unfold pathsG chooseG
  have h1 := most_le s x a b 1 ha hb hab
  unfold canB at h
  rw [decide_eq_false_iff_not] at h
  unfold mostG at h h1
  rw [if_pos (by omega)]
theorem paths_some {s : NS} {a b : Nm} (ha : a ∈ s.nodes) (hb : b ∈ s.nodes) (hab : a ≠ b) (x : Int) (h : canB s a b x = true) : ∃ p, pathsG s x a b 1 = [p] ∧ PathG (graphG s x) (ixN s a) (ixN s b) p := by
  unfold canB at h
  rw [decide_eq_true_eq] at h
  unfold mostG at h
  obtain ⟨h1, h2⟩ := chooseL_full (g := graphG s x) (ixN_lt ha) (ixN_lt hb) (ixN_ne ha hb hab) 1 (graphG s x) rfl (graphG_out s x) (by omega)
  unfold pathsG chooseG
  rw [if_neg (by omega)]
  match hq : chooseL (ixN s a) (ixN s b) 1 (graphG s x), h1 with
  | [p], _ => exact ⟨p, rfl, h2.each p (by rw [hq]; simp)⟩
#print axioms paths_some
end Go.Proofs.Ytkmacmeeinpncaa
/- The contract of path. Conditions: as each statement says. -/
namespace Go.Proofs.Ytkmacmeeinpncaa
open Go.RowKit
set_option linter.unusedVariables false
/-- A list of places as bits. -/
def maskN : List Nat → Nat
  | [] => 0
  | a :: l => maskN l ||| 2 ^ a
theorem maskN_bit (l : List Nat) (i : Nat) : (maskN l).testBit i = decide (i ∈ l) := by
  induction l with
  | nil => simp [maskN]
  | cons a l ih =>
    rw [maskN, Nat.testBit_or, ih, Nat.testBit_two_pow]
    by_cases h1 : i = a
    · subst h1; simp
    · have : ¬ a = i := fun e => h1 e.symm
      simp [h1, this]
theorem maskN_lt (l : List Nat) (h : ∀ x ∈ l, x < 8) : maskN l < 256 := by
  induction l with
  | nil => simp [maskN]
  | cons a l ih =>
    rw [maskN]
    have h1 := ih (fun x hx => h x (by simp [hx]))
    have h2 : 2 ^ a < 2 ^ 8 := Nat.pow_lt_pow_right (by omega) (h a (by simp))
    exact Nat.or_lt_two_pow (n := 8) h1 h2
theorem maskN_snoc (l : List Nat) (a : Nat) : maskN (l ++ [a]) = maskN l ||| 2 ^ a := by
  apply Nat.eq_of_testBit_eq
  intro i
  rw [Nat.testBit_or, maskN_bit, maskN_bit, Nat.testBit_two_pow]
  by_cases h1 : i = a
  · subst h1; simp
  · have : ¬ a = i := fun e => h1 e.symm
    simp [h1, this]
theorem i64_or_n (x y : Nat) (hx : x < 65536) (hy : y < 65536) : bits BinOp.or IntKind.i64 (x : Int) (y : Int) = ((x ||| y : Nat) : Int) := by
  have h1 : (BitVec.ofInt 64 (x : Int)).toNat = x := by rw [BitVec.toNat_ofInt]; omega
  have h2 : (BitVec.ofInt 64 (y : Int)).toNat = y := by rw [BitVec.toNat_ofInt]; omega
  unfold bits
  simp only
  show IntKind.i64.wrap (((BitVec.ofInt 64 (x : Int) ||| BitVec.ofInt 64 (y : Int)).toNat : Nat) : Int) = _
  rw [BitVec.toNat_or, h1, h2]
  have : x ||| y < 2 ^ 16 := Nat.or_lt_two_pow hx hy
  generalize x ||| y = z at *
  rw [IntKind.wrap_i64]; omega
theorem i64_and_n9 (x y : Nat) (hx : x < 65536) (hy : y < 65536) : bits BinOp.and IntKind.i64 (x : Int) (y : Int) = ((x &&& y : Nat) : Int) := by
  have h1 : (BitVec.ofInt 64 (x : Int)).toNat = x := by rw [BitVec.toNat_ofInt]; omega
  have h2 : (BitVec.ofInt 64 (y : Int)).toNat = y := by rw [BitVec.toNat_ofInt]; omega
  unfold bits
  simp only
  show IntKind.i64.wrap (((BitVec.ofInt 64 (x : Int) &&& BitVec.ofInt 64 (y : Int)).toNat : Nat) : Int) = _
  rw [BitVec.toNat_and, h1, h2]
  have : x &&& y ≤ x := Nat.and_le_left
  generalize x &&& y = z at *
  rw [IntKind.wrap_i64]; omega
theorem pow_lt9 (a : Nat) (h : a < 8) : 2 ^ a < 256 := by
  have := Nat.pow_lt_pow_right (a := 2) (by omega) h
  simpa using this
theorem shr_and (sn a : Nat) (hs : sn < 256) (ha : a < 8) : bits BinOp.and IntKind.i64 ((sn : Int) / 2 ^ a) 1 = if sn.testBit a then 1 else 0 := by
  have e : ((sn : Int) / 2 ^ a) = ((sn / 2 ^ a : Nat) : Int) := by push_cast; rfl
  have hle : sn / 2 ^ a ≤ sn := Nat.div_le_self _ _
  rw [e, show (1 : Int) = ((1 : Nat) : Int) from rfl, i64_and_n9 _ _ (by omega) (by omega), Nat.and_one_is_mod, Nat.testBit_eq_decide_div_mod_eq]
  by_cases h : sn / 2 ^ a % 2 = 1
  · rw [h]; simp
  · have h0 : sn / 2 ^ a % 2 = 0 := by omega
    rw [h0]; simp
theorem shl_or (sn a : Nat) (hs : sn < 256) (ha : a < 8) : bits BinOp.or IntKind.i64 (sn : Int) (wrap64 (2 ^ a)) = ((sn ||| 2 ^ a : Nat) : Int) := by
  have h1 := pow_lt9 a ha
  have e : wrap64 ((2 : Int) ^ a) = ((2 ^ a : Nat) : Int) := by
    rw [show (2 : Int) ^ a = ((2 ^ a : Nat) : Int) by push_cast; rfl]
    generalize 2 ^ a = x at *
    unfold wrap64; omega
  rw [e, i64_or_n _ _ (by omega) (by omega)]
/-- What a good path of a small network is, as places. -/
structure GoodP (st : List Int) (p : List Nat) (s t : Nat) (bits : Int) : Prop where
  len : 2 ≤ p.length
  first : p.getD 0 0 = s
  last : lastN p = t
  nodup : p.Nodup
  lt : ∀ x ∈ p, x < 8
  st : ∀ i, i + 1 < p.length → bits ≤ stG st (p.getD i 0) (p.getD (i + 1) 0)
theorem GoodP.rel {st : List Int} {p : List Nat} {s t : Nat} {bits : Int} (h : GoodP st p s t bits) (i : Nat) : i ∈ relays p ↔ i ∈ p ∧ i ≠ s ∧ i ≠ t := by
  have hl := h.len
  have e0 : p[0]? = some s := by
    have := h.first
    rw [List.getD_eq_getElem?_getD, List.getElem?_eq_getElem (by omega)] at this
    rw [List.getElem?_eq_getElem (by omega), ← this]; rfl
  have e1 : p[p.length - 1]? = some t := by
    have := h.last
    unfold lastN at this
    rw [List.getD_eq_getElem?_getD, List.getElem?_eq_getElem (by omega)] at this
    rw [List.getElem?_eq_getElem (by omega), ← this]; rfl
  rw [relays_mem]
  constructor
  · rintro ⟨k, h1, h2, h3⟩
    refine ⟨List.mem_of_getElem? h3, fun e => ?_, fun e => ?_⟩
    · subst e; have := nodup_at h.nodup h3 e0; omega
    · subst e; have := nodup_at h.nodup h3 e1; omega
  · rintro ⟨h1, h2, h3⟩
    obtain ⟨k, hk⟩ := List.getElem?_of_mem h1
    have hkl := (List.getElem?_eq_some_iff.1 hk).1
    refine ⟨k, ?_, ?_, hk⟩
    · rcases Nat.eq_zero_or_pos k with h4 | h4
      · subst h4; rw [e0] at hk; injection hk with hk; exact absurd hk.symm h2
      · exact h4
    · rcases Nat.lt_or_ge (k + 1) p.length with h4 | h4
      · exact h4
      · have h5 : k = p.length - 1 := by omega
        rw [h5, e1] at hk; injection hk with hk; exact absurd hk.symm h3
theorem andNot_n (x y z : Nat) (hx : x < 65536) (hy : y < 65536) (hz : ∀ i, z.testBit i = (x.testBit i && !y.testBit i)) : Go.bits BinOp.andNot IntKind.i64 (x : Int) (y : Int) = (z : Int) := by
  have h1 : BitVec.ofInt 64 (x : Int) = BitVec.ofNat 64 x := by apply BitVec.eq_of_toNat_eq; rw [BitVec.toNat_ofInt, BitVec.toNat_ofNat]; omega
  have h2 : BitVec.ofInt 64 (y : Int) = BitVec.ofNat 64 y := by apply BitVec.eq_of_toNat_eq; rw [BitVec.toNat_ofInt, BitVec.toNat_ofNat]; omega
  unfold bits
  simp only
  show IntKind.i64.wrap (((BitVec.ofInt 64 (x : Int) &&& ~~~BitVec.ofInt 64 (y : Int)).toNat : Nat) : Int) = _
  have e : (BitVec.ofInt 64 (x : Int) &&& ~~~BitVec.ofInt 64 (y : Int)).toNat = z := by
    apply Nat.eq_of_testBit_eq
    intro i
    rw [BitVec.testBit_toNat, h1, h2, BitVec.getLsbD_and, BitVec.getLsbD_not, BitVec.getLsbD_ofNat, BitVec.getLsbD_ofNat, hz]
    by_cases hi : i < 64
    · simp [hi]
    · have : x.testBit i = false := Nat.testBit_lt_two_pow (Nat.lt_of_lt_of_le (show x < 2 ^ 16 by omega) (Nat.pow_le_pow_right (by omega) (by omega)))
      simp [hi, this]
  have hzx : z < 2 ^ 16 := Nat.lt_pow_two_of_testBit z (fun i hi => by
    have : x.testBit i = false := Nat.testBit_lt_two_pow (Nat.lt_of_lt_of_le (show x < 2 ^ 16 by omega) (Nat.pow_le_pow_right (by omega) hi))
    rw [hz, this]; rfl)
  rw [e, IntKind.wrap_i64]; omega
theorem final_mask {st : List Int} {p : List Nat} {s t : Nat} {bits : Int} (h : GoodP st p s t bits) (hs : s < 8) (ht : t < 8) (sn : Nat) (hsn : sn = maskN p) :
    Go.bits BinOp.andNot IntKind.i64 (sn : Int) (Go.bits BinOp.or IntKind.i64 (wrap64 (2 ^ s)) (wrap64 (2 ^ t))) = (maskN (relays p) : Int) := by
  have hw : ∀ a, a < 8 → wrap64 ((2 : Int) ^ a) = ((2 ^ a : Nat) : Int) := fun a ha => by
    have h1 := pow_lt9 a ha
    rw [show (2 : Int) ^ a = ((2 ^ a : Nat) : Int) by push_cast; rfl]
    generalize 2 ^ a = x at *
    unfold wrap64; omega
  have h1 := pow_lt9 s hs
  have h2 := pow_lt9 t ht
  have h3 := maskN_lt p h.lt
  rw [hw s hs, hw t ht, i64_or_n _ _ (by omega) (by omega)]
  have h4 : 2 ^ s ||| 2 ^ t < 2 ^ 8 := Nat.or_lt_two_pow h1 h2
  refine andNot_n _ _ _ (by omega) (by omega) (fun i => ?_)
  rw [maskN_bit, hsn, maskN_bit, Nat.testBit_or, Nat.testBit_two_pow, Nat.testBit_two_pow]
  by_cases h5 : i ∈ relays p
  · obtain ⟨q1, q2, q3⟩ := (h.rel i).1 h5
    have q2' : ¬ s = i := fun e => q2 e.symm
    have q3' : ¬ t = i := fun e => q3 e.symm
    simp [h5, q1, q2', q3']
  · by_cases q1 : i ∈ p
    · by_cases q2 : s = i
      · simp [h5, q2]
      · by_cases q3 : t = i
        · simp [h5, q3]
        · exact absurd ((h.rel i).2 ⟨q1, fun e => q2 e.symm, fun e => q3 e.symm⟩) h5
    · simp [h5, q1]
def PathP (p : List Nat) (w : World) (e : Ending) (w' : World) : Prop := (∃ z : Int, z = maskN (relays p) ∧ e = .returned (.tuple #[.int .i64 z, .bool true])) ∧ Below w.heap.size w w'
set_option maxRecDepth 100000 in
set_option maxHeartbeats 8000000 in
theorem path_any {w : World} {v : Value} (st : List Int) (hst : st.length = 64) (p : List Nat) (s t : Nat) (bits : Int) (hg : GoodP st p s t bits) (hrow : NmRow w v (p.map nm)) :
    Calls Try.prog 11 #[.agg (stV st), v, encS (nm s), encS (nm t), .int .i64 bits] w (PathP p w) := by
  obtain ⟨h, c, cs, rfl, hc, hbk, hcs⟩ := hrow
  rw [List.length_map] at hc hcs ⊢
  have hn8 := nodup_lt_len hg.nodup hg.lt
  have hn2 := hg.len
  have HC : Hid (∀ i, i < p.length → w.cell? ⟨h, i, none⟩ = some (encS (nm (p.getD i 0)))) := Lib.hid fun i hi => by
    rw [hbk.cell, hcs i hi]
    simp only [List.getD_eq_getElem?_getD]
    rw [List.getElem?_map, List.getElem?_eq_getElem hi]
    rfl
  have hh := hbk.lt
  have HG := Lib.hid hg; have HST := Lib.hid hst
  clear hbk hcs hg hst
  obtain ⟨m, hm⟩ : ∃ m, p.length = m + 1 := ⟨p.length - 1, by omega⟩
  rw [hm] at hc hn8 hn2 ⊢
  have HM := Lib.hid hm
  have c0 : w.cell? ⟨h, 0, none⟩ = some (encS (nm s)) := by rw [HC.out 0 (by omega), HG.out.first]
  have cl : w.cell? ⟨h, m, none⟩ = some (encS (nm t)) := by
    rw [HC.out m (by omega)]
    have := HG.out.last
    unfold lastN at this
    rw [hm, Nat.add_sub_cancel] at this
    rw [this]
  clear hm
  have hm1 : 1 ≤ m := by omega
  have q1 : ¬ (m : Int) + 1 < 2 := by omega
  obtain ⟨w1, hw1⟩ : ∃ z, z = w.alloc (.cells (stV st) 25) := ⟨_, rfl⟩
  have HW1 : Hid (Bk w1 w.heap.size (stV st) 25 ∧ Below w.heap.size w w1) := Lib.hid (by rw [hw1]; exact ⟨Bk.new _ _ _, below_alloc _ _⟩)
  have HE1 := Lib.hid hw1
  clear hw1
  obtain ⟨S, hS⟩ : ∃ S, S = nm s := ⟨_, rfl⟩
  obtain ⟨T, hT⟩ : ∃ T, T = nm t := ⟨_, rfl⟩
  rw [← hS] at c0 ⊢
  rw [← hT] at cl ⊢
  have HS := Lib.hid hS; have HT := Lib.hid hT
  clear hS hT
  go_enter Try.func11, Try.ntmps11
  go_wp2_with fail
  rw [← HE1.out]
  clear HE1 c0 cl
  go_loopw [12, 13, 14] (fun sv i _ wr => ∃ (k sn : Nat), k ≤ m + 1 ∧ i = .int .i64 k ∧ sv = .int .i64 sn ∧ sn = maskN (p.take k) ∧ Bk wr w.heap.size (stV st) 25 ∧ Below w.heap.size w wr) (fun _ i _ _ => m + 1 - (intOf i).toNat)
  case atStart => exact ⟨0, 0, Nat.zero_le _, rfl, rfl, rfl, HW1.out.1, HW1.out.2⟩
  case round =>
    obtain ⟨k, sn, hk, rfl, rfl, hsn, hbk, hbw⟩ := hrel
    obtain ⟨wa, rfl⟩ : ∃ z : World, z = wr := ⟨_, rfl⟩
    have HSN := Lib.hid hsn; have HBK := Lib.hid hbk; have HBW := Lib.hid hbw
    clear hbk hbw HW1
    have hlt8 : ∀ i, i < p.length → p.getD i 0 < 8 := fun i hi => by
      rw [List.getD_eq_getElem?_getD, List.getElem?_eq_getElem hi]
      exact HG.out.lt _ (List.getElem_mem hi)
    have hs256 : sn < 256 := by rw [hsn]; exact maskN_lt _ (fun x hx => HG.out.lt x (List.mem_of_mem_take hx))
    clear hsn
    by_cases hlt : k < m + 1
    · have hki : (k : Int) < (m : Int) + 1 := by omega
      have hkp : k < p.length := by rw [HM.out]; exact hlt
      have ck := (HBW.out.cell (p := ⟨h, k, none⟩) hh).trans (HC.out k hkp)
      obtain ⟨a, ha⟩ : ∃ a, a = p.getD k 0 := ⟨_, rfl⟩
      rw [← ha] at ck
      have ha8 : a < 8 := by rw [ha]; exact hlt8 k hkp
      have HPL : Hid (∀ W, Calls Try.prog 25 #[encS (nm a)] W (PlaceP (nm a) W)) := Lib.hid fun W => place_any (nm a) W
      have HPN := Lib.hid (placeN_nm a ha8)
      generalize nm a = y at ck HPL HPN
      have hna : ¬ (a : Int) < 0 := by omega
      have hmem : sn.testBit a = false := by
        rw [HSN.out, maskN_bit, decide_eq_false_iff_not, ha]
        intro hm
        obtain ⟨i, hi⟩ := List.getElem?_of_mem hm
        rw [List.getElem?_take] at hi
        split at hi
        · rename_i hik
          have h2 : p[k]? = some (p.getD k 0) := by rw [List.getD_eq_getElem?_getD, List.getElem?_eq_getElem hkp]; rfl
          have := nodup_at HG.out.nodup hi h2
          omega
        · cases hi
      have hand : Go.bits BinOp.and IntKind.i64 ((sn : Int) / 2 ^ a) 1 = 0 := by rw [shr_and sn a hs256 ha8, hmem]; rfl
      obtain ⟨sn', hsn'⟩ : ∃ z, z = sn ||| 2 ^ a := ⟨_, rfl⟩
      have hor : Go.bits BinOp.or IntKind.i64 (sn : Int) (wrap64 (2 ^ a)) = (sn' : Int) := by rw [shl_or sn a hs256 ha8, hsn']
      have HSN2 : Hid (sn' = maskN (p.take (k + 1))) := Lib.hid (by
        rw [hsn', List.take_succ_eq_append_getElem hkp, maskN_snoc, ← HSN.out]
        congr 2
        rw [ha, List.getD_eq_getElem?_getD, List.getElem?_eq_getElem hkp]; rfl)
      have HAND := Lib.hid hand; have HOR := Lib.hid hor
      have HA := Lib.hid ha
      clear ha hand hor hsn' hmem
      cases k with
      | zero =>
        go_wp2_with fail
        refine (HPL.out _).mono ?_
        rintro e w2 ⟨⟨z, hz, rfl⟩, hb2⟩
        rw [HPN.out] at hz
        subst hz
        have HB2 := Lib.hid hb2
        have hand := HAND.out; have hor := HOR.out
        clear hb2 ck
        go_wp2_with fail
        clear hand hor
        go_roundw
        case rel => exact ⟨1, sn', by omega, by go_num, rfl, HSN2.out, HBK.out.past HB2.out HBK.out.lt, bnextK HBW.out HB2.out⟩
        case measure => simp [intOf] <;> omega
      | succ j =>
        have hjp : j < p.length := by omega
        obtain ⟨b, hb⟩ : ∃ b, b = p.getD j 0 := ⟨_, rfl⟩
        have hb8 : b < 8 := by rw [hb]; exact hlt8 j hjp
        have cj := HC.out j hjp
        have hstb := HG.out.st j (by omega)
        rw [← hb, ← HA.out] at hstb
        rw [← hb] at cj
        have HPL2 : Hid (∀ W, Calls Try.prog 25 #[encS (nm b)] W (PlaceP (nm b) W)) := Lib.hid fun W => place_any (nm b) W
        have HPN2 := Lib.hid (placeN_nm b hb8)
        generalize nm b = y2 at cj HPL2 HPN2
        clear hb
        have hbi : (b : Int) < 8 := by omega
        have hai : (a : Int) < 8 := by omega
        go_wp2_with fail
        refine (HPL.out _).mono ?_
        rintro e w2 ⟨⟨z, hz, rfl⟩, hb2⟩
        rw [HPN.out] at hz
        subst hz
        have HB2 := Lib.hid (bnextK HBW.out hb2)
        have HBK2 := Lib.hid (HBK.out.past hb2 HBK.out.lt)
        have cj2 := (HB2.out.cell (p := ⟨h, j, none⟩) hh).trans cj
        have hand := HAND.out; have hor := HOR.out
        clear hb2 ck cj
        go_wp2_with fail
        clear hand hor
        refine (HPL2.out _).mono ?_
        rintro e w3 ⟨⟨z, hz, rfl⟩, hb3⟩
        rw [HPN2.out] at hz
        subst hz
        have HB3 := Lib.hid (bnextK HB2.out hb3)
        have HBK3 := Lib.hid (HBK2.out.past hb3 HBK2.out.lt)
        have ct : w3.cell? ⟨w.heap.size, b * 8 + a, none⟩ = some (.int .i64 (stG st b a)) := by
          rw [HBK3.out.cell, stV_get _ _ (by rw [HST.out]; omega)]; rfl
        have hge : ¬ stG st b a < bits := by omega
        generalize stG st b a = sv at ct hge
        clear hb3 cj2
        go_wp2_with fail
        go_roundw
        case rel => exact ⟨j + 1 + 1, sn', by omega, by go_num, rfl, HSN2.out, HBK3.out, HB3.out⟩
        case measure => simp [intOf]; omega
    · have hki : ¬ (k : Int) < (m : Int) + 1 := by omega
      obtain rfl : k = m + 1 := by omega
      have hsl : s < 8 := by rw [← HG.out.first]; exact hlt8 0 (by rw [HM.out]; omega)
      have htl : t < 8 := by
        have := HG.out.last
        unfold lastN at this
        rw [← this]; exact hlt8 _ (by rw [HM.out]; omega)
      have HPS : Hid (∀ W, Calls Try.prog 25 #[encS S] W (PlaceP S W)) := Lib.hid fun W => place_any S W
      have HPT : Hid (∀ W, Calls Try.prog 25 #[encS T] W (PlaceP T W)) := Lib.hid fun W => place_any T W
      have HNS : Hid (placeN S = s) := Lib.hid (by rw [HS.out]; exact placeN_nm s hsl)
      have HNT : Hid (placeN T = t) := Lib.hid (by rw [HT.out]; exact placeN_nm t htl)
      clear hlt8
      go_wp2_with fail
      refine (HPS.out _).mono ?_
      rintro e w2 ⟨⟨z, hz, rfl⟩, hb2⟩
      rw [HNS.out] at hz
      subst hz
      have HB2 := Lib.hid (bnextK HBW.out hb2)
      clear hb2
      go_wp2_with fail
      refine (HPT.out _).mono ?_
      rintro e w3 ⟨⟨z, hz, rfl⟩, hb3⟩
      rw [HNT.out] at hz
      subst hz
      have HB3 := Lib.hid (bnextK HB2.out hb3)
      clear hb3
      have hfin := final_mask HG.out hsl htl sn (by have := HSN.out; rw [List.take_of_length_le (by rw [HM.out]; omega)] at this; exact this)
      have HFIN := Lib.hid hfin
      clear hfin
      go_wp2_with fail
      rw [HFIN.out]
      refine bodyPost_ret (a := Act.mk _ _) (results_tmp2 rfl _ _ _) rfl ?_
      exact ⟨⟨_, rfl, rfl⟩, HB3.out⟩
#print axioms path_any
end Go.Proofs.Ytkmacmeeinpncaa
/- The contract of reaches. Conditions: as each statement says. -/
namespace Go.Proofs.Ytkmacmeeinpncaa
open Go.RowKit
set_option linter.unusedVariables false
/-- May the search step from i to k? -/
def eB8 (st : List Int) (bits : Int) (out a b i k : Nat) : Bool := decide (bits ≤ stG st i k) && (!out.testBit k && !(decide (i = a) && decide (k = b)))
def inK8 (e : Nat → Bool) : Nat → Nat → Nat
  | 0, s => s
  | n + 1, s => if e n then inK8 e n s ||| 2 ^ n else inK8 e n s
def inI8 (e : Nat → Nat → Bool) (b : Nat) : Nat → Nat → Nat
  | 0, s => s
  | n + 1, s => if (inI8 e b n s).testBit n && !decide (n = b) then inK8 (e n) 8 (inI8 e b n s) else inI8 e b n s
def rnd8 (e : Nat → Nat → Bool) (b : Nat) : Nat → Nat → Nat
  | 0, s => s
  | n + 1, s => inI8 e b 8 (rnd8 e b n s)
def reachB8 (st : List Int) (bits : Int) (out a b : Nat) : Bool := (rnd8 (eB8 st bits out a b) b 8 (2 ^ a)).testBit b
theorem inK8_lt (e : Nat → Bool) (s : Nat) (hs : s < 256) : ∀ n, n ≤ 8 → inK8 e n s < 256
  | 0, _ => hs
  | n + 1, h => by
    have h1 := inK8_lt e s hs n (by omega)
    unfold inK8
    split
    · exact Nat.or_lt_two_pow (n := 8) h1 (pow_lt9 n (by omega))
    · exact h1
theorem inI8_lt (e : Nat → Nat → Bool) (b s : Nat) (hs : s < 256) : ∀ n, n ≤ 8 → inI8 e b n s < 256
  | 0, _ => hs
  | n + 1, h => by
    have h1 := inI8_lt e b s hs n (by omega)
    unfold inI8
    split
    · exact inK8_lt _ _ h1 8 (by omega)
    · exact h1
theorem rnd8_lt (e : Nat → Nat → Bool) (b s : Nat) (hs : s < 256) : ∀ n, rnd8 e b n s < 256
  | 0 => hs
  | n + 1 => inI8_lt e b _ (rnd8_lt e b s hs n) 8 (by omega)
theorem pow_wrap9 (a : Nat) (ha : a < 8) : wrap64 ((2 : Int) ^ a) = ((2 ^ a : Nat) : Int) := by
  have h1 := pow_lt9 a ha
  rw [show (2 : Int) ^ a = ((2 ^ a : Nat) : Int) by push_cast; rfl]
  generalize 2 ^ a = x at *
  unfold wrap64; omega
set_option maxRecDepth 100000 in
set_option maxHeartbeats 8000000 in
theorem reaches_any {w : World} (st : List Int) (hst : st.length = 64) (a b out : Nat) (bits : Int) (ha : a < 8) (hb : b < 8) (hout : out < 256) :
    Calls Try.prog 9 #[.agg (stV st), .int .i64 a, .int .i64 b, .int .i64 bits, .int .i64 out] w (fun e w' => e = .returned (.bool (reachB8 st bits out a b)) ∧ Below w.heap.size w w') := by
  obtain ⟨w1, hw1⟩ : ∃ z, z = w.alloc (.cells (stV st) 25) := ⟨_, rfl⟩
  have HW1 : Hid (Bk w1 w.heap.size (stV st) 25 ∧ Below w.heap.size w w1) := Lib.hid (by rw [hw1]; exact ⟨Bk.new _ _ _, below_alloc _ _⟩)
  have HE1 := Lib.hid hw1
  have HST := Lib.hid hst
  clear hw1 hst
  obtain ⟨e, he⟩ : ∃ e, e = eB8 st bits out a b := ⟨_, rfl⟩
  have HE := Lib.hid he
  clear he
  obtain ⟨s0, hs0⟩ : ∃ z, z = 2 ^ a := ⟨_, rfl⟩
  have hwr0 : wrap64 ((2 : Int) ^ a) = (s0 : Int) := by rw [pow_wrap9 a ha, hs0]
  have hs0l : s0 < 256 := by rw [hs0]; exact pow_lt9 a ha
  have HR : Hid (reachB8 st bits out a b = (rnd8 e b 8 s0).testBit b) := Lib.hid (by rw [HE.out, hs0]; rfl)
  clear hs0
  have hai : (a : Int) < 8 := by omega
  have hbi : (b : Int) < 8 := by omega
  generalize hg : w.heap.size = g at HW1
  have HGS := Lib.hid hg
  go_enter Try.func9, Try.ntmps9
  go_wp2_with fail
  rw [← HE1.out]
  have HW0 := Lib.hid hwr0
  clear HE1 hwr0
  try simp only [hg]
  clear hg
  go_loopw [11, 12, 13, 14] (fun sv r _ _ wr => ∃ (n s : Nat), n ≤ 8 ∧ r = .int .i64 n ∧ sv = .int .i64 s ∧ s = rnd8 e b n s0 ∧ Bk wr g (stV st) 25 ∧ Below g w wr) (fun _ r _ _ _ => 8 - (intOf r).toNat)
  case atStart => exact ⟨0, s0, Nat.zero_le _, rfl, congrArg _ HW0.out, rfl, HW1.out.1, HW1.out.2⟩
  case round =>
    obtain ⟨n, s, hn, rfl, rfl, hs, hbk, hbw⟩ := hrel
    obtain ⟨wa, rfl⟩ : ∃ z : World, z = wr := ⟨_, rfl⟩
    have HS := Lib.hid hs; have HBK := Lib.hid hbk; have HBW := Lib.hid hbw
    have hs256 : s < 256 := by rw [hs]; exact rnd8_lt _ _ _ hs0l _
    clear hs hbk hbw HW1
    by_cases hlt : n < 8
    · have hki : (n : Int) < 8 := by omega
      go_wp2_with fail
      go_loopg [11, 13, 14] 9 (fun g' sv i _ wr => ∃ (m s' : Nat), m ≤ 8 ∧ 8 - m < g' ∧ i = .int .i64 m ∧ sv = .int .i64 s' ∧ s' = inI8 e b m s ∧ Bk wr g (stV st) 25 ∧ Below g w wr)
      case atStart => exact ⟨0, s, Nat.zero_le _, by omega, rfl, rfl, rfl, HBK.out, HBW.out⟩
      case round =>
        obtain ⟨m, s2, hm, hg2, rfl, rfl, hs2, hbk, hbw⟩ := hrel
        obtain ⟨g', rfl⟩ : ∃ g', gk = g' + 1 := ⟨gk - 1, by omega⟩
        obtain ⟨wi, rfl⟩ : ∃ z : World, z = wr := ⟨_, rfl⟩
        have HS2 := Lib.hid hs2; have HBK2 := Lib.hid hbk; have HBW2 := Lib.hid hbw
        have hs2l : s2 < 256 := by rw [hs2]; exact inI8_lt _ _ _ hs256 _ hm
        clear hs2 hbk hbw
        by_cases hlt2 : m < 8
        · have hki2 : (m : Int) < 8 := by omega
          have hand := shr_and s2 m hs2l hlt2
          cases ht : s2.testBit m with
          | false =>
            have HQ : Hid (s2 = inI8 e b (m + 1) s) := Lib.hid (by unfold inI8; rw [← HS2.out, ht]; rfl)
            rw [ht, if_neg (by simp)] at hand
            clear ht
            go_wp2_with fail
            clear hand
            go_roundg g'
            case measure => omega
            case rel => exact ⟨m + 1, s2, by omega, by omega, by go_num, rfl, HQ.out, HBK2.out, HBW2.out⟩
          | true =>
            rw [ht, if_pos rfl] at hand
            by_cases hmb : m = b
            · have HQ : Hid (s2 = inI8 e b (m + 1) s) := Lib.hid (by unfold inI8; rw [← HS2.out, ht]; simp [hmb])
              have hq1 : ((m : Int) == (b : Int)) = true := by simp [hmb]
              clear ht hmb
              go_wp2_with fail
              clear hand
              go_roundg g'
              case measure => omega
              case rel => exact ⟨m + 1, s2, by omega, by omega, by go_num, rfl, HQ.out, HBK2.out, HBW2.out⟩
            · have HQ : Hid (inK8 (e m) 8 s2 = inI8 e b (m + 1) s) := Lib.hid (by conv => rhs; unfold inI8; rw [← HS2.out, ht]; simp [hmb])
              have hq1 : ((m : Int) == (b : Int)) = false := by simp; omega
              clear ht hmb
              go_wp2_with fail
              clear hand hq1
              go_loopg [11, 14] 9 (fun g' sv i wr => ∃ (k s' : Nat), k ≤ 8 ∧ 8 - k < g' ∧ i = .int .i64 k ∧ sv = .int .i64 s' ∧ s' = inK8 (e m) k s2 ∧ Bk wr g (stV st) 25 ∧ Below g w wr)
              case atStart => exact ⟨0, s2, Nat.zero_le _, by omega, rfl, rfl, rfl, HBK2.out, HBW2.out⟩
              case round =>
                obtain ⟨k, s3, hk, hg3, rfl, rfl, hs3, hbk, hbw⟩ := hrel
                obtain ⟨g3, rfl⟩ : ∃ g3, gk = g3 + 1 := ⟨gk - 1, by omega⟩
                obtain ⟨wj, rfl⟩ : ∃ z : World, z = wr := ⟨_, rfl⟩
                have HS3 := Lib.hid hs3; have HBK3 := Lib.hid hbk; have HBW3 := Lib.hid hbw
                have hs3l : s3 < 256 := by rw [hs3]; exact inK8_lt _ _ hs2l _ hk
                clear hs3 hbk hbw
                by_cases hlt3 : k < 8
                · have hki3 : (k : Int) < 8 := by omega
                  have ct : wj.cell? ⟨g, m * 8 + k, none⟩ = some (.int .i64 (stG st m k)) := by
                    rw [HBK3.out.cell, stV_get _ _ (by rw [HST.out]; omega)]; rfl
                  have HEB : Hid (e m k = (decide (bits ≤ stG st m k) && (!out.testBit k && !(decide (m = a) && decide (k = b))))) := Lib.hid (by rw [HE.out]; rfl)
                  have HF : Hid (e m k = false → s3 = inK8 (e m) (k + 1) s2) := Lib.hid fun h => by unfold inK8; rw [h, HS3.out]; rfl
                  have HT : Hid (e m k = true → s3 ||| 2 ^ k = inK8 (e m) (k + 1) s2) := Lib.hid fun h => by unfold inK8; rw [h, if_pos rfl, HS3.out]
                  have hout3 := shr_and out k hout hlt3
                  have hor := shl_or s3 k hs3l hlt3
                  generalize stG st m k = sv at ct HEB
                  obtain ⟨s4, hs4⟩ : ∃ z, z = s3 ||| 2 ^ k := ⟨_, rfl⟩
                  rw [← hs4] at HT hor
                  clear hs4
                  by_cases hbs : bits ≤ sv
                  case neg =>
                    have HV : Hid (s3 = inK8 (e m) (k + 1) s2) := Lib.hid (HF.out (by rw [HEB.out]; simp [hbs]))
                    clear hout3 hor
                    go_wp2_with fail
                    clear ct
                    go_roundg g3
                    case measure => omega
                    case rel => exact ⟨k + 1, s3, by omega, by omega, by go_num, rfl, HV.out, HBK3.out, HBW3.out⟩
                  case pos =>
                    cases hto : out.testBit k with
                    | true =>
                      have HV : Hid (s3 = inK8 (e m) (k + 1) s2) := Lib.hid (HF.out (by rw [HEB.out, hto]; simp))
                      rw [hto, if_pos rfl] at hout3
                      clear hto hor
                      go_wp2_with fail
                      clear ct hout3
                      go_roundg g3
                      case measure => omega
                      case rel => exact ⟨k + 1, s3, by omega, by omega, by go_num, rfl, HV.out, HBK3.out, HBW3.out⟩
                    | false =>
                      rw [hto, if_neg (by simp)] at hout3
                      by_cases hma : m = a
                      · have hq1 : ((m : Int) == (a : Int)) = true := by simp [hma]
                        by_cases hkb : k = b
                        · have hq2 : ((k : Int) == (b : Int)) = true := by simp [hkb]
                          have HV : Hid (s3 = inK8 (e m) (k + 1) s2) := Lib.hid (HF.out (by rw [HEB.out]; simp [hma, hkb]))
                          clear hto hor hma hkb
                          go_wp2_with fail
                          clear ct hout3 hq1 hq2
                          go_roundg g3
                          case measure => omega
                          case rel => exact ⟨k + 1, s3, by omega, by omega, by go_num, rfl, HV.out, HBK3.out, HBW3.out⟩
                        · have hq2 : ((k : Int) == (b : Int)) = false := by simp; omega
                          have HV : Hid (s4 = inK8 (e m) (k + 1) s2) := Lib.hid (HT.out (by rw [HEB.out, hto]; simp [hkb, hbs]))
                          clear hto hma hkb
                          go_wp2_with fail
                          clear ct hout3 hq1 hq2 hor
                          go_roundg g3
                          case measure => omega
                          case rel => exact ⟨k + 1, s4, by omega, by omega, by go_num, rfl, HV.out, HBK3.out, HBW3.out⟩
                      · have hq1 : ((m : Int) == (a : Int)) = false := by simp; omega
                        have HV : Hid (s4 = inK8 (e m) (k + 1) s2) := Lib.hid (HT.out (by rw [HEB.out, hto]; simp [hma, hbs]))
                        clear hto hma
                        go_wp2_with fail
                        clear ct hout3 hq1 hor
                        go_roundg g3
                        case measure => omega
                        case rel => exact ⟨k + 1, s4, by omega, by omega, by go_num, rfl, HV.out, HBK3.out, HBW3.out⟩
                · have hki3 : ¬ (k : Int) < 8 := by omega
                  obtain rfl : k = 8 := by omega
                  have HV : Hid (s3 = inI8 e b (m + 1) s) := Lib.hid (by rw [HS3.out]; exact HQ.out)
                  go_wp2_with fail
                  go_roundg g'
                  case measure => omega
                  case rel => exact ⟨m + 1, s3, by omega, by omega, by go_num, rfl, HV.out, HBK3.out, HBW3.out⟩
        · have hki2 : ¬ (m : Int) < 8 := by omega
          obtain rfl : m = 8 := by omega
          have HQ : Hid (s2 = rnd8 e b (n + 1) s0) := Lib.hid (by rw [HS2.out, HS.out]; rfl)
          go_wp2_with fail
          go_roundw
          case rel => exact ⟨n + 1, s2, by omega, by go_num, rfl, HQ.out, HBK2.out, HBW2.out⟩
          case measure => simp [intOf] <;> omega
    · have hki : ¬ (n : Int) < 8 := by omega
      obtain rfl : n = 8 := by omega
      have hand := shr_and s b hs256 hb
      have HQ : Hid (s.testBit b = reachB8 st bits out a b) := Lib.hid (by rw [HR.out, HS.out])
      cases ht : s.testBit b with
      | false =>
        rw [ht, if_neg (by simp)] at hand
        go_wp2_with fail
        go_ret
        exact ⟨by rw [← HQ.out, ht]; rfl, HBW.out⟩
      | true =>
        rw [ht, if_pos rfl] at hand
        go_wp2_with fail
        go_ret
        exact ⟨by rw [← HQ.out, ht]; rfl, HBW.out⟩
#print axioms reaches_any
end Go.Proofs.Ytkmacmeeinpncaa
/- The paths of small networks, plainly. No program is in sight. -/
namespace Go.Proofs.Ytkmacmeeinpncaa
set_option linter.unusedVariables false
theorem SmI.names {s : NS} {st : List Int} (h : SmI s st) : namesG s = names8 := by
  refine namesG_eq (l := names8) (by rw [h.nodes]) (by decide) (by rw [h.nodes]; decide)
theorem SmI.ix {s : NS} {st : List Int} (h : SmI s st) {a : Nat} (ha : a < 8) : ixN s (nm a) = a := by
  have e : names8.idxOf (nm a) = a := by
    have key : ∀ a, a < 8 → names8.idxOf (nm a) = a := by decide
    exact key a ha
  unfold ixN
  rw [h.names, e]
theorem SmI.mem {s : NS} {st : List Int} (h : SmI s st) {a : Nat} (ha : a < 8) : nm a ∈ s.nodes := by rw [h.nodes]; exact nm_mem ha
theorem SmI.fenB {s : NS} {st : List Int} (h : SmI s st) (x : Nm) : fenB s x = false := by unfold Go.Proofs.Ytkmacmeeinpncaa.fenB; rw [h.fen]; simp
theorem SmI.ends {s : NS} {st : List Int} (h : SmI s st) {a b : Nat} (ha : a < 8) (hb : b < 8) (hab : a ≠ b) : endsE s (nm a) (nm b) = 0 := by
  unfold endsE twoE bothE fenE
  rw [if_pos ⟨nm_named a ha, nm_named b hb, fun e => hab (nm_inj ha hb e)⟩, if_pos ⟨h.mem ha, h.mem hb⟩, h.fenB, h.fenB]
  rfl
theorem SmI.nmG {s : NS} {st : List Int} (h : SmI s st) (i : Nat) : (namesG s).getD i [] = nm i := by rw [h.names]; rfl
theorem SmI.len8 {s : NS} {st : List Int} (h : SmI s st) : s.nodes.length = 8 := by rw [h.nodes]; rfl
theorem SmI.edge {s : NS} {st : List Int} (h : SmI s st) {x : Int} {i j : Nat} (hh : (graphG s x).has i j = true) : i < 8 ∧ j < 8 ∧ i ≠ j ∧ x ≤ stG st i j ∧ pr8 i j ∈ s.pairs := by
  obtain ⟨h1, h2⟩ := has_lt s x hh
  rw [h.len8] at h1 h2
  rw [graphG_has s x i j (by rw [h.len8]; exact h1) (by rw [h.len8]; exact h2), h.nmG, h.nmG] at hh
  unfold rowE at hh
  simp only [Bool.and_eq_true, decide_eq_true_eq] at hh
  obtain ⟨⟨⟨⟨q1, q2⟩, _⟩, _⟩, q5⟩ := hh
  have hij : i ≠ j := fun e => q2 (by rw [e])
  have q1' : pr8 i j ∈ s.pairs := q1
  refine ⟨h1, h2, hij, ?_, q1'⟩
  rw [h.sl i j h1 h2 hij, if_pos q1']
  exact q5
theorem SmI.edge_mk {s : NS} {st : List Int} (h : SmI s st) {x : Int} {i j : Nat} (hi : i < 8) (hj : j < 8) (hij : i ≠ j) (hx : 1 ≤ x) (hs : x ≤ stG st i j) : (graphG s x).has i j = true := by
  rw [graphG_has s x i j (by rw [h.len8]; exact hi) (by rw [h.len8]; exact hj), h.nmG, h.nmG]
  have hm : pr8 i j ∈ s.pairs := by
    have := h.sl i j hi hj hij
    by_cases hm : pr8 i j ∈ s.pairs
    · exact hm
    · rw [if_neg hm] at this; omega
  have hst := h.sl i j hi hj hij
  rw [if_pos hm] at hst
  unfold rowE
  rw [h.fenB, h.fenB]
  simp only [Bool.not_false, Bool.and_true, Bool.and_eq_true, decide_eq_true_eq]
  refine ⟨⟨hm, fun e => hij (nm_inj hi hj e)⟩, ?_⟩
  show x ≤ (s.lk (pr8 i j)).free
  omega
theorem SmI.good {s : NS} {st : List Int} (h : SmI s st) {x : Int} {a b : Nat} (ha : a < 8) {p : List Nat} (hp : PathG (graphG s x) a b p) : GoodP st p a b x := by
  refine ⟨hp.len, hp.first, hp.last, hp.nodup, fun y hy => ?_, fun i hi => ?_⟩
  · have := hp.all_lt (show a < (graphG s x).n by show a < s.nodes.length; rw [h.len8]; exact ha) y hy
    have e : (graphG s x).n = 8 := h.len8
    omega
  · exact (h.edge (open_has (hp.chain i (Nat.zero_le _) hi)).1).2.2.2.1
theorem SmI.le256 {s : NS} {st : List Int} (h : SmI s st) {a b : Nat} (ha : a < 8) (hb : b < 8) (hab : a ≠ b) {x : Int} (hc : canB s (nm a) (nm b) x = true) : x ≤ 256 := by
  obtain ⟨p, hp⟩ := (can_iff (h.mem ha) (h.mem hb) (fun e => hab (nm_inj ha hb e)) x).1 hc
  have hl := hp.len
  obtain ⟨h1, h2, h3, h4, h5⟩ := h.edge (open_has (hp.chain 0 (Nat.le_refl _) (by omega))).1
  have h6 := h.sl _ _ h1 h2 h3
  rw [if_pos h5] at h6
  have := (h.pos _ h5).2
  omega
theorem SmI.route {s : NS} {st : List Int} (h : SmI s st) {a b : Nat} (ha : a < 8) (hb : b < 8) (hab : a ≠ b) {x : Int} (h1 : 1 ≤ x) (h2 : x ≤ 65536) : routeE s (nm a) (nm b) x = 0 := by
  unfold routeE amtE
  rw [h.ends ha hb hab, if_pos ⟨h1, h2⟩]
  rfl
theorem SmI.path {s : NS} {st : List Int} (h : SmI s st) {a b : Nat} (ha : a < 8) (hb : b < 8) (hab : a ≠ b) {x : Int} (hc : canB s (nm a) (nm b) x = true) : ∃ p, pathsG s x (nm a) (nm b) 1 = [p] ∧ GoodP st p a b x := by
  obtain ⟨p, h1, h2⟩ := paths_some (h.mem ha) (h.mem hb) (fun e => hab (nm_inj ha hb e)) x hc
  rw [h.ix ha, h.ix hb] at h2
  exact ⟨p, h1, h.good ha h2⟩
theorem SmI.row {s : NS} {st : List Int} (h : SmI s st) {w : World} {v : Value} {p : List Nat} (hr : RowAt w (namesG s) v p) : NmRow w v (p.map nm) := by
  obtain ⟨g, c, cs, h1, h2, h3, h4⟩ := hr
  refine ⟨g, c, cs, by rw [List.length_map]; exact h1, by rw [List.length_map]; exact h2, h3, fun i hi => ?_⟩
  rw [List.length_map] at hi
  rw [h4 i hi, h.nmG]
  simp only [List.getD_eq_getElem?_getD]
  rw [List.getElem?_map, List.getElem?_eq_getElem hi]
  rfl
#print axioms SmI.row
end Go.Proofs.Ytkmacmeeinpncaa
/- What reaches says: a set of relays that cuts. No program is in sight. -/
namespace Go.Proofs.Ytkmacmeeinpncaa
set_option linter.unusedVariables false
theorem SmI.open_iff {s : NS} {st : List Int} (h : SmI s st) {x : Int} (hx : 1 ≤ x) (a b i k : Nat) : (graphG s x).open i k a b = true ↔ i < 8 ∧ k < 8 ∧ i ≠ k ∧ x ≤ stG st i k ∧ k ≠ a ∧ i ≠ b := by
  constructor
  · intro ho
    obtain ⟨h1, _, h3, h4, _⟩ := open_has ho
    obtain ⟨e1, e2, e3, e4, _⟩ := h.edge h1
    exact ⟨e1, e2, e3, e4, h3, h4⟩
  · rintro ⟨e1, e2, e3, e4, e5, e6⟩
    refine open_mk (h.edge_mk e1 e2 e3 hx e4) ?_ e5 e6 (fun hh => by cases hh.1)
    show (List.replicate s.nodes.length false).getD k false = false
    rw [List.getD_eq_getElem?_getD, List.getElem?_replicate]
    split <;> rfl
theorem or_bit8 (s n j : Nat) : (s ||| 2 ^ n).testBit j = (s.testBit j || decide (n = j)) := by rw [Nat.testBit_or, Nat.testBit_two_pow]
theorem inK8_mono (e : Nat → Bool) (s j : Nat) (h : s.testBit j = true) : ∀ n, (inK8 e n s).testBit j = true
  | 0 => h
  | n + 1 => by
    have ih := inK8_mono e s j h n
    unfold inK8
    split
    · rw [or_bit8, ih]; rfl
    · exact ih
theorem inK8_do (e : Nat → Bool) (s k : Nat) (he : e k = true) : ∀ n, k < n → (inK8 e n s).testBit k = true
  | n + 1, h => by
    unfold inK8
    by_cases hk : k = n
    · subst hk; rw [he, if_pos rfl, or_bit8]; simp
    · have ih := inK8_do e s k he n (by omega)
      split
      · rw [or_bit8, ih]; rfl
      · exact ih
theorem inK8_inv (Q : Nat → Prop) (e : Nat → Bool) (s : Nat) (h0 : ∀ j, s.testBit j = true → Q j) : ∀ n, n ≤ 8 → (∀ k, k < 8 → e k = true → Q k) → ∀ j, (inK8 e n s).testBit j = true → Q j
  | 0, _, _ => h0
  | n + 1, hn, he => fun j hj => by
    unfold inK8 at hj
    split at hj
    · rename_i hen
      rw [or_bit8, Bool.or_eq_true, decide_eq_true_eq] at hj
      rcases hj with hj | rfl
      · exact inK8_inv Q e s h0 n (by omega) he j hj
      · exact he n (by omega) hen
    · exact inK8_inv Q e s h0 n (by omega) he j hj
theorem inI8_step (e : Nat → Nat → Bool) (b s j n : Nat) (h : (inI8 e b n s).testBit j = true) : (inI8 e b (n + 1) s).testBit j = true := by
  show (if (inI8 e b n s).testBit n && !decide (n = b) then inK8 (e n) 8 (inI8 e b n s) else inI8 e b n s).testBit j = true
  split
  · exact inK8_mono _ _ _ h 8
  · exact h
theorem inI8_mono (e : Nat → Nat → Bool) (b s j m : Nat) (h : (inI8 e b m s).testBit j = true) : ∀ n, (inI8 e b (m + n) s).testBit j = true
  | 0 => h
  | n + 1 => inI8_step e b s j (m + n) (inI8_mono e b s j m h n)
theorem inI8_inv (Q : Nat → Prop) (e : Nat → Nat → Bool) (b s : Nat) (h0 : ∀ j, s.testBit j = true → Q j) (hs : ∀ i k, i < 8 → k < 8 → Q i → i ≠ b → e i k = true → Q k) : ∀ n, n ≤ 8 → ∀ j, (inI8 e b n s).testBit j = true → Q j
  | 0, _ => h0
  | n + 1, hn => fun j hj => by
    have ih := inI8_inv Q e b s h0 hs n (by omega)
    unfold inI8 at hj
    split at hj
    · rename_i hc
      rw [Bool.and_eq_true, Bool.not_eq_true', decide_eq_false_iff_not] at hc
      exact inK8_inv Q (e n) _ ih 8 (by omega) (fun k hk hek => hs n k (by omega) hk (ih n hc.1) hc.2 hek) j hj
    · exact ih j hj
theorem rnd8_inv (Q : Nat → Prop) (e : Nat → Nat → Bool) (b s : Nat) (h0 : ∀ j, s.testBit j = true → Q j) (hs : ∀ i k, i < 8 → k < 8 → Q i → i ≠ b → e i k = true → Q k) : ∀ n j, (rnd8 e b n s).testBit j = true → Q j
  | 0 => h0
  | n + 1 => inI8_inv Q e b _ (rnd8_inv Q e b s h0 hs n) hs 8 (by omega)
theorem inI8_closed (e : Nat → Nat → Bool) (b s : Nat) (hf : inI8 e b 8 s = s) {i k : Nat} (hi : i < 8) (hk : k < 8) (hsi : s.testBit i = true) (hib : i ≠ b) (hek : e i k = true) : s.testBit k = true := by
  have key : ∀ m, m ≤ 8 → inI8 e b m s = s := fun m hm => by
    apply Nat.eq_of_testBit_eq
    intro j
    rw [Bool.eq_iff_iff]
    constructor
    · intro h
      have := inI8_mono e b s j m h (8 - m)
      rw [show m + (8 - m) = 8 by omega, hf] at this
      exact this
    · intro h
      have := inI8_mono e b s j 0 h m
      rwa [Nat.zero_add] at this
  have h1 := key (i + 1) (by omega)
  unfold inI8 at h1
  rw [key i (by omega), hsi] at h1
  have hd : decide (i = b) = false := by simp [hib]
  rw [hd] at h1
  simp only [Bool.not_false, Bool.and_self, if_true] at h1
  rw [← h1]
  exact inK8_do (e i) s k hek 8 hk
/-- How many of the first n bits are set. -/
def pc8 (s : Nat) : Nat → Nat
  | 0 => 0
  | n + 1 => pc8 s n + if s.testBit n then 1 else 0
def bits8 (s : Nat) : List Nat := (List.range 8).filter fun j => s.testBit j
theorem pc8_eq (s : Nat) : ∀ n, pc8 s n = ((List.range n).filter fun j => s.testBit j).length
  | 0 => rfl
  | n + 1 => by
    rw [List.range_succ, List.filter_append, List.length_append, ← pc8_eq s n]
    show pc8 s n + (if s.testBit n then 1 else 0) = _
    by_cases h : s.testBit n = true
    · simp [h]
    · simp [h]
theorem bits8_mem {s j : Nat} : j ∈ bits8 s ↔ j < 8 ∧ s.testBit j = true := by unfold bits8; rw [List.mem_filter, List.mem_range]
theorem bits8_nodup (s : Nat) : (bits8 s).Nodup := List.nodup_range.sublist List.filter_sublist
theorem bits8_len (s : Nat) : (bits8 s).length ≤ 8 := by
  have := List.length_filter_le (fun j => s.testBit j) (List.range 8)
  simpa [bits8] using this
theorem bit_lt8 {s j : Nat} (hs : s < 256) (h : s.testBit j = true) : j < 8 := by
  rcases Nat.lt_or_ge j 8 with h1 | h1
  · exact h1
  · have : s.testBit j = false := Nat.testBit_lt_two_pow (Nat.lt_of_lt_of_le (show s < 2 ^ 8 by omega) (Nat.pow_le_pow_right (by omega) h1))
    rw [this] at h; cases h
theorem grow8 (s s' : Nat) (hs' : s' < 256) (hm : ∀ j, s.testBit j = true → s'.testBit j = true) (hne : s' ≠ s) : (bits8 s).length + 1 ≤ (bits8 s').length := by
  have hex : ∃ j, s'.testBit j = true ∧ s.testBit j = false := by
    by_cases hex : ∃ j, s'.testBit j = true ∧ s.testBit j = false
    · exact hex
    · exfalso
      apply hne
      apply Nat.eq_of_testBit_eq
      intro j
      cases h1 : s.testBit j with
      | true => exact hm j h1
      | false =>
        cases h2 : s'.testBit j with
        | false => rfl
        | true => exact absurd ⟨j, h2, h1⟩ hex
  obtain ⟨j, h1, h2⟩ := hex
  have := nodup_sub_len (l := j :: bits8 s) (m := bits8 s') (List.nodup_cons.2 ⟨fun h => (by rw [bits8_mem, h2] at h; cases h.2), bits8_nodup s⟩) (fun x hx => by
    rcases List.mem_cons.1 hx with rfl | hx
    · exact bits8_mem.2 ⟨bit_lt8 hs' h1, h1⟩
    · obtain ⟨q1, q2⟩ := bits8_mem.1 hx
      exact bits8_mem.2 ⟨q1, hm x q2⟩)
  simpa using this
theorem rnd8_fix (e : Nat → Nat → Bool) (b s : Nat) (hs : s < 256) (h0 : 1 ≤ (bits8 s).length) : inI8 e b 8 (rnd8 e b 8 s) = rnd8 e b 8 s := by
  have key : ∀ n, inI8 e b 8 (rnd8 e b n s) = rnd8 e b n s ∨ n + 1 ≤ (bits8 (rnd8 e b n s)).length := by
    intro n
    induction n with
    | zero => exact .inr h0
    | succ n ih =>
      rcases ih with ih | ih
      · left
        show inI8 e b 8 (inI8 e b 8 (rnd8 e b n s)) = inI8 e b 8 (rnd8 e b n s)
        rw [ih, ih]
      · by_cases hf : inI8 e b 8 (rnd8 e b n s) = rnd8 e b n s
        · left
          show inI8 e b 8 (inI8 e b 8 (rnd8 e b n s)) = inI8 e b 8 (rnd8 e b n s)
          rw [hf, hf]
        · right
          have := grow8 (rnd8 e b n s) (inI8 e b 8 (rnd8 e b n s)) (rnd8_lt e b s hs (n + 1)) (fun j hj => by
            have := inI8_mono e b (rnd8 e b n s) j 0 hj 8
            exact this) hf
          show n + 1 + 1 ≤ (bits8 (inI8 e b 8 (rnd8 e b n s))).length
          omega
  rcases key 8 with h | h
  · exact h
  · have := bits8_len (rnd8 e b 8 s); omega
theorem eB8_iff {st : List Int} {bits : Int} {out a b i k : Nat} : eB8 st bits out a b i k = true ↔ bits ≤ stG st i k ∧ out.testBit k = false ∧ ¬(i = a ∧ k = b) := by
  unfold eB8
  simp only [Bool.and_eq_true, decide_eq_true_eq, Bool.not_eq_true', Bool.and_eq_false_imp, decide_eq_false_iff_not]
  constructor
  · rintro ⟨h1, h2, h3⟩; exact ⟨h1, h2, fun ⟨q1, q2⟩ => h3 q1 q2⟩
  · rintro ⟨h1, h2, h3⟩; exact ⟨h1, h2, fun q1 q2 => h3 ⟨q1, q2⟩⟩
theorem reach_cut {st : List Int} {bits : Int} {out a b : Nat} {g : PG} (hn : g.n = 8) (ho : ∀ i k, g.open i k a b = true ↔ i < 8 ∧ k < 8 ∧ i ≠ k ∧ bits ≤ stG st i k ∧ k ≠ a ∧ i ≠ b) (ha : a < 8) (hb : b < 8) (hab : a ≠ b) (hob : out.testBit b = false) :
    reachB8 st bits out a b = false ↔ CutsAll g a b (bits8 out) := by
  constructor
  · intro hr p hp3 hp0 hpl hplt hch
    by_cases hex : ∃ c ∈ bits8 out, c ∈ relays p
    · exact hex
    · exfalso
      have hs256 : 2 ^ a < 256 := pow_lt9 a ha
      have hfix := rnd8_fix (eB8 st bits out a b) b (2 ^ a) hs256 (List.length_pos_of_mem (bits8_mem.2 ⟨ha, by rw [Nat.testBit_two_pow]; simp⟩))
      unfold reachB8 at hr
      have hseen : ∀ i, i < p.length → (rnd8 (eB8 st bits out a b) b 8 (2 ^ a)).testBit (p.getD i 0) = true := by
        intro i
        induction i with
        | zero =>
          intro _
          rw [hp0]
          have m1 : ∀ n, (rnd8 (eB8 st bits out a b) b n (2 ^ a)).testBit a = true := fun n => by
            induction n with
            | zero => show (2 ^ a).testBit a = true; rw [Nat.testBit_two_pow]; simp
            | succ n ih => exact inI8_mono _ _ _ _ 0 ih 8
          exact m1 8
        | succ i ih =>
          intro hi
          have hop := hch i (Nat.zero_le _) hi
          obtain ⟨o1, o2, o3, o4, o5, o6⟩ := (ho _ _).1 hop
          refine inI8_closed _ _ _ hfix o1 o2 (ih (by omega)) o6 (eB8_iff.2 ⟨o4, ?_, ?_⟩)
          · rcases Nat.lt_or_ge (i + 1 + 1) p.length with h1 | h1
            · cases ht : out.testBit (p.getD (i + 1) 0) with
              | false => rfl
              | true => exact absurd ⟨_, bits8_mem.2 ⟨o2, ht⟩, relays_mem.2 ⟨i + 1, by omega, h1, by rw [List.getD_eq_getElem?_getD, List.getElem?_eq_getElem hi]; rfl⟩⟩ hex
            · have e : p.getD (i + 1) 0 = b := by rw [← hpl]; unfold lastN; rw [show p.length - 1 = i + 1 by omega]
              rw [e]; exact hob
          · rintro ⟨e1, e2⟩
            rcases Nat.lt_or_ge (i + 2) p.length with h1 | h1
            · exact ((ho _ _).1 (hch (i + 1) (Nat.zero_le _) h1)).2.2.2.2.2 e2
            · obtain ⟨j, rfl⟩ : ∃ j, i = j + 1 := ⟨i - 1, by omega⟩
              exact ((ho _ _).1 (hch j (Nat.zero_le _) (by omega))).2.2.2.2.1 e1
      have := hseen (p.length - 1) (by omega)
      have e : p.getD (p.length - 1) 0 = b := hpl
      rw [e, hr] at this
      cases this
  · intro hC
    cases hr : reachB8 st bits out a b with
    | false => rfl
    | true =>
      exfalso
      have hQ := rnd8_inv (fun v => v = a ∨ ∃ p : List Nat, 2 ≤ p.length ∧ p.getD 0 0 = a ∧ lastN p = v ∧ (∀ x ∈ p, x < 8) ∧ ChainF g a b p 0 ∧ (∀ i, 1 ≤ i → i < p.length → out.testBit (p.getD i 0) = false) ∧ (v = b → 3 ≤ p.length))
        (eB8 st bits out a b) b (2 ^ a) (fun j hj => by rw [Nat.testBit_two_pow, decide_eq_true_eq] at hj; exact .inl hj.symm) (by
          intro i k hi hk hQi hib hek
          obtain ⟨e1, e2, e3⟩ := eB8_iff.1 hek
          by_cases hka : k = a
          · exact .inl hka
          by_cases hik : i = k
          · rw [← hik]; exact hQi
          have hop : g.open i k a b = true := (ho i k).2 ⟨hi, hk, hik, e1, hka, hib⟩
          refine .inr ?_
          rcases hQi with rfl | ⟨p, p1, p2, p3, p4, p5, p6, p7⟩
          · refine ⟨[i, k], by simp, rfl, rfl, ?_, ?_, ?_, fun e => absurd ⟨rfl, e⟩ e3⟩
            · intro x hx
              simp only [List.mem_cons, List.not_mem_nil, or_false] at hx
              rcases hx with rfl | rfl <;> assumption
            · intro j _ hj
              simp only [List.length_cons, List.length_nil] at hj
              obtain rfl : j = 0 := by omega
              exact hop
            · intro j hj1 hj
              simp only [List.length_cons, List.length_nil] at hj
              obtain rfl : j = 1 := by omega
              exact e2
          · have hlk : ∀ j, j < p.length → (p ++ [k]).getD j 0 = p.getD j 0 := fun j hj => getD_app_left p [k] hj
            have hll : (p ++ [k]).getD p.length 0 = k := by
              rw [List.getD_eq_getElem?_getD, List.getElem?_append_right (Nat.le_refl _)]; simp
            refine ⟨p ++ [k], by simp; omega, by rw [hlk 0 (by omega)]; exact p2, lastN_snoc p k, ?_, ?_, ?_, fun _ => by simp; omega⟩
            · intro x hx
              rcases List.mem_append.1 hx with hx | hx
              · exact p4 x hx
              · rw [List.mem_singleton] at hx; omega
            · intro j _ hj
              rw [List.length_append, List.length_singleton] at hj
              rcases Nat.lt_or_ge (j + 1) p.length with h1 | h1
              · rw [hlk j (by omega), hlk (j + 1) h1]
                exact p5 j (Nat.zero_le _) h1
              · have ej : j + 1 = p.length := by omega
                rw [hlk j (by omega), ej, hll]
                have : p.getD j 0 = i := by rw [← p3]; unfold lastN; rw [show p.length - 1 = j by omega]
                rw [this]; exact hop
            · intro j hj1 hj
              rw [List.length_append, List.length_singleton] at hj
              rcases Nat.lt_or_ge j p.length with h1 | h1
              · rw [hlk j h1]; exact p6 j hj1 h1
              · obtain rfl : j = p.length := by omega
                rw [hll]; exact e2) 8 b hr
      rcases hQ with e | ⟨p, p1, p2, p3, p4, p5, p6, p7⟩
      · exact hab e.symm
      · obtain ⟨c, c1, c2⟩ := hC p (p7 rfl) p2 p3 (fun x hx => by rw [hn]; exact p4 x hx) p5
        obtain ⟨i, i1, i2, i3⟩ := relays_mem.1 c2
        have h1 := p6 i i1 (by omega)
        have h2 := (bits8_mem.1 c1).2
        rw [List.getD_eq_getElem?_getD, i3] at h1
        have h1' : out.testBit c = false := h1
        rw [h2] at h1'
        cases h1'
#print axioms reach_cut
end Go.Proofs.Ytkmacmeeinpncaa
/- The least cut and the most paths of a small network. No program is in sight. -/
namespace Go.Proofs.Ytkmacmeeinpncaa
set_option linter.unusedVariables false
def okSet (st : List Int) (x : Int) (a b n : Nat) : Bool := !n.testBit a && !n.testBit b && !reachB8 st x n a b
def leastN (st : List Int) (x : Int) (a b : Nat) : Nat → Nat
  | 0 => 8
  | n + 1 => if okSet st x a b n then min (leastN st x a b n) (pc8 n 8) else leastN st x a b n
theorem leastN_le {st : List Int} {x : Int} {a b n : Nat} (h : okSet st x a b n = true) : ∀ m, n < m → leastN st x a b m ≤ pc8 n 8
  | m + 1, hm => by
    unfold leastN
    by_cases hn : n = m
    · subst hn; rw [if_pos h]; exact Nat.min_le_right _ _
    · have ih := leastN_le h m (by omega)
      split
      · exact Nat.le_trans (Nat.min_le_left _ _) ih
      · exact ih
theorem pc8_le (s : Nat) : ∀ n, pc8 s n ≤ n
  | 0 => Nat.le_refl _
  | n + 1 => by
    have := pc8_le s n
    unfold pc8
    split <;> omega
theorem leastN_8 (st : List Int) (x : Int) (a b : Nat) : ∀ m, leastN st x a b m ≤ 8
  | 0 => Nat.le_refl _
  | m + 1 => by
    have ih := leastN_8 st x a b m
    unfold leastN
    split
    · exact Nat.le_trans (Nat.min_le_left _ _) ih
    · exact ih
theorem leastN_skip {st : List Int} {x : Int} {a b m : Nat} (h : okSet st x a b m = false) : leastN st x a b (m + 1) = leastN st x a b m := by
  show (if okSet st x a b m then _ else _) = _
  rw [h]; rfl
theorem leastN_take {st : List Int} {x : Int} {a b m : Nat} (h : okSet st x a b m = true) : leastN st x a b (m + 1) = min (leastN st x a b m) (pc8 m 8) := by
  show (if okSet st x a b m then _ else _) = _
  rw [h]; rfl
theorem leastN_ex (st : List Int) (x : Int) (a b : Nat) : ∀ m, leastN st x a b m = 8 ∨ ∃ n, n < m ∧ okSet st x a b n = true ∧ leastN st x a b m = pc8 n 8
  | 0 => .inl rfl
  | m + 1 => by
    have ih := leastN_ex st x a b m
    unfold leastN
    split
    · rename_i h
      by_cases hle : leastN st x a b m ≤ pc8 m 8
      · rw [Nat.min_eq_left hle]
        rcases ih with ih | ⟨n, h1, h2, h3⟩
        · exact .inl ih
        · exact .inr ⟨n, by omega, h2, h3⟩
      · rw [Nat.min_eq_right (by omega)]
        exact .inr ⟨m, by omega, h, rfl⟩
    · rcases ih with ih | ⟨n, h1, h2, h3⟩
      · exact .inl ih
      · exact .inr ⟨n, by omega, h2, h3⟩
theorem okSet_iff {s : NS} {st : List Int} (h : SmI s st) {x : Int} (hx : 1 ≤ x) {a b : Nat} (ha : a < 8) (hb : b < 8) (hab : a ≠ b) (n : Nat) :
    okSet st x a b n = true ↔ n.testBit a = false ∧ n.testBit b = false ∧ CutsAll (graphG s x) a b (bits8 n) := by
  unfold okSet
  simp only [Bool.and_eq_true, Bool.not_eq_true']
  constructor
  · rintro ⟨⟨h1, h2⟩, h3⟩
    exact ⟨h1, h2, (reach_cut (show (graphG s x).n = 8 from h.len8) (h.open_iff hx a b) ha hb hab h2).1 h3⟩
  · rintro ⟨h1, h2, h3⟩
    exact ⟨⟨h1, h2⟩, (reach_cut (show (graphG s x).n = 8 from h.len8) (h.open_iff hx a b) ha hb hab h2).2 h3⟩
theorem SmI.open_ab {s : NS} {st : List Int} (h : SmI s st) {x : Int} (hx : 1 ≤ x) {a b : Nat} (ha : a < 8) (hb : b < 8) (hab : a ≠ b) : (if (graphG s x).open a b a b = true then 1 else 0 : Nat) = if x ≤ stG st a b then 1 else 0 := by
  by_cases hs : x ≤ stG st a b
  · rw [if_pos hs, if_pos ((h.open_iff hx a b a b).2 ⟨ha, hb, hab, hs, fun e => hab e.symm, hab⟩)]
  · rw [if_neg hs, if_neg (fun ho => hs ((h.open_iff hx a b a b).1 ho).2.2.2.1)]
theorem all_cuts (g : PG) (a b : Nat) : CutsAll g a b (List.range g.n) := fun p h3 _ _ hlt _ => by
  have h1 : p[1]? = some p[1] := List.getElem?_eq_getElem (by omega)
  exact ⟨p[1], List.mem_range.2 (hlt _ (List.getElem_mem _)), relays_mem.2 ⟨1, by omega, by omega, h1⟩⟩
theorem SmI.most_eq {s : NS} {st : List Int} (h : SmI s st) {x : Int} {a b : Nat} (ha : a < 8) (hb : b < 8) (k : Nat) : mostG s x (nm a) (nm b) k = countG (graphG s x) a b k := by
  unfold mostG; rw [h.ix ha, h.ix hb]
/-- MENGER, on a small network. -/
theorem SmI.menger {s : NS} {st : List Int} (h : SmI s st) {x : Int} (hx : 1 ≤ x) {a b : Nat} (ha : a < 8) (hb : b < 8) (hab : a ≠ b) :
    ∃ C, CutsAll (graphG s x) a b C ∧ C.Nodup ∧ (∀ c ∈ C, c < 8 ∧ c ≠ a ∧ c ≠ b) ∧ C.length + (if x ≤ stG st a b then 1 else 0) = countG (graphG s x) a b 16 := by
  have hn : (graphG s x).n = 8 := h.len8
  obtain ⟨ps, h1, h2, h3, h4⟩ := countG_says (g := graphG s x) (s := a) (t := b) (by omega) (by omega) hab 16
  have hz := h.open_ab hx ha hb hab
  have hb1 := h1.bound (by omega) (all_cuts _ a b)
  rw [List.length_range, hn, hz] at hb1
  rcases h4 with h4 | ⟨C, c1, c2, c3, c4⟩
  · exfalso
    split at hb1 <;> omega
  · refine ⟨C, c1, c2, fun c hc => ?_, ?_⟩
    · have := c3 c hc; rw [hn] at this; exact this
    · rw [hz] at c4
      have := h1.bound (by omega) c1
      rw [hz] at this
      omega
theorem least_most {s : NS} {st : List Int} (h : SmI s st) {x : Int} (hx : 1 ≤ x) {a b : Nat} (ha : a < 8) (hb : b < 8) (hab : a ≠ b) :
    leastN st x a b 256 + (if x ≤ stG st a b then 1 else 0) = mostG s x (nm a) (nm b) 16 := by
  have hn : (graphG s x).n = 8 := h.len8
  rw [h.most_eq ha hb]
  obtain ⟨ps, p1, p2, _, _⟩ := countG_says (g := graphG s x) (s := a) (t := b) (by omega) (by omega) hab 16
  obtain ⟨C, c1, c2, c3, c4⟩ := h.menger hx ha hb hab
  have hz := h.open_ab hx ha hb hab
  have hbit : ∀ i, (maskN C).testBit i = decide (i ∈ C) := maskN_bit C
  have hok : okSet st x a b (maskN C) = true := (okSet_iff h hx ha hb hab _).2 ⟨by rw [hbit, decide_eq_false_iff_not]; exact fun hm => (c3 a hm).2.1 rfl, by rw [hbit, decide_eq_false_iff_not]; exact fun hm => (c3 b hm).2.2 rfl, fun p q1 q2 q3 q4 q5 => by
    obtain ⟨c, e1, e2⟩ := c1 p q1 q2 q3 q4 q5
    exact ⟨c, bits8_mem.2 ⟨(c3 c e1).1, by rw [hbit, decide_eq_true_eq]; exact e1⟩, e2⟩⟩
  have hle := leastN_le hok 256 (maskN_lt C fun c hc => (c3 c hc).1)
  have hpc : pc8 (maskN C) 8 ≤ C.length := by
    rw [pc8_eq]
    exact nodup_sub_len (bits8_nodup _) fun c hc => by
      have := (bits8_mem.1 hc).2
      rw [hbit, decide_eq_true_eq] at this
      exact this
  have h7 : C.length + 1 ≤ 8 := by
    have := nodup_sub_len (l := a :: C) (m := List.range 8) (List.nodup_cons.2 ⟨fun hm => (c3 a hm).2.1 rfl, c2⟩) (fun c hc => by
      rw [List.mem_range]
      rcases List.mem_cons.1 hc with rfl | hc
      · exact ha
      · exact (c3 c hc).1)
    simpa using this
  rcases leastN_ex st x a b 256 with h8 | ⟨n, n1, n2, n3⟩
  · omega
  · obtain ⟨_, _, hcut⟩ := (okSet_iff h hx ha hb hab n).1 n2
    have := p1.bound (by omega) hcut
    rw [hz] at this
    have e : pc8 n 8 = (bits8 n).length := pc8_eq n 8
    omega
theorem Disj.take {g : PG} {s t : Nat} {ps : List (List Nat)} (h : Disj g s t ps) (k : Nat) : Disj g s t (ps.take k) := ⟨fun p hp => h.each p (List.mem_of_mem_take hp), h.apart.sublist (List.take_sublist _ _)⟩
theorem SmI.paths_all {s : NS} {st : List Int} (h : SmI s st) {x : Int} (hx : 1 ≤ x) {a b : Nat} (ha : a < 8) (hb : b < 8) (hab : a ≠ b) {k : Nat} (hk : k ≤ mostG s x (nm a) (nm b) 16) :
    (pathsG s x (nm a) (nm b) k).length = k ∧ Disj (graphG s x) a b (pathsG s x (nm a) (nm b) k) := by
  have hn : (graphG s x).n = 8 := h.len8
  rw [h.most_eq ha hb] at hk
  obtain ⟨ps, p1, p2, _, _⟩ := countG_says (g := graphG s x) (s := a) (t := b) (by omega) (by omega) hab 16
  have h1 := (countG_iff (g := graphG s x) (s := a) (t := b) (by omega) (by omega) hab k).2 ⟨ps.take k, p1.take k, by rw [List.length_take]; omega⟩
  unfold pathsG chooseG
  rw [h.ix ha, h.ix hb, if_neg (by omega)]
  exact chooseL_full (g := graphG s x) (s := a) (t := b) (by omega) (by omega) hab k (graphG s x) rfl (graphG_out s x) h1
theorem SmI.paths_no {s : NS} {st : List Int} (h : SmI s st) {x : Int} (hx : 1 ≤ x) {a b : Nat} (ha : a < 8) (hb : b < 8) (hab : a ≠ b) {k : Nat} (hk : mostG s x (nm a) (nm b) 16 < k) : pathsG s x (nm a) (nm b) k = [] := by
  have hn : (graphG s x).n = 8 := h.len8
  rw [h.most_eq ha hb] at hk
  unfold pathsG chooseG
  rw [h.ix ha, h.ix hb, if_pos]
  rcases Nat.lt_or_ge (countG (graphG s x) a b k) k with h1 | h1
  · exact h1
  · exfalso
    obtain ⟨ps, q1, q2⟩ := (countG_iff (g := graphG s x) (s := a) (t := b) (by omega) (by omega) hab k).1 h1
    obtain ⟨C, c1, _, _, c4⟩ := h.menger hx ha hb hab
    have := q1.bound (by omega) c1
    rw [h.open_ab hx ha hb hab] at this
    omega
theorem SmI.pathsE0 {s : NS} {st : List Int} (h : SmI s st) {a b : Nat} (ha : a < 8) (hb : b < 8) (hab : a ≠ b) {x : Int} (h1 : 1 ≤ x) (h2 : x ≤ 65536) : routeE s (nm a) (nm b) x = 0 := h.route ha hb hab h1 h2
/-- The relays of some paths as bits. -/
def usedN (ps : List (List Nat)) : Nat := maskN (ps.flatMap relays)
def strB (ps : List (List Nat)) : Bool := ps.any fun p => decide (p.length = 2)
theorem usedN_snoc (ps : List (List Nat)) (p : List Nat) : usedN (ps ++ [p]) = usedN ps ||| maskN (relays p) := by
  apply Nat.eq_of_testBit_eq
  intro i
  unfold usedN
  rw [Nat.testBit_or, maskN_bit, maskN_bit, maskN_bit]
  simp [List.flatMap_append]
theorem strB_snoc (ps : List (List Nat)) (p : List Nat) : strB (ps ++ [p]) = (strB ps || decide (p.length = 2)) := by unfold strB; simp
theorem relays_lt {g : PG} {s t : Nat} {p : List Nat} (h : PathG g s t p) (hs : s < g.n) : ∀ x ∈ relays p, x < g.n := fun x hx => by
  obtain ⟨i, _, _, h3⟩ := relays_mem.1 hx
  exact h.all_lt hs x (List.mem_of_getElem? h3)
theorem mask_zero {p : List Nat} (h : 2 ≤ p.length) : (maskN (relays p) = 0) ↔ p.length = 2 := by
  constructor
  · intro h0
    rcases Nat.lt_or_ge 2 p.length with h1 | h1
    · exfalso
      have hm : p[1] ∈ relays p := relays_mem.2 ⟨1, by omega, by omega, List.getElem?_eq_getElem (by omega)⟩
      have := maskN_bit (relays p) p[1]
      rw [h0] at this
      simp [hm] at this
    · omega
  · intro h2
    have : relays p = [] := by unfold relays; rw [h2]; simp
    rw [this]; rfl
theorem Disj.step {g : PG} {s t : Nat} {ps : List (List Nat)} (h : Disj g s t ps) {i : Nat} {p : List Nat} (hp : ps[i]? = some p) : (maskN (relays p) &&& usedN (ps.take i)) = 0 ∧ (p.length = 2 → strB (ps.take i) = false) := by
  have hlt := (List.getElem?_eq_some_iff.1 hp).1
  have hpe : ps[i] = p := (List.getElem?_eq_some_iff.1 hp).2
  have hpair : ∀ q ∈ ps.take i, (∀ x ∈ relays q, x ∉ relays p) ∧ ¬(q.length = 2 ∧ p.length = 2) := fun q hq => by
    obtain ⟨j, hj⟩ := List.getElem?_of_mem hq
    rw [List.getElem?_take] at hj
    split at hj
    · rename_i hji
      have hjl := (List.getElem?_eq_some_iff.1 hj).1
      have := (List.pairwise_iff_getElem.1 h.apart) j i hjl hlt hji
      rw [(List.getElem?_eq_some_iff.1 hj).2, hpe] at this
      exact this
    · cases hj
  constructor
  · apply Nat.eq_of_testBit_eq
    intro k
    rw [Nat.testBit_and, Nat.zero_testBit]
    unfold usedN
    rw [maskN_bit, maskN_bit]
    by_cases hk : k ∈ relays p
    · have : k ∉ (ps.take i).flatMap relays := fun hm => by
        obtain ⟨q, hq, hkq⟩ := List.mem_flatMap.1 hm
        exact (hpair q hq).1 k hkq hk
      simp [this]
    · simp [hk]
  · intro h2
    unfold strB
    rw [List.any_eq_false]
    intro q hq
    have := (hpair q hq).2
    simpa using fun e => this ⟨e, h2⟩
theorem usedN_lt {g : PG} {s t : Nat} {ps : List (List Nat)} (h : Disj g s t ps) (hs : s < g.n) (hn : g.n = 8) (i : Nat) : usedN (ps.take i) < 256 := maskN_lt _ fun x hx => by
  obtain ⟨q, hq, hxq⟩ := List.mem_flatMap.1 hx
  have := relays_lt (h.each q (List.mem_of_mem_take hq)) hs x hxq
  omega
#print axioms least_most
end Go.Proofs.Ytkmacmeeinpncaa
/- The contract of Paths. Conditions: as each statement says. -/
namespace Go.Proofs.Ytkmacmeeinpncaa
open Go.RowKit
set_option linter.unusedVariables false
def countE (k : Int) : Int := if 1 ≤ k ∧ k ≤ 4 then 0 else 3
def pathsE (s : NS) (a b : Nm) (bits k : Int) : Int := firstE [endsE s a b, amtE bits, countE k]
/-- What Paths hands back. -/
def PathsP (s : NS) (a b : Nm) (bits k : Int) (w : World) (e : Ending) (w' : World) : Prop :=
  (∃ v z, e = .returned (.tuple #[v, .int .i64 z]) ∧ ((pathsE s a b bits k ≠ 0 ∧ z = pathsE s a b bits k ∧ v = .slice none 0 0) ∨ (pathsE s a b bits k = 0 ∧ pathsG s bits a b k.toNat = [] ∧ z = 21 ∧ v = .slice none 0 0) ∨
    (pathsE s a b bits k = 0 ∧ pathsG s bits a b k.toNat ≠ [] ∧ z = 0 ∧ ∃ n₀, OutAt w' n₀ (namesG s) v (pathsG s bits a b k.toNat)))) ∧ Below w.heap.size w w'
set_option maxRecDepth 100000 in
set_option maxHeartbeats 4000000 in
theorem Paths_any {w : World} {N : Nat} {s : NS} {bn bl : Nat} {vh vs : Value} (h : NetAt w N s bn bl vh vs) (a b : Nm) (bits k : Int) (ha : a.length ≤ maxLen) (hb : b.length ≤ maxLen) :
    Calls Try.prog 10 #[.pointer (some ⟨N, 0, none⟩), encS a, encS b, .int .i64 bits, .int .i64 k] w (PathsP s a b bits k w) := by
  have HE := Lib.hid (ends_any h a b ha hb)
  have HM := Lib.hid (fun W => amount_any bits W)
  have HU : Hid (∀ (bad : Bool) W, bad = (!decide (1 ≤ k ∧ k ≤ 4)) → Calls Try.prog 23 #[.bool bad, .int .i64 3] W (CondP (countE k) W)) := Lib.hid fun bad W hb => unless_P _ 3 _ W (by unfold countE; rw [hb]; by_cases hk : 1 ≤ k ∧ k ≤ 4 <;> simp [hk])
  have HA : Hid (∀ (W : World) (f1 f2 f3 : Value) (g : Nat), Below w.heap.size w W → CondOK W f1 (endsE s a b) → CondOK W f2 (amtE bits) → CondOK W f3 (countE k) → W.heap.size = g →
      Calls Try.prog 17 #[.pointer (some ⟨N, 0, none⟩), .slice (some ⟨g, 0, none⟩) 3 3] (W.alloc (.cells #[f1, f2, f3] 55)) (AnsN (pathsE s a b bits k) (W.alloc (.cells #[f1, f2, f3] 55)))) := Lib.hid fun W f1 f2 f3 g hW q1 q2 q3 hg => by
    refine ask_made (h.far hW) [(f1, endsE s a b), (f2, amtE bits), (f3, countE k)] _ rfl 3 rfl (by omega) ?_ g hg
    intro y hy
    simp only [List.mem_cons, List.not_mem_nil, or_false] at hy
    rcases hy with rfl | rfl | rfl
    · exact q1
    · exact q2
    · exact q3
  have H := Lib.hid h
  have HZ : Hid (pathsE s a b bits k = 0 → endsE s a b = 0 ∧ amtE bits = 0 ∧ countE k = 0) := Lib.hid firstE3
  have HKR : Hid (countE k = 0 → 1 ≤ k ∧ k ≤ 4) := Lib.hid fun hk => by
    unfold countE at hk
    split at hk
    · assumption
    · omega
  generalize hz : pathsE s a b bits k = zv at *
  have HZV := Lib.hid hz
  clear h hz
  go_enter Try.func10, Try.ntmps10
  go_wp2_with fail
  refine HE.out.mono ?_
  rintro e w3 ⟨f3, rfl, k3, b3⟩
  obtain ⟨fn3, cap3, rfl, _⟩ := id k3
  go_wp2_with fail
  refine (HM.out _).mono ?_
  rintro e w4 ⟨f4, rfl, k4, b4⟩
  obtain ⟨fn4, cap4, rfl, _⟩ := id k4
  go_wp2_with fail
  all_goals
    refine (HU.out _ _ (by first | (simp; omega) | (by_cases h1 : k < 1 <;> by_cases h4 : 4 < k <;> simp [h1, h4] <;> omega))).mono ?_
    rintro e wu ⟨fu, rfl, ku, bu⟩
    obtain ⟨fnu, capu, rfl, _⟩ := id ku
    go_wp2_with fail
    refine (HA.out wu _ _ _ _ (bnextK (bnextK b3 b4) bu) ((k3.far b4).far bu) (k4.far bu) ku rfl).mono ?_
    rintro e w5 ⟨rfl, b5⟩
    have HB5 : Hid (Below w.heap.size w w5) := Lib.hid (bnextK (bnextK (bnextK (bnextK b3 b4) bu) (below_alloc _ _)) b5)
    clear b3 b4 b5 bu k3 k4 ku HA HM HE HU
    by_cases h0 : zv = 0
    · obtain ⟨e1, e2, e3⟩ := HZ.out h0
      obtain ⟨_, _, hab, hma, hmb, _, _⟩ := endsE_zero e1
      have hN5 := H.out.far HB5.out
      have HG := Lib.hid (graph_any hN5 bits (by have := List.length_pos_of_mem hma; omega))
      have HOK := Lib.hid H.out.ok
      obtain ⟨kn, rfl⟩ : ∃ n : Nat, k = (n : Int) := ⟨k.toNat, by have := HKR.out e3; omega⟩
      have hk1 : 1 ≤ kn := by have := HKR.out e3; omega
      have hk4 : kn ≤ 4 := by have := HKR.out e3; omega
      subst h0
      clear hN5 e1 e2 e3
      go_wp2_with fail
      refine HG.out.mono ?_
      clear HG
      rintro e w6 ⟨G, rfl, hgx, hb6⟩
      have HC := Lib.hid (choose_names hgx HOK.out a b hma hmb hab kn (by omega) (by omega))
      have HB6 := Lib.hid (bnextK HB5.out hb6)
      clear hgx hb6
      go_wp2_with fail
      refine HC.out.mono ?_
      clear HC
      rintro e w7 ⟨⟨v, rfl, h1, h2⟩, hb7⟩
      have HB7 := Lib.hid (bnextK HB6.out hb7)
      have HSZ := Lib.hid HB6.out.size
      by_cases hp : pathsG s bits a b kn = []
      · obtain rfl := h1 hp
        have hq := eql_nil_rows
        clear h1 h2 hb7
        go_wp2_with fail
        refine bodyPost_ret (a := Act.mk _ _) (results_tmp2 rfl _ _ _) rfl ?_
        exact ⟨⟨_, _, rfl, .inr (.inl ⟨HZV.out, by rw [Int.toNat_natCast]; exact hp, rfl, rfl⟩)⟩, HB7.out⟩
      · have HO := Lib.hid (h2 hp)
        obtain ⟨g, cap, cur, rfl, hcap, _, hbk, hrows⟩ := (h2 hp).slice hp
        have hq := eql_some_rows g
        have HP := Lib.hid hp
        generalize (pathsG s bits a b kn).length = ln at *
        clear h1 h2 hb7 hbk hrows hp
        go_wp2_with fail
        refine bodyPost_ret (a := Act.mk _ _) (results_tmp2 rfl _ _ _) rfl ?_
        exact ⟨⟨_, _, rfl, .inr (.inr ⟨HZV.out, by rw [Int.toNat_natCast]; exact HP.out, rfl, ⟨_, by rw [Int.toNat_natCast]; exact HO.out⟩⟩)⟩, HB7.out⟩
    · have hb0 : (zv != 0) = true := by simp [h0]
      go_wp2_with fail
      refine bodyPost_ret (a := Act.mk _ _) (results_tmp2 rfl _ _ _) rfl ?_
      exact ⟨⟨_, _, rfl, .inl ⟨by rw [HZV.out]; exact h0, HZV.out.symm, rfl⟩⟩, HB5.out⟩
#print axioms Paths_any
end Go.Proofs.Ytkmacmeeinpncaa
/- The contract of works. Conditions: none. -/
namespace Go.Proofs.Ytkmacmeeinpncaa
open Go.RowKit
set_option linter.unusedVariables false
set_option maxRecDepth 100000 in
set_option maxHeartbeats 4000000 in
theorem works09_any (w : World) : Calls Try.prog 8 #[] w fun e w' => e = .returned (.bool true) ∧ Below w.heap.size w w' := by
  go_enter Try.func8, Try.ntmps8
  go_wp2_with fail
  refine (example_any _).mono ?_
  rintro e w1 ⟨N, bn, bl, rfl, hn⟩
  have HN := Lib.hid hn
  have HR := Lib.hid (Route_any hn.1 nA nD 50 (lenN _) (lenN _))
  clear hn
  go_wp2_with fail
  refine HR.out.mono ?_
  clear HR
  rintro e w2 ⟨⟨v, z, rfl, h1⟩, hb2⟩
  have hx : z = 0 ∧ RowAt w2 (namesG exS) v [0, 1, 3] := by
    rcases h1 with ⟨q1, _⟩ | ⟨_, q2, _⟩ | ⟨_, p, l, q2, q3, q4⟩
    · exact absurd ex_routeE q1
    · rw [ex_paths] at q2; cases q2
    · rw [ex_paths] at q2
      injection q2 with q2 _
      subst q2
      exact ⟨q3, q4⟩
  obtain ⟨rfl, hrow⟩ := hx
  obtain ⟨h, c, cs, rfl, hc, hbk, hcs⟩ := hrow
  have hN2 := HN.out.far hb2
  have HB2 := Lib.hid hN2.2.1
  have HM := Lib.hid (Most_any hN2.1 nA nD 10 (lenN _) (lenN _))
  have e1 := hcs 1 (by simp)
  rw [names_ex] at e1
  change cs[1]? = some (.string ⟨#[98]⟩) at e1
  have HBK := Lib.hid hbk
  clear h1 hb2 hN2 hcs hbk HN
  go_wp2_with fail
  refine HM.out.mono ?_
  clear HM
  rintro e w3 ⟨⟨m, z, rfl, hz, hm⟩, hb3⟩
  rw [ex_routeE10] at hz hm
  rw [if_pos rfl, ex_mostG] at hm
  subst hz
  have hm3 : m = 3 := hm
  subst hm3
  have HB3 : Hid (Below w.heap.size w w3) := Lib.hid (bnextK HB2.out hb3)
  have ck := (HBK.out.past hb3 HBK.out.lt).cell 1
  rw [e1] at ck
  have hl3 : ([0, 1, 3] : List Nat).length = 3 := rfl
  clear hb3 e1 hm HBK
  simp only [List.length_cons, List.length_nil, Nat.zero_add, Nat.reduceAdd] at hc
  go_wp2_with fail
  go_ret
  exact ⟨rfl, HB3.out⟩
#print axioms works09_any
end Go.Proofs.Ytkmacmeeinpncaa
/- The contract of Widest. Conditions: as the statement says. -/
namespace Go.Proofs.Ytkmacmeeinpncaa
open Go.RowKit
set_option linter.unusedVariables false
/-- What Widest hands back. -/
def WidP (s : NS) (a b : Nm) (w : World) (e : Ending) (w' : World) : Prop :=
  (∃ m z : Int, e = .returned (.tuple #[.int .i64 m, .int .i64 z]) ∧ z = endsE s a b ∧ (endsE s a b = 0 → 0 ≤ m ∧ m ≤ 65536 ∧ (m = 0 ∨ canB s a b m = true) ∧ ∀ x : Int, m < x → x ≤ 65536 → canB s a b x = false)) ∧ Below w.heap.size w w'
set_option maxRecDepth 100000 in
set_option maxHeartbeats 4000000 in
theorem Widest_any {w : World} {N : Nat} {s : NS} {bn bl : Nat} {vh vs : Value} (h : NetAt w N s bn bl vh vs) (a b : Nm) (ha : a.length ≤ maxLen) (hb : b.length ≤ maxLen) :
    Calls Try.prog 12 #[.pointer (some ⟨N, 0, none⟩), encS a, encS b] w (WidP s a b w) := by
  have HE := Lib.hid (ends_any h a b ha hb)
  have HA : Hid (∀ (W : World) (f1 : Value) (g : Nat), Below w.heap.size w W → CondOK W f1 (endsE s a b) → W.heap.size = g →
      Calls Try.prog 17 #[.pointer (some ⟨N, 0, none⟩), .slice (some ⟨g, 0, none⟩) 1 1] (W.alloc (.cells #[f1] 55)) (AnsN (firstE [endsE s a b]) (W.alloc (.cells #[f1] 55)))) := Lib.hid fun W f1 g hW q1 hg => by
    refine ask_made (h.far hW) [(f1, endsE s a b)] _ rfl 1 rfl (by omega) ?_ g hg
    intro y hy
    simp only [List.mem_cons, List.not_mem_nil, or_false] at hy
    subst hy
    exact q1
  have H := Lib.hid h
  have hf1 : ∀ x : Int, firstE [x] = x := fun x => by unfold firstE; split <;> simp_all [firstE]
  rw [hf1] at HA
  have HZE : Hid (endsE s a b = endsE s a b) := Lib.hid rfl
  generalize hz : endsE s a b = zv at *
  have HZV := Lib.hid hz
  clear h hz hf1
  go_enter Try.func12, Try.ntmps12
  go_wp2_with fail
  refine HE.out.mono ?_
  rintro e w3 ⟨f3, rfl, k3, b3⟩
  obtain ⟨fn3, cap3, rfl, _⟩ := id k3
  go_wp2_with fail
  refine (HA.out w3 _ _ b3 k3 rfl).mono ?_
  rintro e w5 ⟨rfl, b5⟩
  have HB5 : Hid (Below w.heap.size w w5) := Lib.hid (bnextK (bnextK b3 (below_alloc _ _)) b5)
  clear b3 b5 k3 HA HE
  by_cases h0 : zv = 0
  · obtain ⟨_, _, hab, hma, hmb, _, _⟩ := endsE_zero (HZV.out.trans h0)
    have HMA := Lib.hid hma; have HMB := Lib.hid hmb; have HAB := Lib.hid hab
    clear hma hmb hab HZE
    subst h0
    go_wp2_with fail
    go_loopw [9, 10, 11] (fun lo hi _ wr => ∃ l h : Int, lo = .int .i64 l ∧ hi = .int .i64 h ∧ 0 ≤ l ∧ l ≤ h ∧ h ≤ 65536 ∧ (l = 0 ∨ canB s a b l = true) ∧ (∀ x : Int, h < x → x ≤ 65536 → canB s a b x = false) ∧ Below w.heap.size w wr) (fun lo hi _ _ => (intOf hi - intOf lo).toNat)
    case atStart => exact ⟨0, 65536, rfl, rfl, by omega, by omega, by omega, .inl rfl, fun x h1 h2 => by omega, HB5.out⟩
    case round =>
      obtain ⟨l, h, rfl, rfl, hl0, hlh, hh, hcl, hch, hbw⟩ := hrel
      obtain ⟨wa, rfl⟩ : ∃ z : World, z = wr := ⟨_, rfl⟩
      have HCL := Lib.hid hcl; have HCH := Lib.hid hch; have HBW := Lib.hid hbw
      clear hcl hch hbw HB5
      by_cases hlt : l < h
      · obtain ⟨m, hm⟩ : ∃ m : Int, m = (l + h + 1) / 2 := ⟨_, rfl⟩
        have hq : Int.tdiv (l + h + 1) 2 = m := by rw [Int.tdiv_eq_ediv_of_nonneg (by omega), hm]
        have hm1 : l < m ∧ m ≤ h := by omega
        have hw1 : IntKind.i64.wrap (l + h) = l + h := IntWalk.i64_in _ ⟨by omega, by omega⟩
        have hw2 : IntKind.i64.wrap (l + h + 1) = l + h + 1 := IntWalk.i64_in _ ⟨by omega, by omega⟩
        have hw3 : IntKind.i64.wrap m = m := IntWalk.i64_in _ ⟨by omega, by omega⟩
        have HM1 := Lib.hid hm1
        have HG := Lib.hid (graph_any (H.out.far HBW.out) m (by have := List.length_pos_of_mem HMA.out; omega))
        clear hm
        go_wp2_with fail
        refine HG.out.mono ?_
        clear HG
        rintro e w6 ⟨G, rfl, hgx, hb6⟩
        have HC := Lib.hid (flow_names hgx H.out.ok a b HMA.out HMB.out HAB.out 1 (by omega))
        have HB6 := Lib.hid (bnextK HBW.out hb6)
        clear hgx hb6
        go_wp2_with fail
        refine HC.out.mono ?_
        clear HC
        rintro e w7 ⟨⟨z, hz, rfl⟩, hb7⟩
        have HB7 := Lib.hid (bnextK HB6.out hb7)
        have HZ7 := Lib.hid hz
        clear hz hb7
        by_cases h1 : z = 1
        · subst h1
          have HCM : Hid (canB s a b m = true) := Lib.hid (by unfold canB; rw [decide_eq_true_eq]; have := HZ7.out; omega)
          go_wp2_with fail
          go_roundw
          case rel => exact ⟨m, h, rfl, rfl, by omega, by omega, by omega, .inr HCM.out, HCH.out, HB7.out⟩
          case measure => simp [intOf]; omega
        · have h1b : (z == 1) = false := by simp [h1]
          have HCM : Hid (canB s a b m = false) := Lib.hid (by unfold canB; rw [decide_eq_false_iff_not]; have := HZ7.out; omega)
          have HNX : Hid (∀ x : Int, m - 1 < x → x ≤ 65536 → canB s a b x = false) := Lib.hid fun x h2 h3 => by
            cases hx : canB s a b x with
            | false => rfl
            | true =>
              have := can_mono HMA.out HMB.out HAB.out (show m ≤ x by omega) hx
              rw [HCM.out] at this; cases this
          have hw4 : IntKind.i64.wrap (m - 1) = m - 1 := IntWalk.i64_in _ ⟨by omega, by omega⟩
          go_wp2_with fail
          go_roundw
          case rel => exact ⟨l, m - 1, rfl, by go_num, by omega, by omega, by omega, HCL.out, HNX.out, HB7.out⟩
          case measure => simp [intOf]; omega
      · obtain rfl : l = h := by omega
        go_wp2_with fail
        refine bodyPost_ret (a := Act.mk _ _) (results_tmp2 rfl _ _ _) rfl ?_
        exact ⟨⟨l, 0, rfl, HZV.out.symm, fun _ => ⟨hl0, hh, HCL.out, HCH.out⟩⟩, HBW.out⟩
  · have hb0 : (zv != 0) = true := by simp [h0]
    go_wp2_with fail
    refine bodyPost_ret (a := Act.mk _ _) (results_tmp2 rfl _ _ _) rfl ?_
    exact ⟨⟨0, zv, rfl, HZV.out.symm, fun h1 => absurd (HZV.out.symm.trans h1) h0⟩, HB5.out⟩
#print axioms Widest_any
end Go.Proofs.Ytkmacmeeinpncaa
