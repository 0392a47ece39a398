/- The condition on two ends. Conditions: as each statement says. -/
import Derived.Test.YtghjlbbalngdhaaGreatDoorNet22
import Derived.Deep.RegionHeld3
import Derived.Test.YtghjlbbalngdhaaGreatDoorTail
import Derived.Deep.DeepCutAuto
namespace Go.Proofs.YtghjlbbalngdhaaGreatDoor
open Go.RowKit
set_option linter.unusedVariables false
def fenB (s : NS) (a : Nm) : Bool := decide (a ∈ s.nodes) && s.fen a
def fenE (s : NS) (a b : Nm) : Int := if (fenB s a || fenB s b) = true then 20 else 0
set_option maxHeartbeats 2000000 in
theorem ends11_any {w : World} {N : Nat} {s : NS} {bn bl : Nat} {vh vs : Value} (h : NetAt w N s bn bl vh vs) (a b : Nm) (ha : a.length ≤ maxLen) (hb : b.length ≤ maxLen) (p0 p1 p2 : Nat)
    (h0 : w.cell? ⟨p0, 0, none⟩ = some (.pointer (some ⟨N, 0, none⟩))) (h1 : w.cell? ⟨p1, 0, none⟩ = some (encS a)) (h2 : w.cell? ⟨p2, 0, none⟩ = some (encS b)) :
    Calls Tryz.prog 98 #[.pointer (some ⟨p0, 0, none⟩), .pointer (some ⟨p1, 0, none⟩), .pointer (some ⟨p2, 0, none⟩)] w (AnsN (fenE s a b) w) := by
  have c0 := h.blk.cell 0
  simp only [List.getElem?_toArray, List.getElem?_cons_zero] at c0
  have hla : ∀ k, (Instr.lookup 23 (.map (some bn)) (encS a) false).run Tryz.prog (w.drewN k) = .ok (.bool (fenB s a)) (w.drewN k) := fun k => nodes_look (h.far (Qw.below ⟨k, rfl⟩ _)) a ha false
  have hlb : ∀ k, (Instr.lookup 23 (.map (some bn)) (encS b) false).run Tryz.prog (w.drewN k) = .ok (.bool (fenB s b)) (w.drewN k) := fun k => nodes_look (h.far (Qw.below ⟨k, rfl⟩ _)) b hb false
  have HU : Hid (∀ w, Calls Tryz.prog 29 #[.bool (fenB s a || fenB s b), .int .i64 20] w (CondP (fenE s a b) w)) := Lib.hid fun w => unless_P _ 20 _ w rfl
  generalize fenB s a = x at *
  generalize fenB s b = y at *
  generalize fenE s a b = ev at *
  clear h
  go_enter Tryz.func98, Tryz.ntmps98
  cases x with
  | _ =>
    go_wp2_with fail
    refine wp_region_quiet_tail 14 (by kernel_rfl) (by kernel_rfl) ?_
    simp only [List.take_succ_cons, List.take_zero, List.drop_succ_cons, List.drop_zero]
    repeat (quiet_step (fail))
    refine wpQuiet_nil ?_
    intro _ hw'
    obtain ⟨nq, hw''⟩ := hw'
    subst hw''
    have HQ := Lib.hid (Qw.below (⟨nq, rfl⟩ : Qw w (w.drewN nq)) w.heap.size)
    clear hla hlb h0 h1 h2 c0
    go_wp2_with fail
    refine (HU.out _).mono ?_
    rintro e w1 ⟨f, rfl, ⟨fn, cap, rfl, hen, hcl⟩, hb1⟩
    have HC := Lib.hid (hcl w1 (Below.refl _ _)); have HB1 := Lib.hid (bnextK HQ.out hb1)
    have hen1 := hen w1
    clear hen hcl hb1
    go_wp2_with fail
    refine HC.out.mono ?_
    clear HC hen1
    rintro e w2 ⟨rfl, hb2⟩
    have HB2 := Lib.hid hb2; clear hb2
    go_wp2_with fail
    go_ret
    exact ⟨rfl, bnextK HB1.out HB2.out⟩
#print axioms ends11_any
end Go.Proofs.YtghjlbbalngdhaaGreatDoor
/- The condition on two ends: the closure. Conditions: as each statement says. -/
namespace Go.Proofs.YtghjlbbalngdhaaGreatDoor
open Go.RowKit
set_option linter.unusedVariables false
def endsE (s : NS) (a b : Nm) : Int := firstE [twoE a b, bothE s a b, fenE s a b]
/-- What stays while the conditions are made. -/
def EndS (w : World) (p0 p1 p2 N : Nat) (a b : Nm) (w' : World) : Prop := w'.cell? ⟨p0, 0, none⟩ = some (.pointer (some ⟨N, 0, none⟩)) ∧ w'.cell? ⟨p1, 0, none⟩ = some (encS a) ∧ w'.cell? ⟨p2, 0, none⟩ = some (encS b) ∧ Below w.heap.size w w'
theorem cell_lt {w : World} {p : Nat} {v : Value} (h : w.cell? ⟨p, 0, none⟩ = some v) : p < w.heap.size := by
  rcases Nat.lt_or_ge p w.heap.size with h1 | h1
  · exact h1
  · unfold World.cell? at h
    rw [Array.getElem?_eq_none h1] at h
    cases h
theorem EndS.far {w W W' : World} {p0 p1 p2 N : Nat} {a b : Nm} (h : EndS w p0 p1 p2 N a b W) (hb : Below W.heap.size W W') : EndS w p0 p1 p2 N a b W' :=
  ⟨(hb.cell (p := ⟨p0, 0, none⟩) (cell_lt h.1)).trans h.1, (hb.cell (p := ⟨p1, 0, none⟩) (cell_lt h.2.1)).trans h.2.1, (hb.cell (p := ⟨p2, 0, none⟩) (cell_lt h.2.2.1)).trans h.2.2.1, bnextK h.2.2.2 hb⟩
theorem below_alloc (w : World) (o : Obj) : Below w.heap.size w (w.alloc o) := (Below.refl _ w).alloc (Nat.le_refl _) _
set_option maxHeartbeats 4000000 in
theorem ends1_any {w : World} {N : Nat} {s : NS} {bn bl : Nat} {vh vs : Value} (h : NetAt w N s bn bl vh vs) (a b : Nm) (ha : a.length ≤ maxLen) (hb : b.length ≤ maxLen) (p0 p1 p2 : Nat)
    (h0 : w.cell? ⟨p0, 0, none⟩ = some (.pointer (some ⟨N, 0, none⟩))) (h1 : w.cell? ⟨p1, 0, none⟩ = some (encS a)) (h2 : w.cell? ⟨p2, 0, none⟩ = some (encS b)) :
    Calls Tryz.prog 97 #[.pointer (some ⟨p0, 0, none⟩), .pointer (some ⟨p1, 0, none⟩), .pointer (some ⟨p2, 0, none⟩)] w (AnsN (endsE s a b) w) := by
  have hmf : ∀ (fn : Fn) (first cap : Array Value) (w : World), (Instr.makeFunc fn first cap).run Tryz.prog w = .ok (.func fn first cap) w := fun _ _ _ _ => rfl
  have HT := Lib.hid (fun W => twoNames_any a b W)
  have HB : Hid (∀ W, EndS w p0 p1 p2 N a b W → Calls Tryz.prog 34 #[.pointer (some ⟨N, 0, none⟩), encS a, encS b] W (CondP (bothE s a b) W)) := Lib.hid fun W hW => both_any (h.far hW.2.2.2) a b ha hb
  have HC : Hid (CondOK w (.func (.func 98) #[] #[.pointer (some ⟨p0, 0, none⟩), .pointer (some ⟨p1, 0, none⟩), .pointer (some ⟨p2, 0, none⟩)]) (fenE s a b)) := Lib.hid (by
    refine ⟨_, _, rfl, enters_of Tryz.func98 (by kernel_rfl) rfl _, fun W hW => ?_⟩
    have hE := EndS.far (w := w) ⟨h0, h1, h2, Below.refl _ _⟩ hW
    exact ends11_any (h.far hW) a b ha hb p0 p1 p2 hE.1 hE.2.1 hE.2.2.1)
  have HA : Hid (∀ (W : World) (f1 f2 : Value) (g : Nat), EndS w p0 p1 p2 N a b W → CondOK W f1 (twoE a b) → CondOK W f2 (bothE s a b) → W.heap.size = g →
      Calls Tryz.prog 28 #[.pointer (some ⟨N, 0, none⟩), .slice (some ⟨g, 0, none⟩) 3 3] (W.alloc (.cells #[f1, f2, .func (.func 98) #[] #[.pointer (some ⟨p0, 0, none⟩), .pointer (some ⟨p1, 0, none⟩), .pointer (some ⟨p2, 0, none⟩)]] 74)) (AskP [twoE a b, bothE s a b, fenE s a b] (W.alloc (.cells #[f1, f2, .func (.func 98) #[] #[.pointer (some ⟨p0, 0, none⟩), .pointer (some ⟨p1, 0, none⟩), .pointer (some ⟨p2, 0, none⟩)]] 74)))) := Lib.hid fun W f1 f2 g hW k1 k2 hg => by
    subst hg
    have hN := (h.far hW.2.2.2).far (below_alloc W (.cells #[f1, f2, .func (.func 98) #[] #[.pointer (some ⟨p0, 0, none⟩), .pointer (some ⟨p1, 0, none⟩), .pointer (some ⟨p2, 0, none⟩)]] 74))
    have c0 := hN.blk.cell 0
    simp only [List.getElem?_toArray, List.getElem?_cons_zero] at c0
    have hr := Rd.new W #[f1, f2, .func (.func 98) #[] #[.pointer (some ⟨p0, 0, none⟩), .pointer (some ⟨p1, 0, none⟩), .pointer (some ⟨p2, 0, none⟩)]] 74 1 3 rfl
    refine ask_any [(f1, twoE a b), (f2, bothE s a b), (.func (.func 98) #[] #[.pointer (some ⟨p0, 0, none⟩), .pointer (some ⟨p1, 0, none⟩), .pointer (some ⟨p2, 0, none⟩)], fenE s a b)] c0 rfl hN.blk.lt (by simpa using hr) ?_ (by omega)
    intro x hx
    have hk3 := (HC.out.far hW.2.2.2)
    simp only [List.mem_cons, List.not_mem_nil, or_false] at hx
    rcases hx with rfl | rfl | rfl
    · exact k1.far (below_alloc _ _)
    · exact k2.far (below_alloc _ _)
    · exact hk3.far (below_alloc _ _)
  have HNOW : Hid (EndS w p0 p1 p2 N a b w.drew) := Lib.hid ⟨h0, h1, h2, Qw.below ⟨1, rfl⟩ _⟩
  have HE : Hid (endsE s a b = firstE [twoE a b, bothE s a b, fenE s a b]) := Lib.hid rfl
  generalize endsE s a b = ev at *
  generalize twoE a b = e1 at *
  generalize bothE s a b = e2 at *
  generalize fenE s a b = e3 at *
  clear h
  go_enter Tryz.func97, Tryz.ntmps97
  go_wp2_with fail
  go_region_held3 (fun w' => w'.cell? ⟨p0, 0, none⟩ = some (.pointer (some ⟨N, 0, none⟩)) ∧ w'.cell? ⟨p1, 0, none⟩ = some (encS a) ∧ w'.cell? ⟨p2, 0, none⟩ = some (encS b) ∧ Below w.heap.size w w') (first | exact HNOW.out | exact EndS.far HNOW.out (below_alloc _ _))
    ((first
      | (go_at_call 32; refine (HT.out _).mono ?_; rintro e w3 ⟨f3, rfl, k3, b3⟩; obtain ⟨fn3, cap3, rfl, _⟩ := id k3; have HNOW := Lib.hid (EndS.far HNOW.out b3))
      | (go_at_call 34; refine (HB.out _ HNOW.out).mono ?_; rintro e w4 ⟨f4, rfl, k4, b4⟩; obtain ⟨fn4, cap4, rfl, _⟩ := id k4; have k3 := CondOK.far k3 b4; have HNOW := Lib.hid (EndS.far HNOW.out b4))
      | (go_at_call 28; refine (HA.out _ _ _ _ HNOW.out k3 k4 rfl).mono ?_; rintro e w5 ⟨rfl, b5⟩; have HNOW := Lib.hid (EndS.far (EndS.far HNOW.out (below_alloc _ _)) b5))))
  all_goals
    go_wp2_with fail
    go_ret
    exact ⟨by rw [HE.out]; rfl, HNOW.out.2.2.2⟩
#print axioms ends1_any
end Go.Proofs.YtghjlbbalngdhaaGreatDoor
/- The contracts of ends and of Node. Conditions: as each statement says. -/
namespace Go.Proofs.YtghjlbbalngdhaaGreatDoor
open Go.RowKit
set_option linter.unusedVariables false
set_option maxHeartbeats 1000000 in
theorem ends_any {w : World} {N : Nat} {s : NS} {bn bl : Nat} {vh vs : Value} (h : NetAt w N s bn bl vh vs) (a b : Nm) (ha : a.length ≤ maxLen) (hb : b.length ≤ maxLen) :
    Calls Tryz.prog 63 #[.pointer (some ⟨N, 0, none⟩), encS a, encS b] w (CondP (endsE s a b) w) := by
  have hmf : ∀ (fn : Fn) (first cap : Array Value) (w : World), (Instr.makeFunc fn first cap).run Tryz.prog w = .ok (.func fn first cap) w := fun _ _ _ _ => rfl
  have HF : Hid (CondOK (((w.alloc (.cells #[.pointer (some ⟨N, 0, none⟩)] 22)).alloc (.cells #[encS a] 9)).alloc (.cells #[encS b] 9)) (.func (.func 97) #[] #[.pointer (some ⟨w.heap.size, 0, none⟩), .pointer (some ⟨w.heap.size + 1, 0, none⟩), .pointer (some ⟨w.heap.size + 1 + 1, 0, none⟩)]) (endsE s a b)) := Lib.hid (by
    refine ⟨_, _, rfl, enters_of Tryz.func97 (by kernel_rfl) rfl _, fun W hW => ?_⟩
    obtain ⟨k0, k1, k2⟩ := boxes3 w #[.pointer (some ⟨N, 0, none⟩)] #[encS a] #[encS b] 22 9 9
    have hN := (h.far (alloc3_below w (.cells #[.pointer (some ⟨N, 0, none⟩)] 22) (.cells #[encS a] 9) (.cells #[encS b] 9))).far hW
    exact ends1_any hN a b ha hb _ _ _ (by rw [(k0.past hW k0.lt).cell]; rfl) (by rw [(k1.past hW k1.lt).cell]; rfl) (by rw [(k2.past hW k2.lt).cell]; rfl))
  clear h
  go_enter Tryz.func63, Tryz.ntmps63
  go_wp2_with fail
  go_ret
  exact ⟨_, rfl, HF.out, alloc3_below _ _ _ _⟩
def node1E (s : NS) (x : Nm) : Int := if x ∈ s.nodes then 10 else if s.nodes.length = 16 then 12 else 0
set_option maxHeartbeats 1000000 in
theorem node1_any {w : World} {N : Nat} {s : NS} {bn bl : Nat} {vh vs : Value} (h : NetAt w N s bn bl vh vs) (x : Nm) (hx : x.length ≤ maxLen) (p0 p1 : Nat)
    (h0 : w.cell? ⟨p0, 0, none⟩ = some (.pointer (some ⟨N, 0, none⟩))) (h1 : w.cell? ⟨p1, 0, none⟩ = some (encS x)) :
    Calls Tryz.prog 31 #[.pointer (some ⟨p0, 0, none⟩), .pointer (some ⟨p1, 0, none⟩)] w (AnsN (node1E s x) w) := by
  have c0 := h.blk.cell 0
  simp only [List.getElem?_toArray, List.getElem?_cons_zero] at c0
  have hla : ∀ k, (Instr.lookup 23 (.map (some bn)) (encS x) true).run Tryz.prog (w.drewN k) = .ok (.tuple #[.bool (decide (x ∈ s.nodes) && s.fen x), .bool (decide (x ∈ s.nodes))]) (w.drewN k) := fun k => nodes_look (h.far (Qw.below ⟨k, rfl⟩ _)) x hx true
  have hlen : ∀ k, (Builtin.len_ #[23] 3 #[.map (some bn)]).run Tryz.prog (w.drewN k) = .ok (.int .i64 s.nodes.length) (w.drewN k) := fun k => ((h.far (Qw.below ⟨k, rfl⟩ _)).nodes).len Tryz.underlying23 _
  have HU : Hid (∀ w, x ∉ s.nodes → Calls Tryz.prog 29 #[.bool ((s.nodes.length : Int) == 16), .int .i64 12] w (CondP (node1E s x) w)) := Lib.hid fun w hm => unless_P _ 12 _ w (by
    unfold node1E
    rw [if_neg hm]
    by_cases h1 : s.nodes.length = 16
    · rw [if_pos h1, h1]; rfl
    · rw [if_neg h1, if_neg (by simp; omega)])
  have HE : Hid (x ∈ s.nodes → node1E s x = 10) := Lib.hid fun hm => by unfold node1E; rw [if_pos hm]
  generalize node1E s x = ev at *
  generalize s.nodes.length = ln at *
  generalize (decide (x ∈ s.nodes) && s.fen x) = z at *
  clear h
  by_cases hm : x ∈ s.nodes
  · rw [decide_eq_true hm] at hla
    go_enter Tryz.func31, Tryz.ntmps31
    go_wp2_with fail
    go_quiet (fail)
    go_wp2_with fail
    go_ret
    exact ⟨by rw [HE.out hm]; rfl, Qw.below ⟨_, rfl⟩ _⟩
  · rw [decide_eq_false hm] at hla
    go_enter Tryz.func31, Tryz.ntmps31
    go_wp2_with fail
    go_quiet (fail)
    go_wp2_with fail
    refine (HU.out _ hm).mono ?_
    rintro e w1 ⟨f, rfl, ⟨fn, cap, rfl, hen, hcl⟩, hb1⟩
    have HC := Lib.hid (hcl w1 (Below.refl _ _)); have HB1 := Lib.hid (bnextK (Qw.below ⟨_, rfl⟩ _) hb1)
    have hen1 := hen w1
    clear hen hcl hb1
    go_wp2_with fail
    refine HC.out.mono ?_
    clear HC hen1
    rintro e w2 ⟨rfl, hb2⟩
    have HB2 := Lib.hid hb2; clear hb2
    go_wp2_with fail
    go_ret
    exact ⟨rfl, bnextK HB1.out HB2.out⟩
#print axioms node1_any
end Go.Proofs.YtghjlbbalngdhaaGreatDoor
/- The contract of Node. Conditions: as each statement says. -/
namespace Go.Proofs.YtghjlbbalngdhaaGreatDoor
open Go.RowKit
set_option linter.unusedVariables false
theorem ask_made {W : World} {N : Nat} {s : NS} {bn bl : Nat} {vh vs : Value} (h : NetAt W N s bn bl vh vs) (fs : List (Value × Int)) (cs : Array Value) (hcs : cs.toList = fs.map (·.1)) (n : Nat) (hn : fs.length = n) (hn2 : n ≤ 1000) (hc : ∀ x ∈ fs, CondOK W x.1 x.2) (g : Nat) (hg : W.heap.size = g) :
    Calls Tryz.prog 28 #[.pointer (some ⟨N, 0, none⟩), .slice (some ⟨g, 0, none⟩) n n] (W.alloc (.cells cs 74)) (AnsN (firstE (fs.map (·.2))) (W.alloc (.cells cs 74))) := by
  subst hg
  have hN := h.far (below_alloc W (.cells cs 74))
  have c0 := hN.blk.cell 0
  simp only [List.getElem?_toArray, List.getElem?_cons_zero] at c0
  have hsz : cs.size = n * 1 := by rw [← Array.length_toList, hcs, List.length_map, hn, Nat.mul_one]
  have hr := Rd.new W cs 74 1 n hsz
  rw [hcs] at hr
  refine ask_any fs c0 rfl hN.blk.lt ?_ ?_ hn2
  · exact hr.mono (by simp)
  · intro x hx
    exact (hc x hx).far (below_alloc _ _)
theorem alloc2_below (w : World) (o1 o2 : Obj) : Below w.heap.size w ((w.alloc o1).alloc o2) := ((Below.refl _ w).alloc (Nat.le_refl _) _).alloc (by simp) _
theorem boxes2 (w : World) (c0 c1 : Array Value) (t0 t1 : TypeId) : Bk ((w.alloc (.cells c0 t0)).alloc (.cells c1 t1)) w.heap.size c0 t0 ∧ Bk ((w.alloc (.cells c0 t0)).alloc (.cells c1 t1)) (w.heap.size + 1) c1 t1 := by
  have h0 := Bk.new w c0 t0
  have h1 := Bk.new (w.alloc (.cells c0 t0)) c1 t1
  rw [World.size_alloc] at h1
  exact ⟨h0.keepL (KeepL.alloc [] _ _) (by simp), h1⟩
def nmE (x : Nm) : Int := if namedB x = true then 0 else 2
def nodeE (s : NS) (x : Nm) : Int := firstE [nmE x, node1E s x]
def addNode (s : NS) (x : Nm) : NS := { s with nodes := s.nodes ++ [x], fen := fun y => if y = x then false else s.fen y }
def nodeS (s : NS) (x : Nm) : NS := if nodeE s x = 0 then addNode s x else s
theorem nodeE_zero {s : NS} {x : Nm} (h : nodeE s x = 0) : namedB x = true ∧ x ∉ s.nodes ∧ s.nodes.length ≠ 16 := by
  unfold nodeE nmE node1E at h
  by_cases h1 : namedB x = true
  · by_cases h2 : x ∈ s.nodes
    · simp [h1, h2, firstE] at h
    · by_cases h3 : s.nodes.length = 16
      · simp [h1, h2, h3, firstE] at h
      · exact ⟨h1, h2, h3⟩
  · simp [h1, firstE] at h
theorem addNode_ok {s : NS} {x : Nm} (h : NSOK s) (he : nodeE s x = 0) : NSOK (addNode s x) := by
  obtain ⟨h1, h2, h3⟩ := nodeE_zero he
  have h16 := h.nn
  refine ⟨?_, by show (s.nodes ++ [x]).length ≤ 16; simp; omega, fun y hy => ?_, h.pod, h.pn, fun p hp => ?_, h.lk, h.now⟩
  · show (s.nodes ++ [x]).Nodup
    rw [List.nodup_append]
    exact ⟨h.nod, by simp, fun a ha b hb e => by rw [List.mem_singleton] at hb; subst hb; subst e; exact h2 ha⟩
  · rcases List.mem_append.1 hy with hy | hy
    · exact h.named y hy
    · rw [List.mem_singleton] at hy; subst hy; exact h1
  · obtain ⟨q1, q2, q3⟩ := h.pin p hp
    exact ⟨by show _ ∈ s.nodes ++ [x]; simp [q1], by show _ ∈ s.nodes ++ [x]; simp [q2], q3⟩
theorem Bk.nmapL {w : World} {h b : Nat} {cs : Array Value} {t k : TypeId} {κ : Type} {K : KeyT k κ} {l : List κ} {f : κ → Option Value} (a : Bk w h cs t) (m : MapL K w b l f) : h ≠ b := a.nmap m.at'
theorem ck_map {T : TypeId → Prop} {w w' : World} {b : Nat} {k : TypeId} {κ : Type} {K : KeyT k κ} {l : List κ} {f : κ → Option Value} (m : MapL K w b l f) (hg : w.grownBy w' (some b)) : CK T w w' :=
  fun h cs t _ hx => (hg.block h hx.lt (fun e => hx.nmapL m (by injection e))).trans hx
theorem NetAt.addNode {w w' : World} {N : Nat} {s : NS} {bn bl : Nat} {vh vs : Value} {x : Nm} (h : NetAt w N s bn bl vh vs) (he : nodeE s x = 0)
    (hm : MapL strK w' bn (s.nodes ++ [x]) (fun y => if y = x then some (.bool false) else nodesF s y)) (hg : w.grownBy w' (some bn)) : NetAt w' N (addNode s x) bn bl vh vs := by
  have hc : CK (fun _ => True) w w' := ck_map h.nodes hg
  refine ⟨hc _ _ _ trivial h.blk, hm.same (fun y _ => ?_), h.links.keep (hg.block _ h.links.lt (fun e => h.ne (by injection e with e; exact e.symm))), h.holds.ck hc trivial trivial, h.sents.ck hc trivial trivial trivial trivial trivial, addNode_ok h.ok he, h.ne⟩
  unfold nodesF Go.Proofs.YtghjlbbalngdhaaGreatDoor.addNode
  dsimp only
  by_cases hy : y = x
  · subst hy; simp
  · by_cases hy2 : y ∈ s.nodes <;> simp [hy, hy2]
def NodeP (N : Nat) (s : NS) (bn bl : Nat) (vh vs : Value) (x : Nm) (w : World) (e : Ending) (w' : World) : Prop :=
  (∃ z, z = nodeE s x ∧ e = .returned (.int .i64 z)) ∧ NetAt w' N (nodeS s x) bn bl vh vs ∧ KeepL [bn] w w'
set_option maxHeartbeats 4000000 in
theorem Node_any {w : World} {N : Nat} {s : NS} {bn bl : Nat} {vh vs : Value} (h : NetAt w N s bn bl vh vs) (x : Nm) (hx : x.length ≤ maxLen) :
    Calls Tryz.prog 4 #[.pointer (some ⟨N, 0, none⟩), encS x] w (NodeP N s bn bl vh vs x w) := by
  have hmf : ∀ (fn : Fn) (first cap : Array Value) (w : World), (Instr.makeFunc fn first cap).run Tryz.prog w = .ok (.func fn first cap) w := fun _ _ _ _ => rfl
  obtain ⟨w1, hw1⟩ : ∃ w1, w1 = (w.alloc (.cells #[.pointer (some ⟨N, 0, none⟩)] 22)).alloc (.cells #[encS x] 9) := ⟨_, rfl⟩
  obtain ⟨k0, k1⟩ := boxes2 w #[.pointer (some ⟨N, 0, none⟩)] #[encS x] 22 9
  have hb1 := alloc2_below w (.cells #[.pointer (some ⟨N, 0, none⟩)] 22) (.cells #[encS x] 9)
  rw [← hw1] at k0 k1 hb1
  have h1 := h.far hb1
  have HW1 := Lib.hid hw1; have HB1 := Lib.hid hb1
  have HN := fun W => Lib.hid (named_any x W)
  have HU : Hid (∀ W, Calls Tryz.prog 29 #[.bool (!namedB x), .int .i64 2] W (CondP (nmE x) W)) := Lib.hid fun W => unless_P _ 2 _ W (by unfold nmE; cases namedB x <;> rfl)
  have HC : Hid (CondOK w1 (.func (.func 31) #[] #[.pointer (some ⟨w.heap.size, 0, none⟩), .pointer (some ⟨w.heap.size + 1, 0, none⟩)]) (node1E s x)) := Lib.hid (by
    refine ⟨_, _, rfl, enters_of Tryz.func31 (by kernel_rfl) rfl _, fun W hW => ?_⟩
    exact node1_any (h1.far hW) x hx _ _ (by rw [(k0.past hW k0.lt).cell]; rfl) (by rw [(k1.past hW k1.lt).cell]; rfl))
  have HA : Hid (∀ (W : World) (f1 : Value) (g : Nat), Below w1.heap.size w1 W → CondOK W f1 (nmE x) → W.heap.size = g →
      Calls Tryz.prog 28 #[.pointer (some ⟨N, 0, none⟩), .slice (some ⟨g, 0, none⟩) 2 2] (W.alloc (.cells #[f1, .func (.func 31) #[] #[.pointer (some ⟨w.heap.size, 0, none⟩), .pointer (some ⟨w.heap.size + 1, 0, none⟩)]] 74))
        (AnsN (nodeE s x) (W.alloc (.cells #[f1, .func (.func 31) #[] #[.pointer (some ⟨w.heap.size, 0, none⟩), .pointer (some ⟨w.heap.size + 1, 0, none⟩)]] 74)))) := Lib.hid fun W f1 g hW q1 hg => by
    refine ask_made (h1.far hW) [(f1, nmE x), (_, node1E s x)] _ rfl 2 rfl (by omega) ?_ g hg
    intro y hy
    simp only [List.mem_cons, List.not_mem_nil, or_false] at hy
    rcases hy with rfl | rfl
    · exact q1
    · exact HC.out.far hW
  have HK0 := Lib.hid k0; have HK1 := Lib.hid k1; have H1 := Lib.hid h1
  have d0 := k0.cell 0; have d1 := k1.cell 0
  simp only [List.getElem?_toArray, List.getElem?_cons_zero] at d0 d1
  have HNOW : Hid (w1.drew.cell? ⟨w.heap.size, 0, none⟩ = some (.pointer (some ⟨N, 0, none⟩)) ∧ w1.drew.cell? ⟨w.heap.size + 1, 0, none⟩ = some (encS x) ∧ Below w1.heap.size w1 w1.drew) := Lib.hid ⟨d0, d1, Qw.below ⟨1, rfl⟩ _⟩
  have HFAR : Hid (∀ {W W' : World}, (W.cell? ⟨w.heap.size, 0, none⟩ = some (.pointer (some ⟨N, 0, none⟩)) ∧ W.cell? ⟨w.heap.size + 1, 0, none⟩ = some (encS x) ∧ Below w1.heap.size w1 W) → Below W.heap.size W W' →
    (W'.cell? ⟨w.heap.size, 0, none⟩ = some (.pointer (some ⟨N, 0, none⟩)) ∧ W'.cell? ⟨w.heap.size + 1, 0, none⟩ = some (encS x) ∧ Below w1.heap.size w1 W')) := Lib.hid fun hS hb => ⟨(hb.cell (p := ⟨_, 0, none⟩) (cell_lt hS.1)).trans hS.1, (hb.cell (p := ⟨_, 0, none⟩) (cell_lt hS.2.1)).trans hS.2.1, bnextK hS.2.2 hb⟩
  have HNE : Hid (∀ z, z = nodeE s x → NodeP N s bn bl vh vs x w = NodeP N s bn bl vh vs x w) := Lib.hid fun _ _ => rfl
  generalize hz : nodeE s x = ev at *
  have HZ := Lib.hid hz; clear hz
  generalize nmE x = e1 at *
  generalize namedB x = nb at *
  clear h h1 k0 k1 hb1 d0 d1 HNE hw1
  go_enter Tryz.func4, Tryz.ntmps4
  go_wp2_with fail
  rw [← HW1.out]
  go_cut [2, 3, 5] from 2 to 3 (fun v2 v3 v5 wr => v2 = .pointer (some ⟨w.heap.size, 0, none⟩) ∧ v3 = .pointer (some ⟨w.heap.size + 1, 0, none⟩) ∧ v5 = .int .i64 ev ∧ Below w1.heap.size w1 wr)
  case first =>
    go_region_held3 (fun w' => w'.cell? ⟨w.heap.size, 0, none⟩ = some (.pointer (some ⟨N, 0, none⟩)) ∧ w'.cell? ⟨w.heap.size + 1, 0, none⟩ = some (encS x) ∧ Below w1.heap.size w1 w') (first | exact HNOW.out | exact HFAR.out HNOW.out (below_alloc _ _))
      ((first
        | (go_at_call 30; refine (HN _).out.mono ?_; rintro e w3 ⟨rfl, rfl⟩)
        | (go_at_call 29; refine (HU.out _).mono ?_; rintro e w4 ⟨f4, rfl, k4, b4⟩; obtain ⟨fn4, cap4, rfl, _⟩ := id k4; have HNOW := Lib.hid (HFAR.out HNOW.out b4))
        | (go_at_call 28; refine (HA.out _ _ _ HNOW.out.2.2 k4 rfl).mono ?_; rintro e w5 ⟨rfl, b5⟩; have HNOW := Lib.hid (HFAR.out (HFAR.out HNOW.out (below_alloc _ _)) b5))))
    all_goals
      go_wp2_with fail
      go_meet
      exact ⟨rfl, rfl, rfl, HNOW.out.2.2⟩
  case rest =>
    clear HNOW HA HC HU HN
    obtain ⟨w5, rfl⟩ : ∃ z : World, z = wc := ⟨_, rfl⟩
    obtain ⟨rfl, rfl, rfl, hb5⟩ := hcut
    have hN5 := H1.out.far hb5
    have d0 := (HK0.out.past hb5 HK0.out.lt).cell 0; have d1 := (HK1.out.past hb5 HK1.out.lt).cell 0
    simp only [List.getElem?_toArray, List.getElem?_cons_zero] at d0 d1
    have HB5 := Lib.hid (HB1.out.trans (hb5.mono HB1.out.size))
    have HN5 := Lib.hid hN5
    by_cases he : ev = 0
    · have c0 := hN5.blk.cell 0
      simp only [List.getElem?_toArray, List.getElem?_cons_zero] at c0
      have HS : Hid (nodeS s x = addNode s x) := Lib.hid (by unfold nodeS; rw [HZ.out, if_pos he])
      subst he
      clear hN5 hb5
      go_wp2_with fail
      refine wp_region_quiet_tail 5 (by kernel_rfl) (by kernel_rfl) ?_
      simp only [List.take_succ_cons, List.take_zero, List.drop_succ_cons, List.drop_zero]
      repeat (quiet_step (fail))
      refine wpQuiet_nil ?_
      intro _ hw'
      obtain ⟨nq, hw''⟩ := hw'
      subst hw''
      have hN7 := HN5.out.far (Qw.below (⟨nq, rfl⟩ : Qw w5 (w5.drewN nq)) w5.heap.size)
      obtain ⟨w6, hr6, hm6, hg6⟩ := hN7.nodes.store Tryz.underlying23 (x := x) hx (.bool false) (by have := hN7.ok.nn; omega)
      have hr6 : (Instr.mapUpdate 23 (.map (some bn)) (encS x) (.bool false)).run Tryz.prog (w5.drewN nq) = .ok () w6 := hr6
      rw [if_neg (nodeE_zero HZ.out).2.1] at hm6
      have HN6 := Lib.hid (hN7.addNode HZ.out hm6 hg6)
      have HK6 : Hid (KeepL [bn] w w6) := Lib.hid ((KeepL.of_below (HB5.out.trans ((Qw.below (⟨nq, rfl⟩ : Qw w5 (w5.drewN nq)) _)))).trans (KeepL.grown hg6 (fun k hk _ => by injection hk with hk; simp [hk])))
      clear hN7 hm6 hg6 c0 d0 d1
      go_wp2_with fail
      go_ret
      exact ⟨⟨_, HZ.out.symm, rfl⟩, by rw [HS.out]; exact HN6.out, HK6.out⟩
    · have heb : (ev == 0) = false := by simpa using he
      have HS : Hid (nodeS s x = s) := Lib.hid (by unfold nodeS; rw [HZ.out, if_neg he])
      clear hN5 hb5
      go_wp2_with fail
      go_ret
      exact ⟨⟨_, HZ.out.symm, rfl⟩, by rw [HS.out]; exact HN5.out, KeepL.of_below HB5.out⟩
#print axioms Node_any
end Go.Proofs.YtghjlbbalngdhaaGreatDoor
