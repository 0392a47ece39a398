/- The contract of Nodes. Conditions: as each statement says. -/
import Derived.Test.YtghjlbbalngdhaaGreatDoorNet30
import Derived.Test.YtghjlbbalngdhaaGreatDoorIter
import Derived.Deep.LoopGhost
namespace Go.Proofs.YtghjlbbalngdhaaGreatDoor
open Go.RowKit
set_option linter.unusedVariables false
/-- The names in their order. -/
def namesG (s : NS) : List Nm := s.nodes.mergeSort (fun x y => decide (x ≤ y))
theorem le_tr : ∀ a b c : Nm, decide (a ≤ b) = true → decide (b ≤ c) = true → decide (a ≤ c) = true := fun a b c h1 h2 => by simp only [decide_eq_true_eq] at *; exact List.le_trans h1 h2
theorem le_to : ∀ a b : Nm, (decide (a ≤ b) || decide (b ≤ a)) = true := fun a b => by simp only [Bool.or_eq_true, decide_eq_true_eq]; exact List.le_total a b
theorem namesG_perm (s : NS) : (namesG s).Perm s.nodes := List.mergeSort_perm _ _
theorem namesG_len (s : NS) : (namesG s).length = s.nodes.length := (namesG_perm s).length_eq
theorem namesG_mem {s : NS} {x : Nm} : x ∈ namesG s ↔ x ∈ s.nodes := (namesG_perm s).mem_iff
theorem namesG_lt {s : NS} (h : s.nodes.Nodup) : (namesG s).Pairwise (· < ·) := by
  have h1 : (namesG s).Pairwise (fun a b => decide (a ≤ b) = true) := List.pairwise_mergeSort le_tr le_to _
  have h2 : (namesG s).Nodup := (namesG_perm s).symm.nodup h
  refine (h1.and h2).imp fun {a b} hab => ?_
  obtain ⟨h3, h4⟩ := hab
  rw [decide_eq_true_eq] at h3
  rcases List.le_iff_lt_or_eq.1 h3 with h5 | h5
  · exact h5
  · exact absurd h5 h4
def NodesP (s : NS) (w : World) (e : Ending) (w' : World) : Prop :=
  ∃ A c, e = .returned (.slice A s.nodes.length c) ∧ s.nodes.length ≤ c ∧ w'.ownsRow w.heap.size 9 1 (.slice A s.nodes.length c) s.nodes.length ((namesG s).map encS) ∧ (s.nodes = [] → Value.slice A s.nodes.length c = .slice none 0 0) ∧ Below w.heap.size w w'
theorem sortedNodes_any {w : World} {bn : Nat} {l : List Nm} {f : Nm → Option Value} (h : MapL strK w bn l f) (hl : l.length ≤ 1000000) :
    Calls Tryz.prog 38 #[.func (.func 81) #[] #[.pointer (some ⟨w.heap.size, 0, none⟩)]] (w.alloc (.cells #[.map (some bn)] 23)) fun e w' => ∃ A c, e = .returned (.slice A l.length c) ∧ l.length ≤ c ∧
      w'.ownsRow w.heap.size 9 1 (.slice A l.length c) l.length ((l.mergeSort (fun x y => decide (x ≤ y))).map encS) ∧ (l = [] → Value.slice A l.length c = .slice none 0 0) ∧ Below w.heap.size w w' := by
  obtain ⟨D, h1, h2, h3⟩ := h.perm
  refine (sorted_Keys_any bn l.length D rawR w h1 (by rw [h2]; unfold maxLen; omega) (by rw [h2]; omega)).mono ?_
  rintro e w' ⟨v, ss, rfl, hp, ho, hn, hb⟩
  have hpl : ss.Perm l := hp.trans h3.symm
  have hlen : ss.length = l.length := hpl.length_eq
  have hms : ss.mergeSort (fun x y => decide (x ≤ y)) = l.mergeSort (fun x y => decide (x ≤ y)) := mergeSort_of_perm hpl
  rw [hms, hlen] at ho
  obtain ⟨A, c, rfl, hc⟩ := own_form ho
  refine ⟨A, c, rfl, hc, ?_, fun hl0 => hn.2 ?_, bnextK (below_alloc w _) hb⟩
  · refine ⟨ho.1, ?_⟩
    rcases ho.2 with h4 | ⟨g, cap, cur, h4, h5, h6⟩
    · exact .inl h4
    · exact .inr ⟨g, cap, cur, h4, by simp at h5; omega, h6⟩
  · subst hl0
    exact List.length_eq_zero_iff.1 hlen
set_option maxHeartbeats 1000000 in
theorem Nodes_any {w : World} {N : Nat} {s : NS} {bn bl : Nat} {vh vs : Value} (h : NetAt w N s bn bl vh vs) : Calls Tryz.prog 6 #[.pointer (some ⟨N, 0, none⟩)] w (NodesP s w) := by
  have c0 := h.blk.cell 0
  simp only [List.getElem?_toArray, List.getElem?_cons_zero] at c0
  have HV := Lib.hid (valid_any N (some bn) w c0 rfl)
  have HS := Lib.hid (sortedNodes_any h.nodes (by have := h.ok.nn; omega))
  clear h
  go_enter Tryz.func6, Tryz.ntmps6
  go_wp2_with fail
  refine HV.out.mono ?_
  rintro e w' ⟨rfl, rfl⟩
  go_wp2_with fail
  refine (maps_Keys_any _ _).mono ?_
  rintro e w' ⟨rfl, rfl⟩
  go_wp2_with fail
  refine HS.out.mono ?_
  rintro e w' ⟨A, c, rfl, hc, ho, hn, hb⟩
  have HO := Lib.hid ho; have HN := Lib.hid hn; have HB := Lib.hid hb
  clear ho hn hb HS HV
  go_wp2_with fail
  go_ret
  exact ⟨A, c, rfl, hc, HO.out, HN.out, HB.out⟩
#print axioms Nodes_any
end Go.Proofs.YtghjlbbalngdhaaGreatDoor
/- What graph makes, plainly, and its rows. Conditions: as each statement says. -/
namespace Go.Proofs.YtghjlbbalngdhaaGreatDoor
open Go.RowKit
set_option linter.unusedVariables false
/-- Is there a link that carries the bits, between nodes that are not fenced? -/
def rowE (s : NS) (bits : Int) (a b : Nm) : Bool := decide (pairOf a b ∈ s.pairs) && decide (a ≠ b) && !fenB s a && !fenB s b && decide (bits ≤ (s.lk (pairOf a b)).free)
def rowG (s : NS) (bits : Int) (a : Nm) : List Bool := (namesG s).map (rowE s bits a)
def graphG (s : NS) (bits : Int) : PG := ⟨s.nodes.length, (namesG s).map (rowG s bits), List.replicate s.nodes.length false, false⟩
/-- A row of which the first places are filled. -/
def fillR (l : List Bool) (k : Nat) : List Bool := l.take k ++ List.replicate (l.length - k) false
theorem fillR_len (l : List Bool) (k : Nat) (h : k ≤ l.length) : (fillR l k).length = l.length := by unfold fillR; simp; omega
theorem fillR_zero (l : List Bool) : fillR l 0 = List.replicate l.length false := by unfold fillR; simp
theorem fillR_all (l : List Bool) : fillR l l.length = l := by unfold fillR; simp
theorem fillR_set (l : List Bool) (k : Nat) (h : k < l.length) : (fillR l k).set k (l.getD k false) = fillR l (k + 1) := by
  unfold fillR
  have e : (l.take k).length = k := by simp; omega
  rw [List.set_append_right _ _ (by rw [e]; exact Nat.le_refl _), e, Nat.sub_self, show l.length - k = (l.length - (k + 1)) + 1 by omega, List.replicate_succ, List.set_cons_zero, List.take_succ_eq_append_getElem h, List.append_assoc]
  rw [List.getD_eq_getElem?_getD, List.getElem?_eq_getElem h]
  rfl
theorem BRow.zeros (w : World) (n : Nat) : BRow (w.alloc (.cells (Array.replicate n (.bool false)) 4)) w.heap.size (List.replicate n false) := by
  refine ⟨_, Bk.new w _ _, fun j hj => ?_⟩
  simp only [List.length_replicate] at hj
  rw [Array.getElem?_replicate, if_pos hj, List.getD_eq_getElem?_getD, List.getElem?_replicate, if_pos hj]; rfl
theorem make_bool33 (w : World) (c : Nat) (hc : c ≤ 1000000) : (Instr.makeSlice 147 (.int .i64 c) (.int .i64 c)).run Tryz.prog w = .ok (.slice (some ⟨w.heap.size, 0, none⟩) c c) (w.alloc (.cells (Array.replicate c (.bool false)) 4)) := by
  obtain ⟨i, hi, hz, hs, hb⟩ := info_parts info_bool12
  have h := run_make (P := Tryz.prog) w _ _ i _ Tryz.underlying147 hi hz .i64 .i64 c c (by omega) (by omega) (by rw [hb]; omega) (by omega)
  rw [hs] at h
  simpa [madeCells_one, Value.cells] using h
theorem info_bools33 : (Tryz.prog.info? 147).map (fun i => (i.zero, i.size, i.bytes)) = some (some (.slice none 0 0), 1, 24) := by kernel_rfl
theorem elB_bools9 : ElemB Tryz.prog 146 147 1 24 := ElemB.of Tryz.underlying146 info_bools33 rfl (by decide)
/-- The rows of links that are there so far. -/
def AdjAt (w : World) (base : Nat) (v : Value) (l : List (List Bool)) (n : Nat) : Prop := ∃ vals, w.ownsRow base 147 1 v l.length vals ∧ ∀ (i : Nat) (x : List Bool), l[i]? = some x → ∃ h, vals[i]? = some (.slice (some ⟨h, 0, none⟩) n n) ∧ BRow w h x ∧ base ≤ h
theorem BRow.ck {T : TypeId → Prop} {w w' : World} {h : Nat} {l : List Bool} (k : BRow w h l) (hb : CK T w w') (hT : T 4) : BRow w' h l := by
  obtain ⟨cs, h1, h2⟩ := k
  exact ⟨cs, hb _ _ _ hT h1, h2⟩
theorem AdjAt.ck {T : TypeId → Prop} {w w' : World} {base : Nat} {v : Value} {l : List (List Bool)} {n : Nat} (h : AdjAt w base v l n) (hb : CK T w w') (h1 : T 4) (h2 : T 147) : AdjAt w' base v l n := by
  obtain ⟨vals, q1, q2⟩ := h
  refine ⟨vals, ownsRow_ck q1 hb h2, fun i x hx => ?_⟩
  obtain ⟨g, e1, e2, e3⟩ := q2 i x hx
  exact ⟨g, e1, e2.ck hb h1, e3⟩
theorem AdjAt.far {w w' : World} {base : Nat} {v : Value} {l : List (List Bool)} {n : Nat} (h : AdjAt w base v l n) (hb : Below w.heap.size w w') : AdjAt w' base v l n := h.ck (T := fun _ => True) (.of_below hb) trivial trivial
theorem CK.grown_row {w w' : World} {base n : Nat} {t : TypeId} {sz : Nat} {v : Value} {xs : List Value} (ho : w.ownsRow base t sz v n xs) (hg : w.grownBy w' v.ownBlock) : CK (fun t' => t' ≠ t) w w' := fun x cs t' ht hx => (hg.block x hx.lt (fun e => by
    rcases ho.2 with ⟨rfl, _⟩ | ⟨g0, cap, cur, rfl, _, hh, _⟩
    · cases e
    · obtain rfl : x = g0 := by simpa [Value.ownBlock] using e
      unfold Bk at hx
      rw [hh] at hx
      simp at hx
      exact ht hx.2.symm)).trans hx
theorem CK.setCell {w : World} {b o : Nat} {cs : Array Value} {t : TypeId} {u : Value} (h : Bk w b cs t) : CK (fun t' => t' ≠ t) w (w.setCell ⟨b, o, none⟩ u) := fun x cs' t' ht hx => hx.keepL (KeepL.set _ _ _ _) (by
    rw [List.mem_singleton]
    rintro rfl
    unfold Bk at h hx
    rw [h] at hx
    simp at hx
    exact ht hx.2.symm)
theorem AdjAt.push {w w' : World} {base : Nat} {v v' : Value} {l : List (List Bool)} {n h : Nat} {x : List Bool} (ha : AdjAt w base v l n) (vals : List Value) (ho : w.ownsRow base 147 1 v l.length vals)
    (hv : ∀ (i : Nat) (x : List Bool), l[i]? = some x → ∃ h, vals[i]? = some (.slice (some ⟨h, 0, none⟩) n n) ∧ BRow w h x ∧ base ≤ h) (hx : BRow w h x) (hh : base ≤ h)
    (hown : w'.ownsRow base 147 1 v' (l.length + 1) (vals ++ [.slice (some ⟨h, 0, none⟩) n n])) (hg : w.grownBy w' v.ownBlock) : AdjAt w' base v' (l ++ [x]) n := by
  have hc := CK.grown_row ho hg
  refine ⟨_, by simpa using hown, fun i y hy => ?_⟩
  have hl : vals.length = l.length := by simpa using ho.1
  rcases Nat.lt_or_ge i l.length with hi | hi
  · rw [List.getElem?_append_left hi] at hy
    obtain ⟨g, e1, e2, e3⟩ := hv i y hy
    exact ⟨g, by rw [List.getElem?_append_left (by omega)]; exact e1, e2.ck hc (by decide), e3⟩
  · rw [List.getElem?_append_right hi] at hy
    have hi0 : i - l.length = 0 := by
      have := (List.getElem?_eq_some_iff.1 hy).1
      simpa using this
    rw [hi0] at hy
    obtain rfl : x = y := by simpa using hy
    exact ⟨h, by rw [List.getElem?_append_right (by omega), show i - vals.length = 0 by omega]; rfl, hx.ck hc (by decide), hh⟩
/-- What graph hands back. -/
def GraphP (s : NS) (bits : Int) (w : World) (e : Ending) (w' : World) : Prop := ∃ G, e = .returned (.pointer (some ⟨G, 0, none⟩)) ∧ GX w' w'.heap.size G (namesG s) (graphG s bits) ∧ Below w.heap.size w w'
theorem rowG_get (s : NS) (bits : Int) (a : Nm) (k : Nat) (hk : k < s.nodes.length) : (rowG s bits a).getD k false = rowE s bits a ((namesG s).getD k []) := by
  have hl := namesG_len s
  unfold rowG
  simp only [List.getD_eq_getElem?_getD]
  rw [List.getElem?_map, List.getElem?_eq_getElem (by omega)]
  rfl
theorem graphG_has (s : NS) (bits : Int) (i j : Nat) (hi : i < s.nodes.length) (hj : j < s.nodes.length) : (graphG s bits).has i j = rowE s bits ((namesG s).getD i []) ((namesG s).getD j []) := by
  have hl := namesG_len s
  have h1 : ((namesG s).map (rowG s bits)).getD i [] = rowG s bits ((namesG s).getD i []) := by
    simp only [List.getD_eq_getElem?_getD]
    rw [List.getElem?_map, List.getElem?_eq_getElem (by omega)]
    rfl
  show (((namesG s).map (rowG s bits)).getD i []).getD j false = _
  rw [h1, rowG_get s bits _ j hj]
theorem rowG_len (s : NS) (bits : Int) (a : Nm) : (rowG s bits a).length = s.nodes.length := by unfold rowG; rw [List.length_map, namesG_len]
#print axioms AdjAt.push
end Go.Proofs.YtghjlbbalngdhaaGreatDoor
/- The contract of graph: the walk. Conditions: as the statement says. -/
namespace Go.Proofs.YtghjlbbalngdhaaGreatDoor
open Go.RowKit
set_option linter.unusedVariables false
set_option linter.unusedSimpArgs false
theorem Bk.setB {w : World} {b o b2 : Nat} {cs cs2 : Array Value} {t t2 : TypeId} (h : Bk w b cs t) (h2 : Bk w b2 cs2 t2) (hne : t ≠ t2) (u : Value) : Bk (w.setCell ⟨b2, o, none⟩ u) b cs t := CK.setCell h2 _ _ _ hne h
theorem Bk.setRow {w : World} {b : Nat} {cs : Array Value} {t : TypeId} (h : Bk w b cs t) (cs' : Array Value) : Bk (w.setRow b cs') b cs' t := by
  unfold Bk at h ⊢
  simp only [World.setRow, Array.getElem?_modify, if_true, h, Option.map_some]
/-- The state of graph behind k rows. -/
structure GrS (w : World) (s : NS) (bits : Int) (g0 : Nat) (A : Option Addr) (c k : Nat) (v : Value) (W : World) : Prop where
  blk : Bk W g0 #[.slice A s.nodes.length c, v, .slice (some ⟨g0 + 1, 0, none⟩) s.nodes.length s.nodes.length, .bool false] 149
  out : BRow W (g0 + 1) (List.replicate s.nodes.length false)
  names : Rd W g0 1 A s.nodes.length ((namesG s).map encS)
  adj : AdjAt W g0 v (((namesG s).take k).map (rowG s bits)) s.nodes.length
  nil : k = 0 → v = .slice none 0 0
  low : Below w.heap.size w W
  hg : w.heap.size ≤ g0
theorem GrS.far {w : World} {s : NS} {bits : Int} {g0 : Nat} {A : Option Addr} {c k : Nat} {v : Value} {W W' : World} (h : GrS w s bits g0 A c k v W) (hb : Below W.heap.size W W') : GrS w s bits g0 A c k v W' := by
  obtain ⟨cs, q1, q2⟩ := h.out
  exact ⟨h.blk.past hb h.blk.lt, ⟨cs, q1.past hb q1.lt, q2⟩, h.names.below (hb.mono (Nat.le_of_lt h.blk.lt)), h.adj.far hb, h.nil, bnextK h.low hb, h.hg⟩
set_option maxRecDepth 100000 in
set_option maxHeartbeats 8000000 in
theorem graph_any {w : World} {N : Nat} {s : NS} {bn bl : Nat} {vh vs : Value} (h : NetAt w N s bn bl vh vs) (bits : Int) (hn1 : 1 ≤ s.nodes.length) :
    Calls Tryz.prog 65 #[.pointer (some ⟨N, 0, none⟩), .int .i64 bits] w (GraphP s bits w) := by
  have hmk := fun w => make_bool33 w s.nodes.length (by have := h.ok.nn; omega)
  have hn16 := h.ok.nn
  have HN := Lib.hid (Nodes_any h)
  have HP : Hid (∀ x y : Nm, x ∈ s.nodes → y ∈ s.nodes → (pairOf x y).1.length ≤ maxLen ∧ (pairOf x y).2.length ≤ maxLen) := Lib.hid fun x y hx hy => pairOf_len x y (by have := (named_len (h.ok.named x hx)).2; unfold maxLen; omega) (by have := (named_len (h.ok.named y hy)).2; unfold maxLen; omega)
  have HL : Hid (∀ x : Nm, x ∈ s.nodes → x.length ≤ maxLen) := Lib.hid fun x hx => by have := (named_len (h.ok.named x hx)).2; unfold maxLen; omega
  have HB := Lib.hid (fun (a b : Nm) W => between_any a b W)
  have hNw := h.blk.lt
  have H := Lib.hid h
  clear h
  go_enter Tryz.func65, Tryz.ntmps65
  go_wp2_with fail
  refine HN.out.mono ?_
  rintro e w1 ⟨A, c, rfl, hc, ho, _, hb1⟩
  have HO := Lib.hid ho; have HB1 := Lib.hid hb1
  have hs1 := hb1.size
  clear ho hb1 HN
  go_wp2_with fail
  obtain ⟨w2, hw2⟩ : ∃ z, z = (w1.alloc (.cells #[.slice A s.nodes.length c, .slice none 0 0, .slice (some ⟨w1.heap.size + 1, 0, none⟩) s.nodes.length s.nodes.length, .bool false] 149)).alloc (.cells (Array.replicate s.nodes.length (.bool false)) 4) := ⟨_, rfl⟩
  have HG0 : Hid (GrS w s bits w1.heap.size A c 0 (.slice none 0 0) w2) := Lib.hid (by
    have e := alloc2_below w1 (.cells #[.slice A s.nodes.length c, .slice none 0 0, .slice (some ⟨w1.heap.size + 1, 0, none⟩) s.nodes.length s.nodes.length, .bool false] 149) (.cells (Array.replicate s.nodes.length (.bool false)) 4)
    have k0 := (boxes2 w1 #[.slice A s.nodes.length c, .slice none 0 0, .slice (some ⟨w1.heap.size + 1, 0, none⟩) s.nodes.length s.nodes.length, .bool false] (Array.replicate s.nodes.length (.bool false)) 149 4).1
    have k1 := BRow.zeros (w1.alloc (.cells #[.slice A s.nodes.length c, .slice none 0 0, .slice (some ⟨w1.heap.size + 1, 0, none⟩) s.nodes.length s.nodes.length, .bool false] 149)) s.nodes.length
    rw [World.size_alloc] at k1
    rw [← hw2] at e k0 k1
    refine ⟨k0, k1, ?_, ⟨[], World.ownsRow_nil _ _ _ _, by simp⟩, fun _ => rfl, HB1.out.trans (e.mono HB1.out.size), HB1.out.size⟩
    exact (Rd.own HO.out).below e)
  have HW2 := Lib.hid hw2
  clear hw2 HO HB1
  rw [← HW2.out]
  clear HW2
  generalize hg0 : w1.heap.size = g0 at *
  clear hg0 hs1
  go_loopw [7, 8, 9, 10, 11, 12, 31] (fun _ _ _ _ _ _ i wr => ∃ (k : Nat) (v : Value), k ≤ s.nodes.length ∧ i = .int .i64 k ∧ GrS w s bits g0 A c k v wr) (fun _ _ _ _ _ _ i _ => s.nodes.length - (intOf i).toNat)
  case atStart => exact ⟨0, _, Nat.zero_le _, rfl, HG0.out⟩
  case round =>
    obtain ⟨k, v, hk, rfl, hgr⟩ := hrel
    obtain ⟨wa, rfl⟩ : ∃ z : World, z = wr := ⟨_, rfl⟩
    have HGR := Lib.hid hgr
    have b0 := hgr.blk.cell 0; have b1 := hgr.blk.cell 1
    have f1 := hgr.blk.froz 1
    simp only [List.getElem?_toArray, List.getElem?_cons_succ, List.getElem?_cons_zero] at b0 b1
    have hl := namesG_len s
    have hga := hgr.blk.lt
    clear hgr HG0
    by_cases hlt : k < s.nodes.length
    · have hki : (k : Int) < (s.nodes.length : Int) := by omega
      obtain ⟨b, off, rfl, hbl, hcell⟩ := HGR.out.names.2 (by omega)
      obtain ⟨a, ha⟩ : ∃ a, (namesG s)[k]? = some a := ⟨(namesG s)[k]'(by omega), List.getElem?_eq_getElem (by omega)⟩
      have ham : a ∈ s.nodes := namesG_mem.1 (List.mem_of_getElem? ha)
      have ca := hcell k (encS a) (by rw [List.getElem?_map, ha]; rfl)
      have HA := Lib.hid ha
      clear hcell ha
      go_wp2_with fail
      obtain ⟨w3, hw3⟩ : ∃ z, z = wa.alloc (.cells (Array.replicate s.nodes.length (.bool false)) 4) := ⟨_, rfl⟩
      have HR0 : Hid (BRow w3 wa.heap.size (fillR (rowG s bits a) 0) ∧ Below wa.heap.size wa w3) := Lib.hid (by
        rw [hw3]
        refine ⟨?_, below_alloc _ _⟩
        rw [fillR_zero, rowG_len]
        exact BRow.zeros wa _)
      rw [← hw3]
      clear hw3
      go_loopg [9, 10, 11, 12, 46] (s.nodes.length + 1) (fun g _ _ _ _ i wr => ∃ k2 : Nat, k2 ≤ s.nodes.length ∧ s.nodes.length - k2 < g ∧ i = .int .i64 k2 ∧ BRow wr wa.heap.size (fillR (rowG s bits a) k2) ∧ Below wa.heap.size wa wr)
      case atStart => exact ⟨0, Nat.zero_le _, by omega, rfl, HR0.out⟩
      case round =>
        obtain ⟨k2, hk2, hg2, rfl, hr2, hb2⟩ := hrel
        obtain ⟨g', rfl⟩ : ∃ g', gk = g' + 1 := ⟨gk - 1, by omega⟩
        obtain ⟨wi, rfl⟩ : ∃ z : World, z = wr := ⟨_, rfl⟩
        have HR2 := Lib.hid hr2; have HB2 := Lib.hid hb2
        clear HR0
        have hGi := HGR.out.far hb2
        have HGI := Lib.hid hGi
        have d0 := hGi.blk.cell 0; have d1 := hGi.blk.cell 1
        have fd1 := hGi.blk.froz 1
        simp only [List.getElem?_toArray, List.getElem?_cons_succ, List.getElem?_cons_zero] at d0 d1
        clear hr2 hb2 hGi
        by_cases hlt2 : k2 < s.nodes.length
        · have hki2 : (k2 : Int) < (s.nodes.length : Int) := by omega
          obtain ⟨b', off', he', _, hcell'⟩ := HGI.out.names.2 (by omega)
          injection he' with he'; injection he' with e1 e2 _
          subst e1; subst e2
          obtain ⟨y, hy⟩ : ∃ y, (namesG s)[k2]? = some y := ⟨(namesG s)[k2]'(by omega), List.getElem?_eq_getElem (by omega)⟩
          have hym : y ∈ s.nodes := namesG_mem.1 (List.mem_of_getElem? hy)
          have cy := hcell' k2 (encS y) (by rw [List.getElem?_map, hy]; rfl)
          have HY := Lib.hid hy
          clear hcell' hy b0 b1 f1 ca
          have HNI := Lib.hid (H.out.far HGI.out.low)
          have hpl := HP.out a y ham hym
          have HS0 : Hid (∀ W, Below wi.heap.size wi W → W.cell? ⟨N, 1, none⟩ = some (.map (some bl)) ∧ (Instr.lookup 24 (.map (some bl)) (.agg #[encS (pairOf a y).1, encS (pairOf a y).2]) true).run Tryz.prog W = .ok (.tuple #[lkV (if pairOf a y ∈ s.pairs then s.lk (pairOf a y) else lk0), .bool (decide (pairOf a y ∈ s.pairs))]) W) := Lib.hid fun W hW => by
            have c1 := (HNI.out.far hW).blk.cell 1
            simp only [List.getElem?_toArray, List.getElem?_cons_succ, List.getElem?_cons_zero] at c1
            exact ⟨c1, links_look (HNI.out.far hW) (pairOf a y) hpl true⟩
          have HNOW : Hid (Below wi.heap.size wi wi.drew) := Lib.hid (Qw.below ⟨1, rfl⟩ _)
          have HBY := Lib.hid (HB.out a y)
          obtain ⟨q, hq⟩ : ∃ q, q = pairOf a y := ⟨_, rfl⟩
          obtain ⟨lq, hlq⟩ : ∃ lq, lq = (if q ∈ s.pairs then s.lk q else lk0) := ⟨_, rfl⟩
          obtain ⟨iq, hiq⟩ : ∃ iq, iq = decide (q ∈ s.pairs) := ⟨_, rfl⟩
          rw [← hq] at HS0 HBY
          rw [← hlq, ← hiq] at HS0
          have HQ := Lib.hid hq; have HLQ := Lib.hid hlq; have HIQ := Lib.hid hiq
          clear hq hlq hiq
          obtain ⟨x1, x2, x3, x4, x5, x6, x7⟩ := lq
          simp only [lkV] at HS0
          go_wp2_with fail
          go_cut [11, 12, 46] from 46 to 96 (fun v11 v12 v46 wc => v46 = .int .i64 k2 ∧ v12 = .bool iq ∧ ∃ X, v11 = .pointer (some ⟨X, 0, none⟩) ∧ Bk wc X #[.int .i64 x1, .int .i64 x2, .int .i64 x3, .int .i64 x4, .int .i64 x5, .int .i64 x6, .int .i64 x7] 81 ∧ Below wi.heap.size wi wc ∧ wi.heap.size ≤ X)
          case first =>
            refine wp_region_held_drew (S := (fun W => W.cell? ⟨N, 1, none⟩ = some (.map (some bl)) ∧ (Instr.lookup 24 (.map (some bl)) (.agg #[encS q.1, encS q.2]) true).run Tryz.prog W = .ok (.tuple #[.agg #[.int .i64 x1, .int .i64 x2, .int .i64 x3, .int .i64 x4, .int .i64 x5, .int .i64 x6, .int .i64 x7], .bool iq]) W)) (by kernel_rfl) ?_ (fun hHeld => ?_)
            · (try dsimp only); first | exact HS0.out _ HNOW.out | exact HS0.out _ (below_alloc_drew _ _) | exact HS0.out _ (bnextK HNOW.out (below_alloc _ _))
            refine wpAnyH_take (i := 0) (oi := ⟨some 52, _, _, _, _, _⟩) (v := ?_) rfl (by kernel_rfl) (by kernel_rfl) (by kernel_rfl) (fun _ _ _ h => h) (Or.inl ⟨by rfl, ?_⟩) (by assumption) ?_
            rotate_left
            · (intro w hSw; (try dsimp only at hSw); go_simp; try with_reducible rfl)
            try simp only [Act.put, List.setIfInBounds_toArray, List.set_cons_zero, List.set_cons_succ]
            refine wpAnyH_take (i := 1) (oi := ⟨some 53, _, _, _, _, _⟩) (v := ?_) rfl (by kernel_rfl) (by kernel_rfl) (by kernel_rfl) (fun _ _ _ h => h) (Or.inl ⟨by rfl, ?_⟩) (by assumption) ?_
            rotate_left
            · (intro w hSw; (try dsimp only at hSw); go_simp; try with_reducible rfl)
            try simp only [Act.put, List.setIfInBounds_toArray, List.set_cons_zero, List.set_cons_succ]
            refine wpAnyH_take (i := 2) (oi := ⟨some 54, _, _, _, _, _⟩) (v := ?_) rfl (by kernel_rfl) (by kernel_rfl) (by kernel_rfl) (fun _ _ _ h => h) (Or.inl ⟨by rfl, ?_⟩) (by assumption) ?_
            rotate_left
            · (intro w hSw; (try dsimp only at hSw); go_simp; try with_reducible rfl)
            try simp only [Act.put, List.setIfInBounds_toArray, List.set_cons_zero, List.set_cons_succ]
            refine wpAnyH_take (i := 3) (oi := ⟨some 55, _, _, _, _, _⟩) (v := ?_) rfl (by kernel_rfl) (by kernel_rfl) (by kernel_rfl) (fun _ _ _ h => h) (Or.inl ⟨by rfl, ?_⟩) (by assumption) ?_
            rotate_left
            · (intro w hSw; (try dsimp only at hSw); go_simp; try with_reducible rfl)
            try simp only [Act.put, List.setIfInBounds_toArray, List.set_cons_zero, List.set_cons_succ]
            refine wpAnyH_take (i := 4) (oi := ⟨some 56, _, _, _, _, _⟩) (v := ?_) rfl (by kernel_rfl) (by kernel_rfl) (by kernel_rfl) (fun _ _ _ h => h) (Or.inl ⟨by rfl, ?_⟩) (by assumption) ?_
            rotate_left
            · (intro w hSw; (try dsimp only at hSw); go_simp; try with_reducible rfl)
            try simp only [Act.put, List.setIfInBounds_toArray, List.set_cons_zero, List.set_cons_succ]
            refine wpAnyH_take (i := 5) (oi := ⟨some 57, _, _, _, _, _⟩) (v := ?_) rfl (by kernel_rfl) (by kernel_rfl) (by kernel_rfl) (fun _ _ _ h => h) (Or.inl ⟨by rfl, ?_⟩) (by assumption) ?_
            rotate_left
            · (intro w hSw; (try dsimp only at hSw); go_simp; try with_reducible rfl)
            try simp only [Act.put, List.setIfInBounds_toArray, List.set_cons_zero, List.set_cons_succ]
            refine wpAnyH_ready (rs := [6, 11]) (by kernel_rfl) (by simp) ?_
            refine AllReadyH.cons (o := ⟨some 58, _, _, _, _, _⟩) rfl (fun K hK => ?_) ?_
            · skip
              go_simp
              refine (HBY.out _).mono ?_
              rintro e w3' ⟨rfl, b3⟩
              have HNOW := Lib.hid (bnextK HNOW.out b3)
              go_wp2_with fail
              refine hK.out _ _ ?_ (fun hHeld => ?_)
              · (try dsimp only); first | exact HS0.out _ HNOW.out | exact HS0.out _ (below_alloc_drew _ _) | exact HS0.out _ (bnextK HNOW.out (below_alloc _ _))
              clear hK K
              try simp only [Act.put, List.setIfInBounds_toArray, List.set_cons_zero, List.set_cons_succ]
              refine wpAnyH_take (i := 7) (oi := ⟨some 59, _, _, _, _, _⟩) (v := ?_) rfl (by kernel_rfl) (by kernel_rfl) (by kernel_rfl) (fun _ _ _ h => h) (Or.inl ⟨by rfl, ?_⟩) (by assumption) ?_
              rotate_left
              · (intro w hSw; (try dsimp only at hSw); go_simp; try with_reducible rfl)
              try simp only [Act.put, List.setIfInBounds_toArray, List.set_cons_zero, List.set_cons_succ]
              refine wpAnyH_take (i := 8) (oi := ⟨some 51, _, _, _, _, _⟩) (v := ?_) rfl (by kernel_rfl) (by kernel_rfl) (by kernel_rfl) (fun _ _ _ h => h) (Or.inl ⟨by rfl, ?_⟩) (by assumption) ?_
              rotate_left
              · (intro w hSw; (try dsimp only at hSw); go_simp; try with_reducible rfl)
              try simp only [Act.put, List.setIfInBounds_toArray, List.set_cons_zero, List.set_cons_succ]
              refine wpAnyH_take (i := 9) (oi := ⟨some 60, _, _, _, _, _⟩) (v := ?_) rfl (by kernel_rfl) (by kernel_rfl) (by kernel_rfl) (fun _ _ _ h => h) (Or.inl ⟨by rfl, ?_⟩) (by assumption) ?_
              rotate_left
              · (intro w hSw; (try dsimp only at hSw); go_simp; try with_reducible rfl)
              try simp only [Act.put, List.setIfInBounds_toArray, List.set_cons_zero, List.set_cons_succ]
              refine wpAnyH_take (i := 10) (oi := ⟨some 61, _, _, _, _, _⟩) (v := ?_) rfl (by kernel_rfl) (by kernel_rfl) (by kernel_rfl) (fun _ _ _ h => h) (Or.inl ⟨by rfl, ?_⟩) (by assumption) ?_
              rotate_left
              · (intro w hSw; (try dsimp only at hSw); go_simp; try with_reducible rfl)
              try simp only [Act.put, List.setIfInBounds_toArray, List.set_cons_zero, List.set_cons_succ]
              refine wpAnyH_ready (rs := [11]) (by kernel_rfl) (by simp) ?_
              refine AllReadyH.cons (o := ⟨some 11, _, _, _, _, _⟩) rfl (fun K hK => ?_) AllReadyH.nil
              go_simp
              refine hK.out _ _ ?_ (fun hHeld => ?_)
              · (try dsimp only); first | exact HS0.out _ HNOW.out | exact HS0.out _ (below_alloc_drew _ _) | exact HS0.out _ (bnextK HNOW.out (below_alloc _ _))
              clear hK K
              try simp only [Act.put, List.setIfInBounds_toArray, List.set_cons_zero, List.set_cons_succ]
              refine wpAnyH_ready (rs := [12]) (by kernel_rfl) (by simp) ?_
              refine AllReadyH.cons (o := ⟨none, _, _, _, _, _⟩) rfl (fun K hK => ?_) AllReadyH.nil
              refine step_store_row 81 _ _ rfl rfl _ #[.int .i64 x1, .int .i64 x2, .int .i64 x3, .int .i64 x4, .int .i64 x5, .int .i64 x6, .int .i64 x7] rfl rfl _ _ (Bk.new _ _ _) rfl rfl (by simp [Value.oneCell']) ?_
              rw [World.setRow_alloc_new]
              have HBX := Lib.hid (Bk.new w3' #[.int .i64 x1, .int .i64 x2, .int .i64 x3, .int .i64 x4, .int .i64 x5, .int .i64 x6, .int .i64 x7] 81)
              have HXL := Lib.hid HNOW.out.size
              have HNOW := Lib.hid (bnextK HNOW.out (below_alloc w3' (.cells #[.int .i64 x1, .int .i64 x2, .int .i64 x3, .int .i64 x4, .int .i64 x5, .int .i64 x6, .int .i64 x7] 81)))
              refine hK.out _ _ ?_ (fun hHeld => ?_)
              · (try dsimp only); first | exact HS0.out _ HNOW.out | exact HS0.out _ (below_alloc_drew _ _) | exact HS0.out _ (bnextK HNOW.out (below_alloc _ _))
              clear hK K
              try simp only [Act.put, List.setIfInBounds_toArray, List.set_cons_zero, List.set_cons_succ]
              refine wpAnyH_take (i := 13) (oi := ⟨some 12, _, _, _, _, _⟩) (v := ?_) rfl (by kernel_rfl) (by kernel_rfl) (by kernel_rfl) (fun _ _ _ h => h) (Or.inl ⟨by rfl, ?_⟩) (by assumption) ?_
              rotate_left
              · (intro w hSw; (try dsimp only at hSw); go_simp; try with_reducible rfl)
              try simp only [Act.put, List.setIfInBounds_toArray, List.set_cons_zero, List.set_cons_succ]
              refine wpAnyH_done (by kernel_rfl) ?_ _
              go_wp2_with fail
              go_meet
              exact ⟨rfl, rfl, _, rfl, HBX.out, HNOW.out, HXL.out⟩
            refine AllReadyH.cons (o := ⟨some 11, _, _, _, _, _⟩) rfl (fun K hK => ?_) AllReadyH.nil
            go_simp
            refine hK.out _ _ ?_ (fun hHeld => ?_)
            · (try dsimp only); first | exact HS0.out _ HNOW.out | exact HS0.out _ (below_alloc_drew _ _) | exact HS0.out _ (bnextK HNOW.out (below_alloc _ _))
            clear hK K
            try simp only [Act.put, List.setIfInBounds_toArray, List.set_cons_zero, List.set_cons_succ]
            refine wpAnyH_ready (rs := [6]) (by kernel_rfl) (by simp) ?_
            refine AllReadyH.cons (o := ⟨some 58, _, _, _, _, _⟩) rfl (fun K hK => ?_) AllReadyH.nil
            go_simp
            refine (HBY.out _).mono ?_
            rintro e w3' ⟨rfl, b3⟩
            have KB := Lib.hid ((box_drew wi _ _).past b3 (box_drew wi _ _).lt)
            have HNOW := Lib.hid (bnextK (below_alloc_drew wi _) b3)
            go_wp2_with fail
            refine hK.out _ _ ?_ (fun hHeld => ?_)
            · (try dsimp only); first | exact HS0.out _ HNOW.out | exact HS0.out _ (below_alloc_drew _ _) | exact HS0.out _ (bnextK HNOW.out (below_alloc _ _))
            clear hK K
            try simp only [Act.put, List.setIfInBounds_toArray, List.set_cons_zero, List.set_cons_succ]
            refine wpAnyH_take (i := 7) (oi := ⟨some 59, _, _, _, _, _⟩) (v := ?_) rfl (by kernel_rfl) (by kernel_rfl) (by kernel_rfl) (fun _ _ _ h => h) (Or.inl ⟨by rfl, ?_⟩) (by assumption) ?_
            rotate_left
            · (intro w hSw; (try dsimp only at hSw); go_simp; try with_reducible rfl)
            try simp only [Act.put, List.setIfInBounds_toArray, List.set_cons_zero, List.set_cons_succ]
            refine wpAnyH_take (i := 8) (oi := ⟨some 51, _, _, _, _, _⟩) (v := ?_) rfl (by kernel_rfl) (by kernel_rfl) (by kernel_rfl) (fun _ _ _ h => h) (Or.inl ⟨by rfl, ?_⟩) (by assumption) ?_
            rotate_left
            · (intro w hSw; (try dsimp only at hSw); go_simp; try with_reducible rfl)
            try simp only [Act.put, List.setIfInBounds_toArray, List.set_cons_zero, List.set_cons_succ]
            refine wpAnyH_take (i := 9) (oi := ⟨some 60, _, _, _, _, _⟩) (v := ?_) rfl (by kernel_rfl) (by kernel_rfl) (by kernel_rfl) (fun _ _ _ h => h) (Or.inl ⟨by rfl, ?_⟩) (by assumption) ?_
            rotate_left
            · (intro w hSw; (try dsimp only at hSw); go_simp; try with_reducible rfl)
            try simp only [Act.put, List.setIfInBounds_toArray, List.set_cons_zero, List.set_cons_succ]
            refine wpAnyH_take (i := 10) (oi := ⟨some 61, _, _, _, _, _⟩) (v := ?_) rfl (by kernel_rfl) (by kernel_rfl) (by kernel_rfl) (fun _ _ _ h => h) (Or.inl ⟨by rfl, ?_⟩) (by assumption) ?_
            rotate_left
            · (intro w hSw; (try dsimp only at hSw); go_simp; try with_reducible rfl)
            try simp only [Act.put, List.setIfInBounds_toArray, List.set_cons_zero, List.set_cons_succ]
            refine wpAnyH_ready (rs := [12]) (by kernel_rfl) (by simp) ?_
            refine AllReadyH.cons (o := ⟨none, _, _, _, _, _⟩) rfl (fun K hK => ?_) AllReadyH.nil
            refine step_store_row 81 _ _ rfl rfl wi.heap.size #[.int .i64 x1, .int .i64 x2, .int .i64 x3, .int .i64 x4, .int .i64 x5, .int .i64 x6, .int .i64 x7] rfl rfl _ _ KB.out rfl rfl (by simp [Value.oneCell']) ?_
            have HBX := Lib.hid (Bk.setRow KB.out #[.int .i64 x1, .int .i64 x2, .int .i64 x3, .int .i64 x4, .int .i64 x5, .int .i64 x6, .int .i64 x7])
            have HXL : Hid (wi.heap.size ≤ wi.heap.size) := Lib.hid (Nat.le_refl _)
            have HNOW := Lib.hid (HNOW.out.trans (below_setRow (cs := #[.int .i64 x1, .int .i64 x2, .int .i64 x3, .int .i64 x4, .int .i64 x5, .int .i64 x6, .int .i64 x7]) (Nat.le_refl _)))
            refine hK.out _ _ ?_ (fun hHeld => ?_)
            · (try dsimp only); first | exact HS0.out _ HNOW.out | exact HS0.out _ (below_alloc_drew _ _) | exact HS0.out _ (bnextK HNOW.out (below_alloc _ _))
            clear hK K
            try simp only [Act.put, List.setIfInBounds_toArray, List.set_cons_zero, List.set_cons_succ]
            refine wpAnyH_take (i := 13) (oi := ⟨some 12, _, _, _, _, _⟩) (v := ?_) rfl (by kernel_rfl) (by kernel_rfl) (by kernel_rfl) (fun _ _ _ h => h) (Or.inl ⟨by rfl, ?_⟩) (by assumption) ?_
            rotate_left
            · (intro w hSw; (try dsimp only at hSw); go_simp; try with_reducible rfl)
            try simp only [Act.put, List.setIfInBounds_toArray, List.set_cons_zero, List.set_cons_succ]
            refine wpAnyH_done (by kernel_rfl) ?_ _
            go_wp2_with fail
            go_meet
            exact ⟨rfl, rfl, _, rfl, HBX.out, HNOW.out, HXL.out⟩
          case rest =>
            obtain ⟨w6, rfl⟩ : ∃ z : World, z = wc := ⟨_, rfl⟩
            obtain ⟨rfl, rfl, X, rfl, hbx, hb6, hX⟩ := hcut
            have hR6 : BRow w6 wa.heap.size (fillR (rowG s bits a) k2) := by
              obtain ⟨cs, q1, q2⟩ := HR2.out
              exact ⟨cs, q1.past hb6 q1.lt, q2⟩
            have hlr : k2 < (fillR (rowG s bits a) k2).length := by rw [fillR_len _ _ (by rw [rowG_len]; omega), rowG_len]; exact hlt2
            have cr := hR6.cell hlr
            have fr := hR6.froz k2
            have HSET : Hid (∀ b : Bool, rowE s bits a y = b → BRow (w6.setCell ⟨wa.heap.size, k2, none⟩ (.bool b)) wa.heap.size (fillR (rowG s bits a) (k2 + 1))) := Lib.hid fun b hb => by
              rw [← fillR_set _ _ (by rw [rowG_len]; exact hlt2), rowG_get _ _ _ _ hlt2]
              have e : (namesG s).getD k2 [] = y := by rw [List.getD_eq_getElem?_getD, HY.out]; rfl
              rw [e, hb]
              exact hR6.set hlr b
            have HBW : Hid (∀ u, Below wa.heap.size wa (w6.setCell ⟨wa.heap.size, k2, none⟩ u)) := Lib.hid fun u => (bnextK HB2.out hb6).setCell (p := ⟨wa.heap.size, k2, none⟩) (Nat.le_refl _) u
            have hN6 := HNI.out.far hb6
            have e0 := hN6.blk.cell 0
            simp only [List.getElem?_toArray, List.getElem?_cons_zero] at e0
            have hfa := nodes_look hN6 a (HL.out a ham) false
            have hfy := nodes_look hN6 y (HL.out y hym) false
            have e4 := hbx.cell 4
            simp only [List.getElem?_toArray, List.getElem?_cons_succ, List.getElem?_cons_zero] at e4
            have HRE : Hid (∀ b, (iq && decide (a ≠ y) && !fenB s a && !fenB s y && decide (bits ≤ x5)) = b → rowE s bits a y = b) := Lib.hid fun b hb => by
              rw [← hb, HIQ.out]
              unfold rowE
              rw [← HQ.out]
              by_cases hm : q ∈ s.pairs
              · have := HLQ.out
                rw [if_pos hm] at this
                rw [← this]
              · simp [hm]
            change (Instr.lookup 23 (.map (some bn)) (encS a) false).run Tryz.prog w6 = .ok (.bool (fenB s a)) w6 at hfa
            change (Instr.lookup 23 (.map (some bn)) (encS y) false).run Tryz.prog w6 = .ok (.bool (fenB s y)) w6 at hfy
            generalize fenB s a = fa at *
            generalize fenB s y = fy at *
            clear hbx hb6 hN6 hR6 hlr HS0 d0 d1 fd1
            cases iq with
            | false =>
              have HV : Hid (rowE s bits a y = false) := Lib.hid (HRE.out _ (by simp))
              go_wp2_with fail
              go_roundg g'
              case measure => omega
              case rel => exact ⟨k2 + 1, by omega, by omega, by go_num, HSET.out _ HV.out, HBW.out _⟩
            | true =>
              by_cases hay : a = y
              · have hq1 : (a == y) = true := by simp [hay]
                have hq2 : (a != y) = false := by simp [hay]
                have HV : Hid (rowE s bits a y = false) := Lib.hid (HRE.out _ (by simp [hay]))
                go_wp2_with fail
                go_roundg g'
                case measure => omega
                case rel => exact ⟨k2 + 1, by omega, by omega, by go_num, HSET.out _ HV.out, HBW.out _⟩
              · have hq1 : (a == y) = false := by simp [hay]
                have hq2 : (a != y) = true := by simp [hay]
                cases fa with
                | true =>
                  have HV : Hid (rowE s bits a y = false) := Lib.hid (HRE.out _ (by simp))
                  go_wp2_with fail
                  go_roundg g'
                  case measure => omega
                  case rel => exact ⟨k2 + 1, by omega, by omega, by go_num, HSET.out _ HV.out, HBW.out _⟩
                | false =>
                  cases fy with
                  | true =>
                    have HV : Hid (rowE s bits a y = false) := Lib.hid (HRE.out _ (by simp))
                    go_wp2_with fail
                    go_roundg g'
                    case measure => omega
                    case rel => exact ⟨k2 + 1, by omega, by omega, by go_num, HSET.out _ HV.out, HBW.out _⟩
                  | false =>
                    by_cases hbf : bits ≤ x5
                    · have HV : Hid (rowE s bits a y = true) := Lib.hid (HRE.out _ (by simp [hay, hbf]))
                      go_wp2_with fail
                      go_roundg g'
                      case measure => omega
                      case rel => exact ⟨k2 + 1, by omega, by omega, by go_num, HSET.out _ HV.out, HBW.out _⟩
                    · have HV : Hid (rowE s bits a y = false) := Lib.hid (HRE.out _ (by simp [hbf]))
                      go_wp2_with fail
                      go_roundg g'
                      case measure => omega
                      case rel => exact ⟨k2 + 1, by omega, by omega, by go_num, HSET.out _ HV.out, HBW.out _⟩
        · have hki2 : ¬ (k2 : Int) < (s.nodes.length : Int) := by omega
          obtain rfl : k2 = s.nodes.length := by omega
          have HRW : Hid (BRow wi wa.heap.size (rowG s bits a)) := Lib.hid (by
            have := HR2.out
            have e := fillR_all (rowG s bits a)
            rw [rowG_len] at e
            rw [e] at this; exact this)
          obtain ⟨vals, hov, hvv⟩ := HGI.out.adj
          obtain ⟨Av, cv, rfl, hcv⟩ := own_form hov
          have HOV := Lib.hid hov; have HVV := Lib.hid hvv
          have hgw : g0 ≤ wi.heap.size := Nat.le_of_lt HGI.out.blk.lt
          have hga' : g0 ≤ wa.heap.size := Nat.le_of_lt hga
          have hlen : (((namesG s).take k).map (rowG s bits)).length = k := by rw [List.length_map, List.length_take]; omega
          have HLEN := Lib.hid hlen
          have HTK : Hid (((namesG s).take (k + 1)).map (rowG s bits) = ((namesG s).take k).map (rowG s bits) ++ [rowG s bits a]) := Lib.hid (by
            obtain ⟨h1, h2⟩ := List.getElem?_eq_some_iff.1 HA.out
            rw [List.take_succ_eq_append_getElem h1, List.map_append, h2]; rfl)
          rw [hlen] at hov d1
          have HOK := Lib.hid hov
          clear hov hvv b0 b1 f1 ca hlen d0
          go_wp2_with (at_builtin
                       refine wpList_pushL elB_bools9 (.tmp 101) (.tmp 103) rfl rfl g0 k _ rfl HOK.out rfl rfl (one_cell1 rfl) (by omega) (by decide) hgw ?_
                       intro v9 w9 hown9 hb9 hg9 _
                       obtain ⟨A9, d9, rfl, hd9⟩ := own_form hown9
                       have HC9 := Lib.hid (CK.grown_row HOK.out hg9)
                       have hkb9 := HC9.out _ _ _ (by decide) HGI.out.blk
                       have q1 := hkb9.cell 1
                       simp only [List.getElem?_toArray, List.getElem?_cons_succ, List.getElem?_cons_zero] at q1
                       have qf := hkb9.froz 1
                       have HG9 : Hid (GrS w s bits g0 (some ⟨b, off, none⟩) c (k + 1) (.slice A9 (k + 1) d9) (w9.setCell ⟨g0, 1, none⟩ (.slice A9 (k + 1) d9))) := Lib.hid (by
                         have hset : CK (fun t => t ≠ 149) w9 (w9.setCell ⟨g0, 1, none⟩ (.slice A9 (k + 1) d9)) := CK.setCell hkb9
                         have hpush := AdjAt.push HGI.out.adj vals HOV.out HVV.out HRW.out hga' (by rw [HLEN.out]; exact hown9) (by rw [HLEN.out] ; exact hg9)
                         refine ⟨hkb9.set 1 _, (HGI.out.out.ck HC9.out (by decide)).ck hset (by decide), (HGI.out.names.below hb9).setCell (p := ⟨g0, 1, none⟩) (Nat.le_refl _) _, ?_, fun e => by omega, (HGI.out.low.trans (hb9.mono HGI.out.hg)).setCell (p := ⟨g0, 1, none⟩) HGI.out.hg _, HGI.out.hg⟩
                         rw [HTK.out]
                         exact hpush.ck hset (by decide) (by decide))
                       clear hown9 hb9 hg9 hkb9)
          go_roundw
          case rel => exact ⟨k + 1, _, by omega, by go_num, HG9.out⟩
          case measure => simp [intOf]; omega
    · have hki : ¬ (k : Int) < (s.nodes.length : Int) := by omega
      obtain rfl : k = s.nodes.length := by omega
      have HGX : Hid (GX wa wa.heap.size g0 (namesG s) (graphG s bits)) := Lib.hid (by
        obtain ⟨vals, hov, hvv⟩ := HGR.out.adj
        have hall : (namesG s).take s.nodes.length = namesG s := List.take_of_length_le (by omega)
        rw [hall] at hov hvv
        have hlen : ((namesG s).map (rowG s bits)).length = s.nodes.length := by rw [List.length_map, hl]
        rw [hlen] at hov
        rcases hov.2 with ⟨_, h0⟩ | ⟨g, cap, cur, hv, hg1, hh, hcap, _, _, htk⟩
        · omega
        · have hvl : vals.length = s.nodes.length := by have := hov.1; omega
          refine ⟨⟨hl.symm, hn1, hn16⟩, ⟨hlen, fun r hr => ?_⟩, List.length_replicate, A, c, g, 0, cap, g0 + 1, s.nodes.length, ?_, ?_, ⟨(Array.getElem?_eq_some_iff.1 hh).1, fun i hi => ?_⟩, Nat.le_refl _, HGR.out.out⟩
          · obtain ⟨a, _, rfl⟩ := List.mem_map.1 hr
            exact rowG_len s bits a
          · have := HGR.out.blk
            rw [hv] at this
            exact this
          · exact HGR.out.names.mono (Nat.le_of_lt hga)
          · have hi' : i < (namesG s).length := by rw [hl]; exact hi
            obtain ⟨h1, e1, e2, e3⟩ := hvv i (rowG s bits ((namesG s).getD i [])) (by rw [List.getElem?_map, List.getElem?_eq_getElem hi', List.getD_eq_getElem?_getD, List.getElem?_eq_getElem hi']; rfl)
            refine ⟨h1, 0, s.nodes.length, ?_, e2.lt, fun j hj => ?_⟩
            · rw [Nat.zero_add, Bk.cell (show Bk wa g cur 147 from hh)]
              have e4 : (cur.toList.take (s.nodes.length * 1))[i]? = some (.slice (some ⟨h1, 0, none⟩) s.nodes.length s.nodes.length) := by rw [htk]; exact e1
              rw [List.getElem?_take, if_pos (by omega), Array.getElem?_toList] at e4
              exact e4
            · rw [Nat.zero_add, e2.cell (by rw [rowG_len]; exact hj), rowG_get s bits _ j hj, graphG_has s bits i j hi hj])
      clear b0 b1 f1
      go_wp2_with fail
      go_ret
      exact ⟨g0, rfl, HGX.out, HGR.out.low⟩
#print axioms graph_any
end Go.Proofs.YtghjlbbalngdhaaGreatDoor
