/- The queue of the search in memory. Conditions: as each statement says. -/
import Derived.Test.YtghjlbbalngdhaaGreatDoorNet2
import Derived.Test.YtghjlbbalngdhaaGreatDoorBase
import Derived.Laws.IdiomCopy
namespace Go.Proofs.YtghjlbbalngdhaaGreatDoor
open Go.RowKit
set_option linter.unusedVariables false
theorem info_state : (Tryz.prog.info? 222).map (fun i => (i.zero, i.size, i.bytes)) = some (some (.agg #[.int .i64 0, .bool false]), 2, 16) := by kernel_rfl
theorem elB_state : ElemB Tryz.prog 223 222 2 16 := ElemB.of Tryz.underlying223 info_state rfl (by decide)
abbrev plC (x : Pl) : Array Value := #[.int .i64 (x.1 : Int), .bool x.2]
/-- A queue of places, in block g. -/
def QR (w : World) (g : Nat) (v : Value) (l : List Pl) : Prop :=
  ∃ off cap cur T, v = .slice (some ⟨g, off, none⟩) l.length cap ∧ Bk w g cur T ∧ l.length ≤ cap ∧ off + cap * 2 ≤ cur.size ∧ ∀ j (h : j < l.length), cur[off + j * 2]? = some (.int .i64 (l[j].1 : Int)) ∧ cur[off + j * 2 + 1]? = some (.bool l[j].2)
theorem QR.lt {w : World} {g : Nat} {v : Value} {l : List Pl} (h : QR w g v l) : g < w.heap.size := by
  obtain ⟨off, cap, cur, T, _, hb, _⟩ := h; exact hb.lt
theorem QR.keepL {L : List Nat} {w w' : World} {g : Nat} {v : Value} {l : List Pl} (h : QR w g v l) (hk : KeepL L w w') (hL : g ∉ L) : QR w' g v l := by
  obtain ⟨off, cap, cur, T, h1, hb, h2⟩ := h; exact ⟨off, cap, cur, T, h1, hb.keepL hk hL, h2⟩
theorem QR.new (w : World) (x : Pl) (t : TypeId) : QR (w.alloc (.cells (plC x) t)) w.heap.size (.slice (some ⟨w.heap.size, 0, none⟩) 1 1) [x] :=
  ⟨0, 1, plC x, t, rfl, Bk.new _ _ _, Nat.le_refl _, by simp, fun j h => by
    have : j = 0 := by simp at h; omega
    subst this
    exact ⟨rfl, rfl⟩⟩
theorem QR.of_own {w : World} {base n : Nat} {v : Value} {t : TypeId} {l : List Pl} (h : w.ownsRow base t 2 v n (l.flatMap fun x => (plC x).toList)) (hl : l ≠ []) (hn : n = l.length) : ∃ g, base ≤ g ∧ QR w g v l := by
  subst hn
  rcases h.2 with ⟨_, h2⟩ | ⟨g, cap, cur, hv, hb, hg, h1, h2, h3, h4⟩
  · exact absurd (List.length_eq_zero_iff.1 h2) hl
  · refine ⟨g, hb, 0, cap, cur, t, hv, hg, h1, by omega, fun j hj => ?_⟩
    have key : ∀ (l : List Pl) (j : Nat) (h : j < l.length), (l.flatMap fun x => (plC x).toList)[j * 2]? = some (.int .i64 (l[j].1 : Int)) ∧ (l.flatMap fun x => (plC x).toList)[j * 2 + 1]? = some (.bool l[j].2) := by
      intro l
      induction l with
      | nil => intro j h; simp at h
      | cons a l ih =>
        intro j h
        cases j with
        | zero => simp
        | succ j =>
          have := ih j (by simpa using h)
          simp only [List.flatMap_cons, List.getElem_cons_succ, show (j + 1) * 2 = j * 2 + 2 by omega]
          simpa using this
    obtain ⟨k1, k2⟩ := key l j hj
    rw [← h4, List.getElem?_take] at k1 k2
    split at k1
    · split at k2
      · rw [Nat.zero_add]; exact ⟨by simpa using k1, by simpa using k2⟩
      · cases k2
    · cases k1
/-- The queue with one place more, or in a new block. -/
theorem run_qpush (ty : TypeId) {wa : World} {g : Nat} {v : Value} {l : List Pl} (h : QR wa g v l) (x : Pl) (tu : TypeId) (hl : l.length ≤ 1000) :
    ∃ v' g' w', (Builtin.append_ #[223, 223] ty #[v, .slice (some ⟨wa.heap.size, 0, none⟩) 1 1]).run Tryz.prog (wa.alloc (.cells (plC x) tu)) = .ok v' w' ∧ QR w' g' v' (l ++ [x]) ∧ KeepL [g] wa w' ∧ (g' = g ∨ wa.heap.size < g') := by
  obtain ⟨off, cap, cur, T, rfl, hb, hlc, hsz, hc⟩ := h
  obtain ⟨i, z, ht, hi, hz, hs, hby, hzs, hp⟩ := elB_state
  have hb' : Bk (wa.alloc (.cells (plC x) tu)) g cur T := hb.keepL (KeepL.alloc [] _ _) (by simp)
  have hx : ∀ j u, (plC x).toList[j]? = some u → (wa.alloc (.cells (plC x) tu)).cell? ((⟨wa.heap.size, 0, none⟩ : Addr).add j) = some u := fun j u hu => by
    rw [addr_add, Nat.zero_add, cell_of_row _ _ _ _ _ _ (heap_alloc_new wa _)]; simpa using hu
  have h1 : ∀ u ∈ (plC x).toList, u.oneCell' = true := by
    intro u hu; simp at hu; rcases hu with rfl | rfl <;> rfl
  by_cases hr : l.length + 1 ≤ cap
  · have hcell : ∀ j, j < (plC x).toList.length → ((wa.alloc (.cells (plC x) tu)).cell? ⟨g, off + l.length * i.size + j, none⟩).isSome = true := fun j hj => by
      have hj' : j < 2 := hj
      rw [hb'.cell, hs, Array.getElem?_eq_getElem (by omega)]; rfl
    have := run_append_room_cells (P := Tryz.prog) (wa.alloc (.cells (plC x) tu)) 223 ty 222 i ht hi g off l.length cap ⟨wa.heap.size, 0, none⟩ 1 1 (plC x).toList (by simp [hs]) hx h1 hr hcell (fun j _ => hb'.froz _)
    refine ⟨_, g, _, this, ⟨off, cap, (cur.setIfInBounds (off + l.length * 2) (.int .i64 (x.1 : Int))).setIfInBounds (off + l.length * 2 + 1) (.bool x.2), T, by simp, ?_, by simpa using hr, by simpa using hsz, fun j hj => ?_⟩, ?_, .inl rfl⟩
    · rw [hs]
      exact (hb'.set _ _).set _ _
    · simp only [List.length_append, List.length_singleton] at hj
      rcases Nat.lt_or_ge j l.length with h2 | h2
      · obtain ⟨c1, c2⟩ := hc j h2
        rw [List.getElem_append_left h2, Array.getElem?_setIfInBounds_ne (by omega), Array.getElem?_setIfInBounds_ne (by omega), Array.getElem?_setIfInBounds_ne (by omega), Array.getElem?_setIfInBounds_ne (by omega)]
        exact ⟨c1, c2⟩
      · obtain rfl : j = l.length := by omega
        rw [List.getElem_append_right (Nat.le_refl _)]
        simp only [Nat.sub_self, List.getElem_cons_zero]
        rw [Array.getElem?_setIfInBounds_ne (by omega), Array.getElem?_setIfInBounds_self_of_lt (by omega), Array.getElem?_setIfInBounds_self_of_lt (by simp; omega)]
        exact ⟨rfl, rfl⟩
    · rw [hs]
      exact (KeepL.alloc [g] wa (.cells (plC x) tu)).trans ((KeepL.set _ g _ _).trans (KeepL.set _ g _ _))
  · obtain ⟨v', w', hrun, h2, h3⟩ := run_append_arg_grows (P := Tryz.prog) (wa.alloc (.cells (plC x) tu)) 223 ty 222 i z 2 16 ht hi hz hs hby hzs hp ⟨g, off, none⟩ l.length cap (l.flatMap fun y => (plC y).toList) (by
        clear hc hlc hsz hr hl
        induction l with
        | nil => rfl
        | cons a l ih => simp only [List.flatMap_cons, List.length_append, List.length_cons, ih]; simp; omega) (by
        intro j u hu
        rw [addr_add, hb'.cell]
        have key : ∀ (l : List Pl) (j : Nat) (u : Value), (l.flatMap fun x => (plC x).toList)[j]? = some u → ∃ k, ∃ (h : k < l.length), (j = k * 2 ∧ u = .int .i64 (l[k].1 : Int)) ∨ (j = k * 2 + 1 ∧ u = .bool l[k].2) := by
          intro l
          induction l with
          | nil => intro j u h; simp at h
          | cons a l ih =>
            intro j u h
            match j with
            | 0 => exact ⟨0, by simp, .inl ⟨rfl, by simpa using h.symm⟩⟩
            | 1 => exact ⟨0, by simp, .inr ⟨rfl, by simpa using h.symm⟩⟩
            | j + 2 =>
              obtain ⟨k, hk, h2⟩ := ih j u (by simpa using h)
              exact ⟨k + 1, by simpa using hk, by
                rcases h2 with ⟨rfl, h3⟩ | ⟨rfl, h3⟩
                · exact .inl ⟨by omega, h3⟩
                · exact .inr ⟨by omega, h3⟩⟩
        obtain ⟨k, hk, h2⟩ := key l j u hu
        obtain ⟨c1, c2⟩ := hc k hk
        rcases h2 with ⟨rfl, rfl⟩ | ⟨rfl, rfl⟩
        · exact c1
        · rw [← Nat.add_assoc]; exact c2) ⟨wa.heap.size, 0, none⟩ 1 1 (plC x).toList (by simp) hx (by omega) (by unfold maxLen; omega) (by omega)
    have h4 : w'.ownsRow (wa.alloc (.cells (plC x) tu)).heap.size 222 2 v' (l ++ [x]).length ((l ++ [x]).flatMap fun y => (plC y).toList) := by
      simpa [List.flatMap_append] using h2
    obtain ⟨g', hg', hq⟩ := QR.of_own h4 (by simp) rfl
    refine ⟨v', g', w', hrun, hq, (KeepL.alloc [g] wa _).trans (KeepL.grown h3 (fun k e => by cases e)), .inr (by simp at hg'; omega)⟩
/-- The queue's first place, and the others. -/
theorem QR.head {w : World} {g : Nat} {v : Value} {x : Pl} {l : List Pl} (h : QR w g v (x :: l)) : ∃ off cap, v = .slice (some ⟨g, off, none⟩) (l.length + 1) cap ∧ w.cell? ⟨g, off, none⟩ = some (.int .i64 (x.1 : Int)) ∧ w.cell? ⟨g, off + 1, none⟩ = some (.bool x.2) ∧
    ∃ v', (∀ w', (Instr.sliceAt 223 v (some (.int .i64 1)) none none).run Tryz.prog w' = .ok v' w') ∧ QR w g v' l := by
  obtain ⟨off, cap, cur, T, rfl, hb, hlc, hsz, hc⟩ := h
  have h0 := hc 0 (by simp)
  simp only [Nat.zero_mul, Nat.add_zero, List.getElem_cons_zero] at h0
  simp only [List.length_cons] at hlc
  refine ⟨off, cap, rfl, by rw [hb.cell]; exact h0.1, by rw [hb.cell]; exact h0.2, .slice (if cap = 1 then some ⟨g, off, none⟩ else some ⟨g, off + 2, none⟩) l.length (cap - 1), fun w' => ?_, ?_⟩
  · have ht : Tryz.prog.underlying 223 = some (.slice (Tryz.prog.elem 223)) := by
      have he : Tryz.prog.elem 223 = 222 := by simp [Program.elem, Tryz.underlying223]
      rw [he]; exact Tryz.underlying223
    have hz : (sizeOf (Tryz.prog.elem 223)).run Tryz.prog w' = .ok 2 w' := by
      have he : Tryz.prog.elem 223 = 222 := by simp [Program.elem, Tryz.underlying223]
      rw [he]; exact Tryz.sizeOf222 w'
    rw [run_sliceAt_slice (h := ht), show (Value.int IntKind.i64 1) = .int .i64 ((1 : Nat) : Int) from rfl, run_slice_l (ht := ht) (h0 := by omega) (h1 := by simp; omega), hz]
    by_cases hcap : cap = 1
    · simp [Result.andThen, sliced, hcap]
    · simp [Result.andThen, sliced, hcap, addr_add]
  · by_cases hcap : cap = 1
    · have : l = [] := List.length_eq_zero_iff.1 (by omega)
      subst this
      exact ⟨off, 0, cur, T, by simp [hcap], hb, by simp, by omega, fun j h => by simp at h⟩
    · refine ⟨off + 2, cap - 1, cur, T, by simp [hcap], hb, by omega, by omega, fun j hj => ?_⟩
      have := hc (j + 1) (by simpa using hj)
      simp only [List.getElem_cons_succ] at this
      rw [show off + 2 + j * 2 = off + (j + 1) * 2 by omega]
      exact this
theorem wpList_qpush {ops : Array Oper} {rest : List Oper} {o : Oper} {a : Act} {Q : Exit → Act → World → Prop} {wa : World} {x : Pl} {tu : TypeId} (s y : Operand) (hgd : o.guard = none)
    (ho : o.op = .call { callee := .builtin .append, args := #[s, y], argTypes := #[223, 223] }) {g : Nat} {v : Value} {l : List Pl} (hs : a.eval s = v) (h0 : QR wa g v l) {gg : Nat} (hgg : wa.heap.size = gg)
    (hx : a.eval y = .slice (some ⟨gg, 0, none⟩) 1 1) (hl : l.length ≤ 1000)
    (h : ∀ v' g' w', QR w' g' v' (l ++ [x]) → KeepL [g] wa w' → (g' = g ∨ gg < g') → wpList Tryz.prog ops Q rest (a.put o.dst v') w') : wpList Tryz.prog ops Q (o :: rest) a (wa.alloc (.cells (plC x) tu)) := by
  subst hgg
  refine wpList_plain hgd fun _ hK => ?_
  obtain ⟨v', g', w', hrun, h2, h3, h4⟩ := run_qpush o.type h0 x tu hl
  unfold Oper.wp execOp
  simp only [ho, resolve, invoke, builtin, Sem.run_bind, Sem.run_pure, Result.andThen_ok, List.map_toArray, List.map_cons, List.map_nil, hs, hx, hrun]
  exact hK _ _ (h v' g' w' h2 h3 h4)
#print axioms run_qpush
#print axioms QR.head
end Go.Proofs.YtghjlbbalngdhaaGreatDoor
/- The contract of the closure that adds a place to the search. Conditions: as each statement says. -/
namespace Go.Proofs.YtghjlbbalngdhaaGreatDoor
open Go.RowKit
set_option linter.unusedVariables false
def seenB (s : Nat) (came : List (Pl × Pl)) (x : Pl) : Bool := x == (s, true) || came.any fun c => c.1 == x
def seenF (s : Nat) (came : List (Pl × Pl)) (x : Pl) : Option Value := if seenB s came x then some (.bool true) else none
theorem seenF_snoc (s : Nat) (came : List (Pl × Pl)) (x y : Pl) (a : Pl) : seenF s (came ++ [(x, a)]) y = if y = x then some (.bool true) else seenF s came y := by
  unfold seenF seenB
  rw [List.any_append]
  by_cases h : y = x
  · subst h; simp
  · have h2 : ([(x, a)] : List (Pl × Pl)).any (fun c => c.1 == y) = false := by
      simp only [List.any_cons, List.any_nil, Bool.or_false, beq_eq_false_iff_ne]; exact fun e => h e.symm
    rw [h2, Bool.or_false, if_neg h]
theorem cameF_snoc {s : Nat} {came : List (Pl × Pl)} {x : Pl} (hx : seenB s came x = false) (y a : Pl) : cameF (came ++ [(x, a)]) y = if y = x then some (plV a) else cameF came y := by
  unfold cameF
  rw [List.find?_append]
  unfold seenB at hx
  rw [Bool.or_eq_false_iff] at hx
  by_cases h : y = x
  · subst h
    have : came.find? (fun c => c.1 == y) = none := by
      rw [List.find?_eq_none]
      intro c hc
      have := (List.any_eq_false.1 hx.2) c hc
      simpa using this
    rw [this]; simp
  · have h2 : ([(x, a)] : List (Pl × Pl)).find? (fun c => c.1 == y) = none := by
      rw [List.find?_eq_none]
      intro c hc
      simp only [List.mem_singleton] at hc
      subst hc
      simp only [beq_iff_eq]; exact fun e => h e.symm
    rw [h2, if_neg h]; simp
/-- The search in memory. -/
structure BfsAt (w : World) (sb cb qb ms mc g : Nat) (qv : Value) (s : Nat) (S : BS) : Prop where
  sx : Bk w sb #[.map (some ms)] 224
  cx : Bk w cb #[.map (some mc)] 220
  qx : Bk w qb #[qv] 223
  seen : MapAt plK w ms (S.came.length + 1) (seenF s S.came)
  came : MapAt plK w mc S.came.length (cameF S.came)
  q : QR w g qv S.queue
  ne : ms ≠ mc ∧ g ≠ sb ∧ g ≠ cb ∧ g ≠ qb
theorem Bk.nmap {w : World} {h b n : Nat} {cs : Array Value} {t k : TypeId} {κ : Type} {K : KeyT k κ} {f : κ → Option Value} (a : Bk w h cs t) (m : MapAt K w b n f) : h ≠ b := by
  rintro rfl
  obtain ⟨es, cl, e⟩ := m.isMap
  unfold Bk at a
  rw [a] at e
  cases e
theorem QR.nmap {w : World} {g b n : Nat} {v : Value} {l : List Pl} {k : TypeId} {κ : Type} {K : KeyT k κ} {f : κ → Option Value} (a : QR w g v l) (m : MapAt K w b n f) : g ≠ b := by
  obtain ⟨off, cap, cur, T, _, hb, _⟩ := a; exact hb.nmap m
theorem BfsAt.keepL {L : List Nat} {w w' : World} {sb cb qb ms mc g : Nat} {qv : Value} {s : Nat} {S : BS} (h : BfsAt w sb cb qb ms mc g qv s S) (hk : KeepL L w w') (hL : sb ∉ L ∧ cb ∉ L ∧ qb ∉ L ∧ ms ∉ L ∧ mc ∉ L ∧ g ∉ L) : BfsAt w' sb cb qb ms mc g qv s S :=
  ⟨h.sx.keepL hk hL.1, h.cx.keepL hk hL.2.1, h.qx.keepL hk hL.2.2.1, h.seen.keep (hk.block _ h.seen.lt hL.2.2.2.1), h.came.keep (hk.block _ h.came.lt hL.2.2.2.2.1), h.q.keepL hk hL.2.2.2.2.2, h.ne⟩
theorem QR.form {w : World} {g : Nat} {v : Value} {l : List Pl} (h : QR w g v l) : ∃ off cap, v = .slice (some ⟨g, off, none⟩) l.length cap := by
  obtain ⟨off, cap, cur, T, hv, _⟩ := h; exact ⟨off, cap, hv⟩
def PushP (sb cb qb ms mc g s : Nat) (S : BS) (w : World) (e : Ending) (w' : World) : Prop :=
  e = .returned (.tuple #[]) ∧ ∃ qv' g', BfsAt w' sb cb qb ms mc g' qv' s S ∧ KeepL [qb, ms, mc, g] w w' ∧ (g' = g ∨ w.heap.size ≤ g')
theorem zero_bool4 (w : World) : (zeroValue 4).run Tryz.prog w = .ok (.bool false) w := by kernel_rfl
set_option maxRecDepth 100000 in
set_option maxHeartbeats 1000000 in
theorem push_any (sb cb qb ms mc g : Nat) (qv : Value) (s : Nat) (S : BS) (a x : Pl) (w : World) (h : BfsAt w sb cb qb ms mc g qv s S) (hx : x.1 ≤ 1000000) (hq : S.queue.length ≤ 1000) (hc : S.came.length ≤ 1000) :
    Calls Tryz.prog 166 #[plV a, plV x, .pointer (some ⟨sb, 0, none⟩), .pointer (some ⟨cb, 0, none⟩), .pointer (some ⟨qb, 0, none⟩)] w (PushP sb cb qb ms mc g s (S.push s a x) w) := by
  obtain ⟨W, hW⟩ : ∃ W, (w.alloc (.cells #[.int .i64 (a.1 : Int), .bool a.2] 222)).alloc (.cells #[.int .i64 (x.1 : Int), .bool x.2] 222) = W := ⟨_, rfl⟩
  have hk0 : KeepL [] w W := by rw [← hW]; exact (KeepL.alloc _ _ _).trans (KeepL.alloc _ _ _)
  have hA := h.keepL hk0 (by simp)
  have ba : Bk W w.heap.size #[.int .i64 (a.1 : Int), .bool a.2] 222 := by rw [← hW]; exact (Bk.new w _ _).keepL (KeepL.alloc [] _ _) (by simp)
  have bx : Bk W (w.heap.size + 1) #[.int .i64 (x.1 : Int), .bool x.2] 222 := by
    have := Bk.new (w.alloc (.cells #[.int .i64 (a.1 : Int), .bool a.2] 222)) #[.int .i64 (x.1 : Int), .bool x.2] 222
    rw [World.size_alloc, hW] at this; exact this
  have hlt : sb < w.heap.size ∧ cb < w.heap.size ∧ qb < w.heap.size ∧ ms < w.heap.size ∧ mc < w.heap.size ∧ g < w.heap.size := ⟨h.sx.lt, h.cx.lt, h.qx.lt, h.seen.lt, h.came.lt, h.q.lt⟩
  have HL := Lib.hid hlt
  have c0 := hA.sx.cell 0
  have hlk : (Instr.lookup 224 (.map (some ms)) (.agg #[.int .i64 (x.1 : Int), .bool x.2]) false).run Tryz.prog W = .ok (.bool (seenB s S.came x)) W := by
    have := hA.seen.look Tryz.underlying224 zero_bool4 (x := x) hx
    unfold seenF at this
    cases hs : seenB s S.came x <;> simp only [hs] at this <;> exact this
  have d0 := bx.cell 0; have d1 := bx.cell 1
  have e0 := ba.cell 0; have e1 := ba.cell 1
  simp only [List.getElem?_toArray, List.getElem?_cons_succ, List.getElem?_cons_zero] at c0 d0 d1 e0 e1
  have HA := Lib.hid hA; have HK0 := Lib.hid hk0; have HBA := Lib.hid ba; have HBX := Lib.hid bx
  cases hs : seenB s S.came x
  · rw [hs] at hlk
    obtain ⟨w1, hr1, hm1, hg1⟩ := hA.seen.store Tryz.underlying224 (x := x) hx (.bool true) (by omega)
    have hr1 : (Instr.mapUpdate 224 (.map (some ms)) (.agg #[.int .i64 (x.1 : Int), .bool x.2]) (.bool true)).run Tryz.prog W = .ok () w1 := hr1
    have hk1 : KeepL [ms] W w1 := KeepL.grown hg1 (fun k e _ => by cases e; simp)
    have hne := hA.ne
    have n1 := hA.sx.nmap hA.seen; have n2 := hA.cx.nmap hA.seen; have n3 := hA.qx.nmap hA.seen; have n4 := hA.q.nmap hA.seen
    have n5 := hA.sx.nmap hA.came; have n6 := hA.cx.nmap hA.came; have n7 := hA.qx.nmap hA.came; have n8 := hA.q.nmap hA.came
    have n9 := bx.nmap hA.seen; have n10 := bx.nmap hA.came; have n11 := ba.nmap hA.seen; have n12 := ba.nmap hA.came
    have n13 : sb ≠ qb := hA.sx.ne hA.qx (by decide)
    have n14 : cb ≠ qb := hA.cx.ne hA.qx (by decide)
    have hcm1 : MapAt plK w1 mc S.came.length (cameF S.came) := hA.came.keep (hk1.block _ hA.came.lt (by simp; exact Ne.symm hne.1))
    obtain ⟨w2, hr2, hm2, hg2⟩ := hcm1.store Tryz.underlying220 (x := x) hx (plV a) (by omega)
    have hr2 : (Instr.mapUpdate 220 (.map (some mc)) (.agg #[.int .i64 (x.1 : Int), .bool x.2]) (.agg #[.int .i64 (a.1 : Int), .bool a.2])).run Tryz.prog w1 = .ok () w2 := hr2
    have hk2 : KeepL [mc] w1 w2 := KeepL.grown hg2 (fun k e _ => by cases e; simp)
    have hk12 : KeepL [ms, mc] W w2 := (hk1.sub (by simp)).trans (hk2.sub (by simp))
    have hms2 := hm1.keep (hk2.block _ hm1.lt (by simp; exact hne.1))
    have hs2 : Bk w2 sb #[.map (some ms)] 224 := hA.sx.keepL hk12 (by simp; exact ⟨n1, n5⟩)
    have hc2 : Bk w2 cb #[.map (some mc)] 220 := hA.cx.keepL hk12 (by simp; exact ⟨n2, n6⟩)
    have hq2 : Bk w2 qb #[qv] 223 := hA.qx.keepL hk12 (by simp; exact ⟨n3, n7⟩)
    have hqq2 : QR w2 g qv S.queue := hA.q.keepL hk12 (by simp; exact ⟨n4, n8⟩)
    have hbx2 := bx.keepL hk12 (by simp; exact ⟨n9, n10⟩)
    have hbx1 := bx.keepL hk1 (by simp; exact n9)
    have hba1 := ba.keepL hk1 (by simp; exact n11)
    have hc1 : Bk w1 cb #[.map (some mc)] 220 := hA.cx.keepL hk1 (by simp; exact n2)
    have g0 := hc1.cell 0; have g1 := hbx1.cell 0; have g2 := hbx1.cell 1; have g3 := hba1.cell 0; have g4 := hba1.cell 1
    have f0 := hq2.cell 0; have f1 := hbx2.cell 0; have f2 := hbx2.cell 1
    simp only [List.getElem?_toArray, List.getElem?_cons_succ, List.getElem?_cons_zero] at g0 g1 g2 g3 g4 f0 f1 f2
    have HS := Lib.hid hs
    have HQQ := Lib.hid hqq2; have HQ2 := Lib.hid hq2; have HC2 := Lib.hid hc2; have HS2 := Lib.hid hs2; have HMS := Lib.hid hms2; have HMC := Lib.hid hm2; have HK12 := Lib.hid ((hk0.sub (L' := [ms, mc]) (by simp)).trans hk12)
    have hpush : S.push s a x = ⟨S.queue ++ [x], S.came ++ [(x, a)]⟩ := by
      unfold BS.push
      rw [if_neg (by rw [show S.seen s x = false from hs]; simp)]
    have HP := Lib.hid hpush
    have hw2 : w.heap.size ≤ w2.heap.size := HK12.out.size
    have hqb : qb < w2.heap.size := hq2.lt
    subst hW
    have HNE := Lib.hid (show (g ≠ sb ∧ g ≠ cb ∧ g ≠ qb) ∧ (g ≠ ms ∧ g ≠ mc) ∧ (qb ≠ ms ∧ qb ≠ mc) ∧ (sb ≠ qb ∧ cb ≠ qb) ∧ ms ≠ mc from ⟨hne.2, ⟨n4, n8⟩, ⟨n3, n7⟩, ⟨n13, n14⟩, hne.1⟩)
    clear hs hA hk0 ba bx h hlt hm1 hg1 hk1 hne n1 n2 n3 n4 n5 n6 n7 n8 n9 n10 n11 n12 n13 n14 hcm1 hm2 hg2 hk2 hk12 hms2 hs2 hc2 hq2 hqq2 hbx2 hbx1 hba1 hc1 hpush HA HK0 HBA HBX
    go_enter Tryz.func166, Tryz.ntmps166
    go_wp2_with
      (at_builtin
       refine wpList_qpush (x := x) (.tmp 16) (.tmp 18) rfl rfl rfl HQQ.out rfl rfl hq ?_
       intro v3 g3 w3 hq3 hk3 hg3
       obtain ⟨off3, cap3, hv3⟩ := hq3.form
       subst hv3
       have hqx := HQ2.out.keepL hk3 (by simp; exact Ne.symm HNE.out.1.2.2)
       have f3 := hqx.cell 0
       have f4 := hqx.froz 0
       have HQ3 := Lib.hid hq3; have HK3 := Lib.hid hk3; have HG3 := Lib.hid hg3; have HQX := Lib.hid hqx
       simp only [List.getElem?_toArray, List.getElem?_cons_zero] at f3
       clear hq3 hk3 hg3 hqx)
    go_end0
    have hne := HNE.out
    have hsb := HL.out
    have hq3' : QR w3 g3 (.slice (some ⟨g3, off3, none⟩) (S.queue.length + 1) cap3) (S.queue ++ [x]) := by have := HQ3.out; rwa [List.length_append, List.length_singleton] at this
    have hkf : KeepL [g, qb] w2 (w3.setCell ⟨qb, 0, none⟩ (.slice (some ⟨g3, off3, none⟩) (S.queue.length + 1) cap3)) := (HK3.out.sub (L' := [g, qb]) (by simp)).trans ((KeepL.set _ _ _ _).sub (L' := [g, qb]) (by simp))
    have hms : ms < w2.heap.size := HMS.out.lt
    have hmc : mc < w2.heap.size := HMC.out.lt
    have hg3' : g3 ≠ sb ∧ g3 ≠ cb ∧ g3 ≠ qb := by
      rcases HG3.out with h | h
      · rw [h]; exact hne.1
      · refine ⟨?_, ?_, ?_⟩ <;> omega
    refine ⟨rfl, .slice (some ⟨g3, off3, none⟩) (S.queue.length + 1) cap3, g3, ?_, ?_, ?_⟩
    · rw [HP.out]
      refine ⟨HS2.out.keepL hkf (by simp; exact ⟨Ne.symm hne.1.1, hne.2.2.2.1.1⟩), HC2.out.keepL hkf (by simp; exact ⟨Ne.symm hne.1.2.1, hne.2.2.2.1.2⟩), HQX.out.set 0 _, ?_, ?_, hq3'.keepL (KeepL.set _ _ _ _) (by simp; exact hg3'.2.2), ⟨hne.2.2.2.2, hg3'⟩⟩
      · have h1 := (HMS.out.keep (hkf.block _ hms (by simp; exact ⟨Ne.symm hne.2.1.1, Ne.symm hne.2.2.1.1⟩)))
        simp only [List.length_append, List.length_singleton]
        exact h1.same (fun y _ => (seenF_snoc s S.came x y a).symm)
      · have h1 := (HMC.out.keep (hkf.block _ hmc (by simp; exact ⟨Ne.symm hne.2.1.2, Ne.symm hne.2.2.1.2⟩)))
        simp only [List.length_append, List.length_singleton]
        exact h1.same (fun y _ => (cameF_snoc HS.out y a).symm)
    · exact (HK12.out.sub (L' := [qb, ms, mc, g]) (by simp)).trans (hkf.sub (L' := [qb, ms, mc, g]) (by simp))
    · rcases HG3.out with h | h
      · exact .inl h
      · exact .inr (by omega)
  · rw [hs] at hlk
    have HS : Hid (S.push s a x = S) := Lib.hid (by
      unfold BS.push
      rw [if_pos (show S.seen s x = true from hs)])
    subst hW
    clear hs hA hk0 ba bx h hlt
    go_enter Tryz.func166, Tryz.ntmps166
    go_wp2_with fail
    go_end0
    exact ⟨rfl, qv, g, by rw [HS.out]; exact HA.out, HK0.out.sub (by simp), .inl rfl⟩
#print axioms push_any
end Go.Proofs.YtghjlbbalngdhaaGreatDoor
/- The contract of augment. Conditions: as each statement says. -/
namespace Go.Proofs.YtghjlbbalngdhaaGreatDoor
open Go.RowKit
set_option linter.unusedVariables false
theorem net_nodup {α : Type} [DecidableEq α] : ∀ {l m : List α}, l.Nodup → (∀ x ∈ l, x ∈ m) → l.length ≤ m.length
  | [], _, _, _ => Nat.zero_le _
  | a :: l, m, h, hs => by
    rw [List.nodup_cons] at h
    have h1 : l.length ≤ (m.erase a).length := net_nodup h.2 fun x hx => by
      have hne : x ≠ a := fun e => h.1 (by rw [← e]; exact hx)
      exact (List.mem_erase_of_ne hne).2 (hs x (List.mem_cons_of_mem _ hx))
    have h2 : a ∈ m := hs a (List.mem_cons_self ..)
    have h3 := List.length_erase_of_mem h2
    have h4 := List.length_pos_of_mem h2
    rw [List.length_cons]; omega
/-- All places. -/
def allP (n : Nat) : List Pl := (List.range n).flatMap fun i => [(i, false), (i, true)]
theorem allP_len (n : Nat) : (allP n).length = 2 * n := by
  unfold allP
  induction n with
  | zero => rfl
  | succ n ih => rw [List.range_succ, List.flatMap_append, List.length_append, ih]; simp; omega
theorem allP_mem {n : Nat} {x : Pl} (h : x.1 < n) : x ∈ allP n := by
  unfold allP
  rw [List.mem_flatMap]
  refine ⟨x.1, List.mem_range.2 h, ?_⟩
  obtain ⟨a, b⟩ := x
  cases b <;> simp
/-- A search that goes right. -/
structure BsOK (n s : Nat) (S : BS) : Prop where
  dist : (S.came.map (·.1)).Nodup
  lt : ∀ c ∈ S.came, c.1.1 < n ∧ c.1.1 ≠ s
  from' : ∀ (i : Nat) (h : i < S.came.length), (S.came[i]).2 = (s, true) ∨ ∃ (j : Nat) (hj : j < S.came.length), j < i ∧ (S.came[j]).1 = (S.came[i]).2
  que : ∀ x ∈ S.queue, x = (s, true) ∨ x ∈ S.came.map (·.1)
theorem BsOK.len {n s : Nat} {S : BS} (h : BsOK n s S) : S.came.length ≤ 2 * n := by
  have := net_nodup h.dist (m := allP n) (fun x hx => by
    obtain ⟨c, hc, rfl⟩ := List.mem_map.1 hx
    exact allP_mem (h.lt c hc).1)
  rw [allP_len, List.length_map] at this; exact this
theorem BsOK.start (n s : Nat) : BsOK n s ⟨[(s, true)], []⟩ := ⟨List.nodup_nil, by simp, fun i h => by simp at h, by simp⟩
/-- How much is left to do at most. -/
def leftB (n : Nat) (S : BS) : Nat := S.queue.length + (2 * n - S.came.length)
theorem seen_keys {s : Nat} {S : BS} {x : Pl} : S.seen s x = false ↔ x ≠ (s, true) ∧ x ∉ S.came.map (·.1) := by
  unfold BS.seen
  rw [Bool.or_eq_false_iff, beq_eq_false_iff_ne]
  constructor
  · rintro ⟨h1, h2⟩
    refine ⟨h1, fun h3 => ?_⟩
    obtain ⟨c, hc, rfl⟩ := List.mem_map.1 h3
    have := (List.any_eq_false.1 h2) c hc
    simp at this
  · rintro ⟨h1, h2⟩
    refine ⟨h1, List.any_eq_false.2 fun c hc => ?_⟩
    simp only [beq_iff_eq]
    exact fun e => h2 (List.mem_map.2 ⟨c, hc, e⟩)
theorem BsOK.push {n s : Nat} {S : BS} (h : BsOK n s S) {a x : Pl} (ha : a = (s, true) ∨ a ∈ S.came.map (·.1)) (hx : x.1 < n) (hs : x.1 ≠ s) : BsOK n s (S.push s a x) ∧ leftB n (S.push s a x) ≤ leftB n S := by
  unfold BS.push
  cases hseen : S.seen s x with
  | true => rw [if_pos rfl]; exact ⟨h, Nat.le_refl _⟩
  | false =>
    rw [if_neg (by simp)]
    obtain ⟨h1, h2⟩ := seen_keys.1 hseen
    have hok : BsOK n s ⟨S.queue ++ [x], S.came ++ [(x, a)]⟩ := by
      refine ⟨?_, ?_, ?_, ?_⟩
      · simp only [List.map_append, List.map_cons, List.map_nil]
        rw [List.nodup_append]
        refine ⟨h.dist, by simp, fun y hy z hz e => ?_⟩
        simp only [List.mem_singleton] at hz
        subst hz; subst e; exact h2 hy
      · intro c hc
        rcases List.mem_append.1 hc with hc | hc
        · exact h.lt c hc
        · simp only [List.mem_singleton] at hc; subst hc; exact ⟨hx, hs⟩
      · intro i hi
        simp only [List.length_append, List.length_singleton] at hi
        rcases Nat.lt_or_ge i S.came.length with h3 | h3
        · simp only [List.getElem_append_left h3]
          rcases h.from' i h3 with h4 | ⟨j, hj, h5, h6⟩
          · exact .inl h4
          · exact .inr ⟨j, by simp; omega, h5, by simp only [List.getElem_append_left hj]; exact h6⟩
        · obtain rfl : i = S.came.length := by omega
          have e : (S.came ++ [(x, a)])[S.came.length]'(by simp) = (x, a) := by simp
          rw [e]
          rcases ha with ha | ha
          · exact .inl ha
          · obtain ⟨c, hc, hca⟩ := List.mem_map.1 ha
            obtain ⟨j, hj, hjc⟩ := List.getElem_of_mem hc
            refine .inr ⟨j, by simp; omega, hj, ?_⟩
            simp only [List.getElem_append_left hj, hjc]
            exact hca
      · intro y hy
        rcases List.mem_append.1 hy with hy | hy
        · rcases h.que y hy with h3 | h3
          · exact .inl h3
          · exact .inr (by simp only [List.map_append, List.mem_append]; exact .inl h3)
        · simp only [List.mem_singleton] at hy; subst hy
          exact .inr (by simp)
    have hl := hok.len
    refine ⟨hok, ?_⟩
    simp only [leftB, List.length_append, List.length_singleton] at hl ⊢
    omega
theorem Back.mono {came : List (Pl × Pl)} {s n : Nat} : ∀ {f : Nat} {x : Pl}, Back came s n f x → ∀ {f' : Nat}, f ≤ f' → Back came s n f' x
  | 0, _, h, _, _ => h.elim
  | f + 1, x, h, f', hf => by
    obtain ⟨k, rfl⟩ : ∃ k, f' = k + 1 := ⟨f' - 1, by omega⟩
    exact ⟨h.1, h.2.imp id (fun h2 => Back.mono h2 (by omega))⟩
theorem wasOf_at {came : List (Pl × Pl)} (hd : (came.map (·.1)).Nodup) {i : Nat} (h : i < came.length) : wasOf came (came[i]).1 = (came[i]).2 := by
  unfold wasOf
  have : came.find? (fun c => c.1 == (came[i]).1) = some came[i] := by
    rw [List.find?_eq_some_iff_getElem]
    refine ⟨by simp, i, h, rfl, fun j hj => ?_⟩
    simp only [Bool.not_eq_true', beq_eq_false_iff_ne]
    intro e
    have h2 := (List.pairwise_iff_getElem.1 hd) j i (by simp; omega) (by simpa using h) hj
    apply h2
    rw [List.getElem_map, List.getElem_map]; exact e
  rw [this]; rfl
theorem BsOK.back {n s : Nat} {S : BS} (h : BsOK n s S) (hs : s < n) : ∀ (i : Nat) (hi : i < S.came.length), Back S.came s n (i + 2) (S.came[i]).1 := by
  intro i
  induction i using Nat.strongRecOn with
  | ind i ih =>
    intro hi
    refine ⟨(h.lt _ (List.getElem_mem hi)).1, .inr ?_⟩
    rw [wasOf_at h.dist hi]
    rcases h.from' i hi with h1 | ⟨j, hj, h1, h2⟩
    · rw [h1]; exact ⟨hs, .inl rfl⟩
    · rw [← h2]; exact (ih j h1 hj).mono (by omega)
theorem BsOK.back_mem {n s : Nat} {S : BS} (h : BsOK n s S) (hs : s < n) {x : Pl} (hx : x ∈ S.came.map (·.1)) : Back S.came s n (S.came.length + 1) x := by
  obtain ⟨c, hc, rfl⟩ := List.mem_map.1 hx
  obtain ⟨i, hi, rfl⟩ := List.getElem_of_mem hc
  exact (h.back hs i hi).mono (by omega)
theorem fwd_ok {g : PG} {s t : Nat} {nx : List Int} {at' : Pl} {S : BS} (h : BsOK g.n s S) (ha : at' = (s, true) ∨ at' ∈ S.came.map (·.1)) : ∀ k, k ≤ g.n →
    BsOK g.n s (fwdS g s t nx at' S k) ∧ leftB g.n (fwdS g s t nx at' S k) ≤ leftB g.n S ∧ (at' = (s, true) ∨ at' ∈ (fwdS g s t nx at' S k).came.map (·.1))
  | 0, _ => ⟨h, Nat.le_refl _, ha⟩
  | k + 1, hk => by
    obtain ⟨h1, h2, h3⟩ := fwd_ok h ha k (by omega)
    rw [fwdS]
    split
    · exact ⟨h1, h2, h3⟩
    · rename_i hsk
      have ho : g.open at'.1 k s t = true := by
        unfold skipK at hsk
        simp only [Bool.or_eq_true, not_or, Bool.not_eq_true', Bool.not_eq_false] at hsk
        exact hsk.1.2
      obtain ⟨h4, h5⟩ := h1.push h3 (x := (k, false)) (by show k < g.n; omega) (open_has ho).2.2.1
      refine ⟨h4, Nat.le_trans h5 h2, h3.imp id (fun h6 => ?_)⟩
      unfold BS.push
      split
      · exact h6
      · simp only [List.map_append, List.mem_append]; exact .inl h6
theorem push_mem {s : Nat} {S : BS} {a x y : Pl} (h : y ∈ S.came.map (·.1)) : y ∈ (S.push s a x).came.map (·.1) := by
  unfold BS.push
  split
  · exact h
  · simp only [List.map_append, List.mem_append]; exact .inl h
theorem backW_lt {came : List (Pl × Pl)} {s n : Nat} : ∀ {f : Nat} {x : Pl}, Back came s n f x → (∀ c ∈ (backW came s f x).1, c.1 < n ∧ c.2 < n) ∧ ∀ c ∈ (backW came s f x).2, c.1 < n ∧ c.2 < n
  | 0, _, h => h.elim
  | f + 1, x, h => by
    rw [backW]
    by_cases e : x.1 = s
    · rw [if_pos e]; simp
    · rw [if_neg e]
      have hb : Back came s n f (wasOf came x) := h.2.resolve_left e
      obtain ⟨h1, h2⟩ := backW_lt hb
      have h3 := hb.lt
      dsimp only
      split
      · refine ⟨fun c hc => ?_, h2⟩
        rcases List.mem_cons.1 hc with rfl | hc
        · exact ⟨h.1, h3⟩
        · exact h1 c hc
      · refine ⟨h1, fun c hc => ?_⟩
        rcases List.mem_cons.1 hc with rfl | hc
        · exact ⟨h3, h.1⟩
        · exact h2 c hc
theorem set_val {pv : List Int} {n : Nat} (h : ∀ i, pv.getD i 0 < (n : Int)) (j : Nat) {x : Int} (hx : x < (n : Int)) : ∀ i, (pv.set j x).getD i 0 < (n : Int) := fun i => by
  have h2 := h i
  simp only [List.getD_eq_getElem?_getD, List.getElem?_set] at h2 ⊢
  split
  · split
    · simpa using hx
    · have h3 := h i
      rename_i e1 e2
      subst e1
      rw [List.getD_eq_getElem?_getD, List.getElem?_eq_none (by omega)] at h3
      exact h3
  · exact h2
theorem cutAll_ok {n : Nat} : ∀ (l : List (Nat × Nat)) {nx pv : List Int}, nx.length = n ∧ pv.length = n → (∀ i, pv.getD i 0 < (n : Int)) → ((cutAll nx pv l).1.length = n ∧ (cutAll nx pv l).2.length = n) ∧ ∀ i, (cutAll nx pv l).2.getD i 0 < (n : Int)
  | [], _, _, h1, h2 => ⟨h1, h2⟩
  | c :: l, nx, pv, h1, h2 => by
    rw [cutAll]
    refine cutAll_ok l ⟨by rw [(cut1_len nx pv c).1]; exact h1.1, by rw [(cut1_len nx pv c).2]; exact h1.2⟩ ?_
    unfold cut1
    dsimp only
    split
    · exact set_val h2 _ (by omega)
    · exact h2
theorem addAll_ok {n s : Nat} : ∀ (l : List (Nat × Nat)) {nx pv : List Int}, (∀ c ∈ l, c.1 < n ∧ c.2 < n) → nx.length = n ∧ pv.length = n → (∀ i, pv.getD i 0 < (n : Int)) → ((addAll s nx pv l).1.length = n ∧ (addAll s nx pv l).2.length = n) ∧ ∀ i, (addAll s nx pv l).2.getD i 0 < (n : Int)
  | [], _, _, _, h1, h2 => ⟨h1, h2⟩
  | c :: l, nx, pv, hl, h1, h2 => by
    rw [addAll]
    refine addAll_ok l (fun d hd => hl d (by simp [hd])) ⟨by rw [(add1_len s nx pv c).1]; exact h1.1, by rw [(add1_len s nx pv c).2]; exact h1.2⟩ ?_
    unfold add1
    exact set_val h2 _ (by have := (hl c (by simp)).1; omega)
theorem applyW_ok {came : List (Pl × Pl)} {s n : Nat} {x : Pl} {nx pv : List Int} (h : Back came s n (came.length + 1) x) (h1 : nx.length = n ∧ pv.length = n) (h2 : ∀ i, pv.getD i 0 < (n : Int)) :
    ((applyW came s nx pv x).1.length = n ∧ (applyW came s nx pv x).2.length = n) ∧ ∀ i, (applyW came s nx pv x).2.getD i 0 < (n : Int) := by
  unfold applyW
  obtain ⟨_, h4⟩ := backW_lt h
  obtain ⟨h5, h6⟩ := cutAll_ok (backW came s (came.length + 1) x).1 h1 h2
  exact addAll_ok _ h4 h5 h6
#print axioms fwd_ok
end Go.Proofs.YtghjlbbalngdhaaGreatDoor
