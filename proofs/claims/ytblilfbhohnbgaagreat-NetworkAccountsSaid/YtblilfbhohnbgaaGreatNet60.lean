/- The iterator over the links of a network. Conditions: as each statement says. -/
import Derived.Test.YtblilfbhohnbgaaGreatNet55
import Derived.Sort.MapsRangeIn
namespace Go.Proofs.YtblilfbhohnbgaaGreat
open Go.RowKit
set_option linter.unusedVariables false
theorem encS_data (s : ByteArray) : encS s.data.toList = .string s := by unfold encS; simp
set_option maxRecDepth 100000 in
theorem keyOf_pair_inv {v : Value} {kl : Lit} (h : keyOf Tryz.prog 69 v = some kl) : ∃ x : Nm × Nm, v = .agg #[encS x.1, encS x.2] ∧ x.1.length ≤ maxLen ∧ x.2.length ≤ maxLen := by
  have c1 : Tryz.prog.cellsOf 69 = 2 := by kernel_rfl
  have c2 : Tryz.prog.cellsOf 9 = 1 := by kernel_rfl
  have hsz : 0 < Tryz.prog.types.size := of_decide_eq_true (by kernel_rfl)
  obtain ⟨d, hd⟩ : ∃ d, Tryz.prog.types.size + 1 = d + 1 + 1 := ⟨Tryz.prog.types.size - 1, by omega⟩
  unfold keyOf at h
  rw [Tryz.underlying69, hd] at h
  dsimp only at h
  split at h
  · rename_i hk
    rw [Bool.and_eq_true] at hk
    have hf := hk.2
    cases v with
    | agg cs =>
      have h2 : cs.size = 2 := by simpa [Value.formed, Tryz.underlying69, c1] using hf
      obtain ⟨a, b, rfl⟩ : ∃ a b, cs = #[a, b] := by
        obtain ⟨xs⟩ := cs
        match xs, h2 with
        | [a, b], _ => exact ⟨a, b, rfl⟩
      have key : ∀ u : Value, ∀ ls, Program.keyLits Tryz.prog (d + 1) 9 [u] = some ls → ∃ s : ByteArray, u = .string s ∧ s.size ≤ maxLen := fun u ls hu => by
        unfold Program.keyLits at hu
        rw [Tryz.underlying9] at hu
        cases u with
        | string s =>
          dsimp only at hu
          split at hu
          · exact ⟨s, rfl, by assumption⟩
          · cases hu
        | _ => cases hu
      rw [Option.map_eq_some_iff] at h
      obtain ⟨ls, hls, _⟩ := h
      unfold Program.keyLits at hls
      rw [Tryz.underlying69] at hls
      simp only [c1, c2, Value.cells, List.range_succ, List.range_zero, List.nil_append, List.cons_append, List.mapM_cons, List.mapM_nil, Nat.zero_mul, Nat.one_mul, List.drop_zero, List.drop_succ_cons, List.take_succ_cons, List.take_zero] at hls
      split at hls
      · rw [Option.map_eq_some_iff] at hls
        obtain ⟨zs, hzs, _⟩ := hls
        cases ha : Program.keyLits Tryz.prog (d + 1) 9 [a] with
        | none => rw [ha] at hzs; cases hzs
        | some la =>
          cases hb : Program.keyLits Tryz.prog (d + 1) 9 [b] with
          | none => rw [ha, hb] at hzs; cases hzs
          | some lb =>
            obtain ⟨s, rfl, hs⟩ := key a la ha
            obtain ⟨t, rfl, ht⟩ := key b lb hb
            refine ⟨(s.data.toList, t.data.toList), by rw [encS_data, encS_data], ?_, ?_⟩
            · rw [Array.length_toList]; exact hs
            · rw [Array.length_toList]; exact ht
      · cases hls
    | _ => simp [Value.formed, Tryz.underlying69] at hf
  · cases h
/-- What has come, and what is left. -/
structure PColl (l ss : List (Nm × Nm)) (left : Lit → Bool) : Prop where
  nod : ss.Nodup
  sub : ∀ x ∈ ss, x ∈ l
  iff : ∀ x ∈ l, ∀ kl, keyOf Tryz.prog 69 (pairV x) = some kl → (x ∈ ss ↔ left kl = false)
section
variable {w : World} {b : Nat} {l : List (Nm × Nm)} {f : Nm × Nm → Option Value}
theorem PColl.step {ss : List (Nm × Nm)} {left : Lit → Bool} (h : PColl l ss left) {x : Nm × Nm} {kl : Lit} (hx : x ∈ l) (hk : keyOf Tryz.prog 69 (pairV x) = some kl) (hl : left kl = true) : PColl l (ss ++ [x]) (fun z => left z && !z.sameKey kl) := by
  have hnew : x ∉ ss := fun hm => by rw [(h.iff x hx kl hk).1 hm] at hl; cases hl
  refine ⟨List.nodup_append.2 ⟨h.nod, by simp, fun a ha c hc e => by rw [List.mem_singleton] at hc; subst hc; exact hnew (e ▸ ha)⟩, fun y hy => ?_, fun y hy ky hky => ?_⟩
  · rcases List.mem_append.1 hy with h1 | h1
    · exact h.sub y h1
    · rw [List.mem_singleton] at h1; subst h1; exact hx
  · by_cases e : y = x
    · subst e
      rw [hk] at hky
      injection hky with hky
      subst hky
      simp [WideAt.sameKey_self (pair_keyed.key hk)]
    · have hne : ky ≠ kl := fun e' => e (pairK.inj y x (pair_keyed.inj hky (e' ▸ hk)))
      have hs : ky.sameKey kl = false := by
        cases hq : ky.sameKey kl with
        | false => rfl
        | true => exact absurd ((WideAt.sameKey_iff (pair_keyed.key hk)).1 hq) hne
      rw [List.mem_append, List.mem_singleton]
      simp only [hs, Bool.not_false, Bool.and_true]
      rw [← h.iff y hy ky hky]
      exact ⟨fun h1 => h1.resolve_right e, .inl⟩
theorem PColl.perm {ss : List (Nm × Nm)} {left : Lit → Bool} (h : PColl l ss left) (hnd : l.Nodup) (hok : ∀ x ∈ l, pairK.ok x) (hl : ∀ kl, left kl = false) : ss.Perm l := by
  rw [List.perm_ext_iff_of_nodup h.nod hnd]
  intro x
  constructor
  · exact h.sub x
  · intro hx
    obtain ⟨kl, hk⟩ := pairK.key x (hok x hx)
    exact (h.iff x hx kl hk).2 (hl kl)
abbrev pkLb (Bm : Nat) : Array Value := #[.pointer (some ⟨Bm, 0, none⟩)]
def PkP (l : List (Nm × Nm)) (J Jx : List (Nm × Nm) → World → Prop) (e : Ending) (W' : World) : Prop := (∃ v, e = .returned v) ∧ ((∃ xs, xs.Perm l ∧ J xs W') ∨ (∃ pre, True ∧ Jx pre W'))
set_option maxRecDepth 100000 in
set_option maxHeartbeats 1000000 in
theorem pkeys1_any (n : Nat) {Bm : Nat} (hm : MapL pairK w b l f) (hB : Bk w Bm #[.map (some b)] 52) :
    SeqStopsK Fence.wide n Tryz.prog 77 (pkLb Bm) (fun x : Nm × Nm => #[.agg #[encS x.1, encS x.2]]) KeepsWalks (fun xs => xs.Perm l) (fun _ => True) l.length w := by
  intro lp J Jx W hbw hAJ hAX hY hJ0
  have hmW : MapL pairK W b l f := hm.keep (hbw.block b hm.lt)
  have c0 := (hB.past hbw hB.lt).cell 0
  simp only [List.getElem?_toArray, List.getElem?_cons_zero] at c0
  obtain ⟨D, hown, htidy, hsz, hnd, hok, hdom, hD⟩ := hmW
  have HY := Lib.hid hY; have HAJ := Lib.hid hAJ; have HJ0 := Lib.hid hJ0; have HND := Lib.hid hnd; have HOK := Lib.hid hok
  have HST : Hid (PColl l [] (Maps.has D)) := Lib.hid ⟨List.nodup_nil, by simp, fun x hx kl hk => by
    have h1 := (hD x (hok x hx) kl hk).1
    have h2 := (hdom x (hok x hx)).2 hx
    rw [h1, h2]; simp⟩
  have HIN : Hid (∀ (x : Nm × Nm) (kl : Lit), pairK.ok x → keyOf Tryz.prog 69 (pairV x) = some kl → Maps.has D kl = true → x ∈ l) := Lib.hid fun x kl hx hk hh => (hdom x hx).1 (by rw [← (hD x hx kl hk).1]; exact hh)
  clear hm hB hbw hY hAJ hAX hJ0 htidy hnd hok hdom hD
  show CallsIn _ _ _ _ _ W (PkP l J Jx)
  try simp only [pkLb, List.append_toArray, List.cons_append, List.nil_append]
  refine callsIn_of_wp (fn := Tryz.f77) Tryz.func77 rfl trivial ?_ rfl
  simp only [Tryz.ntmps77, List.size_toArray, List.length_cons, List.length_nil, Nat.reduceAdd, Nat.reduceSub, Array.replicate_succ, Array.replicate_zero, List.push_toArray, List.append_toArray, List.nil_append, List.cons_append]
  gi_wp2_with (first
    | (gi_at_range; refine wpListIn_range_own _ rfl _ 52 rfl 69 66 pair_keyed Tryz.underlying52 _ b l.length D rfl hown ?_; intro w0 hrg0 hg0 hs0)
    | gi_in)
  have HJ1 := Lib.hid (HAJ.out [] W w0 none HJ0.out hg0 (fun r e => by cases e))
  have HRG := Lib.hid hrg0
  clear HJ0 hrg0 hg0 hs0 hown c0
  try go_frame

  gi_loopw [3] (fun _ wr => ∃ (left : Lit → Bool) (cnt : Nat) (ss : List (Nm × Nm)), wr.ranges Tryz.prog 69 rawR b W.heap.size l.length D left cnt ∧ ss.length + cnt ≤ l.length ∧ PColl l ss left ∧ J ss wr) (fun _ wr => wr.rangeLeft b W.heap.size)
  case atStart => exact ⟨_, _, [], HRG.out, by simp; omega, HST.out, HJ1.out⟩
  case round =>
    obtain ⟨left, cnt, ss, hrg, hcs, hC, hJs⟩ := hrel
    gi_wp2_with (first
      | (gi_at_next; refine wpListIn_next_ranges _ rfl _ rfl 69 pair_keyed rawR (fun x : Nm × Nm => .agg #[encS x.1, encS x.2]) id (fun key kl hk => by obtain ⟨x, hx, _⟩ := keyOf_pair_inv hk; exact ⟨x, hx⟩) (fun v _ _ => ⟨v, rfl⟩) b W.heap.size l.length _ _ _ rfl hrg ?_ ?_)
      | gi_in)
    · intro hc0 hl0
      gi_wp2
      go_end0
      exact ⟨⟨_, rfl⟩, .inl ⟨ss, hC.perm HND.out HOK.out hl0, hJs⟩⟩
    · intro x1 x2 c kl y1 y2 w2 cnt2 hkey hlk hv hat hrg2 hlt hg2 hs2 hen
      obtain ⟨x, hxx⟩ : ∃ x : Nm × Nm, x = (x1, x2) := ⟨_, rfl⟩
      have e1 : x1 = x.1 := by rw [hxx]
      have e2 : x2 = x.2 := by rw [hxx]
      subst e1; subst e2
      clear hxx
      try dsimp only at hkey
      try dsimp only at hen
      obtain ⟨x', ex, hx1, hx2⟩ := keyOf_pair_inv hkey
      have exx : x = x' := pairK.inj x x' ex
      subst exx
      have hxl := HIN.out x kl ⟨hx1, hx2⟩ hkey (Maps.has_true_of_atKey hat)
      have hJ2 : J ss w2 := HAJ.out ss wr w2 (some W.heap.size) hJs hg2 (fun r e => by cases e; exact ⟨Nat.le_refl _, hrg.iter_walk⟩)
      have hJ3 : J ss (w2.alloc (.cells #[encS x.1, encS x.2] 69)) := HAJ.out ss w2 _ none hJ2 (World.grownBy_alloc w2 _ none) (fun r e => by cases e)
      obtain ⟨fn, tmps, assign, body, hy, hR⟩ := HY.out ss x _ hJ3 (by omega)
      have HR := Lib.hid (roundIn_any (m' := n - 1) hR)
      have HC2 := Lib.hid (hC.step hxl hkey hlk)
      have HRG2 := Lib.hid hrg2
      have HLT : Hid (cnt2 < cnt) := Lib.hid hlt
      have HLE : Hid (wr.rangeLeft b W.heap.size = cnt) := Lib.hid hrg.left_eq
      clear hs2 hR hC hrg2 hlt hg2 hJ2 hJ3 hJs hrg hkey hlk hv hat ex hx1 hx2 hxl
      gi_wp2
      refine ⟨(fun h1 => by cases h1), HR.out.mono ?_⟩
      rintro e W3 (⟨rfl, hJ4, hk4⟩ | ⟨rfl, hx4⟩)
      · have hrg3 := HRG2.out.of_walks ((KeepsWalks.alloc _ _).trans hk4)
        have HRG3 := Lib.hid hrg3; have HJ4 := Lib.hid hJ4
        clear hrg3 hJ4 hk4
        gi_wp2
        go_roundw
        case rel => exact ⟨_, cnt2, ss ++ [x], HRG3.out, by have := HLT.out; simp; omega, HC2.out, HJ4.out⟩
        case measure => rw [HRG3.out.left_eq, HLE.out]; exact HLT.out
      · gi_wp2
        refine bodyPost_ret (results_none (by rfl) _ _ _) rfl ?_
        exact ⟨⟨_, rfl⟩, .inr ⟨_, trivial, hx4⟩⟩
end
end Go.Proofs.YtblilfbhohnbgaaGreat
namespace Go.Proofs.YtblilfbhohnbgaaGreat
open Go.RowKit
set_option linter.unusedVariables false
theorem info_pair : (Tryz.prog.info? 69).map (fun i => (i.zero, i.size, i.bytes)) = some (some (.agg #[.string ⟨#[]⟩, .string ⟨#[]⟩]), 2, 32) := by kernel_rfl
theorem elB_pair : ElemB Tryz.prog 85 69 2 32 := ElemB.of Tryz.underlying85 info_pair rfl (by decide)
def pkC (l : List (Nm × Nm)) : List Value := l.flatMap fun x => [encS x.1, encS x.2]
theorem pkC_snoc (l : List (Nm × Nm)) (x : Nm × Nm) : pkC (l ++ [x]) = pkC l ++ [encS x.1, encS x.2] := by unfold pkC; rw [List.flatMap_append]; simp
theorem pkC_len (l : List (Nm × Nm)) : (pkC l).length = l.length * 2 := by
  unfold pkC
  induction l with
  | nil => rfl
  | cons x l ih => rw [List.flatMap_cons, List.length_append, ih]; simp; omega
/-- What AppendSeq keeps between two rounds. -/
structure ApI (w0 : World) (Bs : Nat) (pre : List (Nm × Nm)) (W : World) : Prop where
  box : ∃ v, Bk W Bs #[v] 85 ∧ W.ownsRow w0.heap.size 69 2 v pre.length (pkC pre)
  below : Below w0.heap.size w0 W
theorem Bk.grownO {W W' : World} {h : Nat} {cs : Array Value} {t : TypeId} {row : Option Nat} (hb : Bk W h cs t) (hg : W.grownBy W' row) (hr : ∀ r, row = some r → ∃ o : Obj, W.heap[r]? = some o ∧ o.isCells = false) : Bk W' h cs t :=
  (hg.block h hb.lt (fun e => by
    obtain ⟨o, ho, hc⟩ := hr h e.symm
    unfold Bk at hb
    rw [hb] at ho
    cases ho; cases hc)).trans hb
theorem ownsRow_grownO {W W' : World} {base : Nat} {t : TypeId} {sz n : Nat} {v : Value} {xs : List Value} {row : Option Nat} (h : W.ownsRow base t sz v n xs) (hg : W.grownBy W' row) (hr : ∀ r, row = some r → ∃ o : Obj, W.heap[r]? = some o ∧ o.isCells = false) : W'.ownsRow base t sz v n xs := by
  refine ⟨h.1, ?_⟩
  rcases h.2 with h1 | ⟨g, cap, cur, rfl, hg1, hh, rest⟩
  · exact .inl h1
  · exact .inr ⟨g, cap, cur, rfl, hg1, Bk.grownO (show Bk W g cur t from hh) hg hr, rest⟩
theorem ApI.own {w0 : World} {Bs B : Nat} (hB : w0.heap.size ≤ B) : OwnFrom B (ApI w0 Bs) := fun pre W W' row h hg hr => by
  obtain ⟨v, h1, h2⟩ := h.box
  exact ⟨⟨v, h1.grownO hg (fun r e => (hr r e).2), ownsRow_grownO h2 hg (fun r e => (hr r e).2)⟩, h.below.grown hg h.below.size (fun k e => Nat.le_trans hB (hr k e).1)⟩
theorem keepsW_of {W W' : World} (h : KeepsOthers W W') : KeepsWalks W W' := ⟨h.size, fun k o hk ho => h.same k o hk (Obj.not_cells_of_walk ho)⟩
theorem ko_grown {n₀ sz n : Nat} {wa w2 : World} {t : TypeId} {v : Value} {vals : List Value} (ho : wa.ownsRow n₀ t sz v n vals) (hg : wa.grownBy w2 v.ownBlock) : KeepsOthers wa w2 :=
  ⟨hg.size, fun k o hk hc => (hg.block k (Array.getElem?_eq_some_iff.1 hk).1 (fun e => by
    obtain ⟨cs, hb⟩ := ownBlock_cells ho e.symm
    unfold Bk at hb
    rw [hb] at hk
    cases hk; cases hc)).trans hk⟩
def CollP (l : List (Nm × Nm)) (w : World) (e : Ending) (w' : World) : Prop := ∃ xs v, e = .returned v ∧ xs.Perm l ∧ w'.ownsRow w.heap.size 69 2 v xs.length (pkC xs) ∧ Below w.heap.size w w'
set_option maxRecDepth 100000 in
set_option maxHeartbeats 1000000 in
theorem pappend_any {w : World} {Bm b : Nat} {l : List (Nm × Nm)} {f : Nm × Nm → Option Value} (hm : MapL pairK w b l f) (hB : Bk w Bm #[.map (some b)] 52) (hl : l.length ≤ 1000) :
    Calls Tryz.prog 76 #[.slice none 0 0, .func (.func 77) #[] (pkLb Bm)] w (CollP l w) := by
  refine (callsIn_wide (n := 5)).1 ?_
  have HSQ := Lib.hid (pkeys1_any 4 hm hB)
  have HL := Lib.hid hl
  clear hm hB hl
  refine callsIn_of_wp_marks (fn := Tryz.f76) Tryz.func76 rfl trivial ?_ rfl
  simp only [Tryz.ntmps76, List.size_toArray, List.length_cons, List.length_nil, Nat.reduceAdd, Nat.reduceSub, Array.replicate_succ, Array.replicate_zero, List.push_toArray, List.append_toArray, List.nil_append, List.cons_append]
  gi_wp2
  obtain ⟨W0, hW0⟩ : ∃ W0, W0 = w.alloc (.cells #[.slice none 0 0] 85) := ⟨_, rfl⟩
  have HB0 : Hid (Below w.heap.size w W0) := Lib.hid (by rw [hW0]; exact below_alloc _ _)
  have HK0 : Hid (Bk W0 w.heap.size #[.slice none 0 0] 85) := Lib.hid (by rw [hW0]; exact Bk.new _ _ _)
  have HLT : Hid (w.heap.size < W0.heap.size) := Lib.hid (by rw [hW0, World.size_alloc]; omega)
  rw [← hW0]
  clear hW0
  have HLE : Hid (w.heap.size ≤ W0.heap.size) := Lib.hid (Nat.le_of_lt HLT.out)
  refine wpIn_rangeFunc_ownH rfl (by decide) (gf := 77) (lb := pkLb Bm) rfl trivial (enters_of Tryz.func77 (by kernel_rfl) rfl) HSQ.out (fun h1 h2 => h1.trans h2)
    (fun W lp o o' hl ho hc hw => ⟨(grownBy_putObj' W lp o').size, fun k ok hk hkw => by
      have hne : k ≠ lp := by
        rintro rfl
        rw [ho] at hk; cases hk
        rw [hw] at hkw; cases hkw
      exact (World.putObj_heap_other hne).trans hk⟩) HB0.out (fun x => rfl)
    (ApI w w.heap.size) (fun _ _ _ => False) (ApI.own HLE.out) (fun _ pre W W' row h _ _ => h) ⟨⟨_, HK0.out, World.ownsRow_nil _ _ _ _⟩, HB0.out⟩
    (fun x a' W => ∃ X, a' = { tmps := #[.slice none 0 0, .func (.func 77) #[] (pkLb Bm), .pointer (some ⟨w.heap.size, 0, none⟩), undef, .slice none 0 0, .pointer (some ⟨X, 0, none⟩), .func (.func 77) #[] (pkLb Bm), .agg #[encS x.1, encS x.2], undef, undef, undef, undef, undef], defers := [] } ∧ Bk W X #[encS x.1, encS x.2] 69)
    (fun x a' u W W' row h hg hr => by
      obtain ⟨X, h1, h2⟩ := h
      exact ⟨X, h1, h2.grownO hg (fun r e => (hr r e).2)⟩) ?assign ?body ?done ?stop
  case assign =>
    intro lp pre x W K hI hK
    have hI2 : ApI w w.heap.size pre (W.alloc (.cells #[encS x.1, encS x.2] 69)) := (ApI.own (B := W0.heap.size) HLE.out).alloc _ hI
    have HK := Lib.hid (hK { tmps := #[.slice none 0 0, .func (.func 77) #[] (pkLb Bm), .pointer (some ⟨w.heap.size, 0, none⟩), undef, .slice none 0 0, .pointer (some ⟨W.heap.size, 0, none⟩), .func (.func 77) #[] (pkLb Bm), .agg #[encS x.1, encS x.2], undef, undef, undef, undef, undef], defers := [] } (W.alloc (.cells #[encS x.1, encS x.2] 69))
      ((KeepsOthers.alloc W _).from _) (KeepsWalks.alloc W _) hI2 ⟨W.heap.size, rfl, Bk.new _ _ _⟩)
    clear hK hI hI2
    refine wpIn_region_lit (wpListIn_of_plain (fun a w h => h) _ _ _ (by rfl) ?_)
    go_wp2_with fail
    exact HK.out
  case body =>
    rintro lp pre x a' W hlp _ hI ⟨X, rfl, hX⟩ hlen
    obtain ⟨v, hbk, hown⟩ := hI.box
    have c0 := hbk.cell 0; have f0 := hbk.froz 0
    have x0 := hX.cell 0; have x1 := hX.cell 1
    simp only [List.getElem?_toArray, List.getElem?_cons_succ, List.getElem?_cons_zero] at c0 x0 x1
    have HOWN := Lib.hid hown; have HBK := Lib.hid hbk; have HBW := Lib.hid hI.below
    have hszw := hI.below.size
    obtain ⟨A, c, rfl, hc⟩ := own_form hown
    have hpl : pre.length ≤ 1000 := by have := HL.out; omega
    clear hI hX hbk hown hlen
    gi_upto_region 3 with fail
    refine wpIn_region_lit (wpListIn_of_plain (fun a w h => h) _ _ _ (by rfl) ?_)
    go_wp2_with (at_builtin
                 refine wpList_push elB_pair (.tmp 8) (.tmp 10) rfl rfl w.heap.size pre.length (pkC pre) rfl HOWN.out rfl rfl (by intro u hu; simp only [List.mem_cons, List.not_mem_nil, or_false] at hu; rcases hu with rfl | rfl <;> rfl) (by omega) (by decide) hszw ?_
                 intro v9 w9 hown9 hb9 hg9
                 obtain ⟨A9, d9, rfl, hd9⟩ := own_form hown9
                 have hne9 : ∀ r, (Value.slice A pre.length c).ownBlock = some r → r ≠ w.heap.size := fun r hr => by
                   obtain ⟨cs, hb⟩ := ownBlock_cells HOWN.out hr
                   exact hb.ne HBK.out (by decide)
                 have hbk9 : Bk w9 w.heap.size #[.slice A pre.length c] 85 := (hg9.block _ HBK.out.lt (fun e => hne9 _ e.symm rfl)).trans HBK.out
                 have c9 := hbk9.cell 0
                 have f9 := hbk9.froz 0
                 simp only [List.getElem?_toArray, List.getElem?_cons_zero] at c9
                 have HBK9 := Lib.hid hbk9; have HOWN9 := Lib.hid hown9
                 have HKO : Hid (KeepsOthers W w9) := Lib.hid (ko_grown HOWN.out hg9)
                 have HB9 : Hid (Below w.heap.size w w9) := Lib.hid (HBW.out.trans hb9)
                 clear hown9 hb9 hg9 hne9 hbk9)
    gi_wp2_with fail
    have hko : KeepsOthers W (w9.setCell ⟨w.heap.size, 0, none⟩ (.slice A9 (pre.length + 1) d9)) := HKO.out.trans (KeepsOthers.setCell w9 ⟨w.heap.size, 0, none⟩ _)
    have hck := CK.setCell (o := 0) (u := .slice A9 (pre.length + 1) d9) HBK9.out
    refine ⟨hko.from _, keepsW_of hko, ⟨⟨_, HBK9.out.set 0 _, ?_⟩, HB9.out.setCell (p := ⟨w.heap.size, 0, none⟩) (Nat.le_refl _) _⟩⟩
    rw [List.length_append, List.length_singleton, pkC_snoc]
    exact ownsRow_ck HOWN9.out hck (by decide)
  case done =>
    intro Dm xs W hDm hS hI hD
    obtain ⟨v, hbk, hown⟩ := hI.box
    have c0 := hbk.cell 0
    simp only [List.getElem?_toArray, List.getElem?_cons_zero] at c0
    have HOWN := Lib.hid hown; have HBW := Lib.hid hI.below; have HS := Lib.hid hS; have HD := Lib.hid hD; have HDm := Lib.hid hDm
    clear hI hbk hown hS hD hDm
    gi_wp2
    refine ⟨by simp, .inl ⟨_, _, rfl, run_takeDeferred HD.out, ?_⟩⟩
    have hrow : ∀ r, some Dm = some r → ∃ o : Obj, W.heap[r]? = some o ∧ o.isCells = false := fun r e => by cases e; exact ⟨_, HD.out, rfl⟩
    exact ⟨_, results_tmp rfl _ _ _, xs, v, rfl, HS.out, ownsRow_grownO HOWN.out (grownBy_putObj' W Dm _) hrow, HBW.out.grown (grownBy_putObj' W Dm _) HBW.out.size (fun k e => by cases e; exact Nat.le_trans HLE.out HDm.out)⟩
  case stop => exact fun _ _ _ _ _ _ h _ => h.elim
set_option maxHeartbeats 1000000 in
theorem pcollect_any {w : World} {b : Nat} {l : List (Nm × Nm)} {f : Nm × Nm → Option Value} (hm : MapL pairK w b l f) (hl : l.length ≤ 1000) :
    Calls Tryz.prog 57 #[.func (.func 77) #[] (pkLb w.heap.size)] (w.alloc (.cells #[.map (some b)] 52)) (CollP l (w.alloc (.cells #[.map (some b)] 52))) := by
  have H := Lib.hid (pappend_any (hm.keep (Below.heap_alloc w (.cells #[.map (some b)] 52) b hm.lt)) (Bk.new w #[.map (some b)] 52) hl)
  clear hm hl
  go_enter Tryz.func57, Tryz.ntmps57
  go_wp2_with fail
  refine H.out.mono ?_
  rintro e w2 ⟨xs, v, rfl, h⟩
  have HH := Lib.hid h
  clear h
  go_wp2_with fail
  go_ret
  exact ⟨xs, v, rfl, HH.out⟩
theorem pkeys_any (mb : Option Nat) (W : World) : Calls Tryz.prog 58 #[.map mb] W fun e w' => e = .returned (.func (.func 77) #[] (pkLb W.heap.size)) ∧ w' = W.alloc (.cells #[.map mb] 52) := by
  have hmf : ∀ (fn : Fn) (first cap : Array Value) (w : World), (Instr.makeFunc fn first cap).run Tryz.prog w = .ok (.func fn first cap) w := fun _ _ _ _ => rfl
  go_enter Tryz.func58, Tryz.ntmps58
  go_wp2_with fail
  go_ret
  exact ⟨rfl, rfl⟩
end Go.Proofs.YtblilfbhohnbgaaGreat
