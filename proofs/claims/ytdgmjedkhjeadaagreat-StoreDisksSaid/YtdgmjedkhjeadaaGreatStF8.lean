/- The contract of slices.Delete at an own row of keys, and of state.drop. Conditions: as each statement says. -/
import Derived.Test.YtdgmjedkhjeadaaGreatStA8
import Derived.Test.YtdgmjedkhjeadaaGreatDelK
namespace Go.Proofs.YtdgmjedkhjeadaaGreat
open Go.RowKit Go.Sort
set_option linter.unusedVariables false
def encP (p : Option Addr) : Value := .pointer p
def kbP (x : KB) : Option Addr := some ⟨x.kb, 0, none⟩
theorem encP_kb (xs : List KB) : (xs.map kbP).map encP = xs.map KB.pv := by simp [encP, kbP, KB.pv]
theorem holds_own {w : World} {g : Nat} {cur : Array Value} {e : TypeId} {ss : List (Option Addr)} (hb : w.heap[g]? = some (.cells cur e (0, 0))) (ht : cur.toList.take ss.length = ss.map encP) : Holds encP w g 0 ss.toArray := by
  intro j hj
  have hj' : j < ss.length := by simpa using hj
  refine ⟨?_, by simp [World.frozen?, hb]⟩
  have h1 : (cur.toList.take ss.length)[j]? = (ss.map encP)[j]? := by rw [ht]
  rw [List.getElem?_take_of_lt hj'] at h1
  simp only [World.cell?, hb, Nat.zero_add]
  simp only [Option.isSome_none, Bool.false_eq_true, if_false]
  rw [← Array.getElem?_toList, h1]
  simp [hj']
theorem take_putP (cur : Array Value) (ts : List (Option Addr)) (k : Nat) (hk : k ≤ ts.length) (h : ts.length ≤ cur.size) : (putCells encP 0 ts.toArray cur).toList.take k = (ts.take k).map encP := by
  apply List.ext_getElem?
  intro j
  by_cases hj : j < k
  · rw [List.getElem?_take_of_lt hj, Array.getElem?_toList, List.getElem?_map, List.getElem?_take_of_lt hj]
    have h2 : j < ts.length := by omega
    simp [putCells, h2, show j < cur.size by omega]
  · rw [List.getElem?_take_eq_none (by omega), List.getElem?_eq_none (by simp; omega)]
section
variable {w w' : World} {S : Nat} {j : Jn} {kv : Value} {xs : List KB} {tb : Option Addr} {tc : Nat}
theorem eraseIdx_take {α : Type} (l : List α) (i : Nat) : l.take i ++ l.drop (i + 1) = l.eraseIdx i := by
  rw [List.eraseIdx_eq_take_drop_succ]
def DelP (xs : List KB) (kv : Value) (i : Nat) (w : World) (e : Ending) (w' : World) : Prop :=
  ∃ g cap, kv = .slice (some ⟨g, 0, none⟩) xs.length cap ∧ e = .returned (.slice (some ⟨g, 0, none⟩) (xs.length - 1) cap) ∧ w'.ownsRow 0 121 1 (.slice (some ⟨g, 0, none⟩) (xs.length - 1) cap) (xs.length - 1) ((xs.eraseIdx i).map KB.pv) ∧ KeepL [g] w w'
theorem delK_own (i : Nat) (hi : i < xs.length) (hn : xs.length ≤ 1001) (h : w.ownsRow 0 121 1 kv xs.length (xs.map KB.pv)) :
    Calls Tryz.prog 129 #[kv, .int .i64 (i : Int), .int .i64 ((i + 1 : Nat) : Int)] w (DelP xs kv i w) := by
  rcases h.2 with ⟨_, h0⟩ | ⟨g, cap, cur, rfl, hg, hb, h1, h2, h3, h4⟩
  · omega
  · obtain ⟨i0, hi0, hz0, hz1, hz2⟩ := info_parts (by kernel_rfl : (Tryz.prog.info? 121).map (fun i => (i.zero, i.size, i.bytes)) = some (some (.pointer none), 1, 8))
    rw [Nat.mul_one, ← encP_kb] at h4
    have hd : (xs.map kbP).toArray.size = xs.length := by simp
    have hH : Holds encP w g 0 (xs.map kbP).toArray := holds_own hb (by rw [List.length_map]; exact h4)
    have hcon := Go.Proofs.AnyE.slices_Delete sh_delK encP (fun _ => rfl) none (fun w => by kernel_rfl) i0 hi0 hz1 g 0 cap i (i + 1) (xs.map kbP).toArray w hH (by rw [hd]; exact h1) (by unfold maxLen at h2; omega) (by omega) (by rw [hd]; omega)
    rw [hd] at hcon
    refine (show Calls Tryz.prog 129 _ _ _ from hcon).mono ?_
    rintro e w' ⟨rfl, q, rfl⟩
    have hlt : g < w.heap.size := (Array.getElem?_eq_some_iff.1 hb).1
    have ets : (((xs.map kbP).toArray.toList.take i ++ (xs.map kbP).toArray.toList.drop (i + 1) ++ List.replicate (i + 1 - i) none).toArray : Array (Option Addr)) = ((xs.eraseIdx i).map kbP ++ [none]).toArray := by
      have : i + 1 - i = 1 := by omega
      rw [this]
      show ((xs.map kbP).take i ++ (xs.map kbP).drop (i + 1) ++ [none]).toArray = _
      rw [← List.map_take, ← List.map_drop, ← List.map_append, eraseIdx_take]
    rw [ets]
    have hel : (xs.eraseIdx i).length = xs.length - 1 := List.length_eraseIdx_of_lt hi
    refine ⟨g, cap, rfl, by rw [show xs.length - (i + 1 - i) = xs.length - 1 by omega], ⟨by simp [hel], .inr ⟨g, cap, putCells encP 0 ((xs.eraseIdx i).map kbP ++ [none]).toArray cur, rfl, hg, ?_, by omega, h2, by simp [putCells, h3], ?_⟩⟩, ?_⟩
    · simp [putRow, mapBlock, Sort.ahead, Array.getElem?_modify, hb, onCells]
    · rw [Nat.mul_one, take_putP _ _ _ (by simp [hel]) (by simp [hel]; omega), List.take_left' (by simp [hel]), encP_kb]
    · refine ⟨rfl, rfl, rfl, by simp [putRow, mapBlock, Sort.ahead], fun k hk hne => ?_⟩
      have : g ≠ k := fun e => hne (by simp [e])
      simp [putRow, mapBlock, Sort.ahead, Array.getElem?_modify, this]
def Jn.dropR (j : Jn) (r : Rc) : Option Jn := (findK j.keys r.id).map fun i => { j with keys := j.keys.eraseIdx i }
theorem flat_erase (i : Nat) : ∀ k ∈ (xs.eraseIdx i).flatMap KB.l, k ∈ xs.flatMap KB.l := fun k hk => by
  obtain ⟨x, hx, h⟩ := List.mem_flatMap.1 hk
  exact List.mem_flatMap.2 ⟨x, List.mem_of_mem_eraseIdx hx, h⟩
theorem flat_sub {l l' : List KB} (h : l'.Sublist l) (hn : (l.flatMap KB.l).Nodup) : (l'.flatMap KB.l).Nodup := by
  refine hn.sublist ?_
  induction h with
  | slnil => exact List.Sublist.slnil
  | cons a _ ih => exact (ih (by rw [List.flatMap_cons, List.nodup_append] at hn; exact hn.2.1)).trans (by rw [List.flatMap_cons]; exact List.sublist_append_right _ _)
  | cons_cons a _ ih =>
    rw [List.flatMap_cons, List.flatMap_cons]
    exact (List.Sublist.refl _).append (ih (by rw [List.flatMap_cons, List.nodup_append] at hn; exact hn.2.1))
/-- A key is dropped. -/
theorem JnAt.dropped {w1 w2 : World} (h : JnAt w S j kv xs tb tc) (hb : Below w.heap.size w w1) {i : Nat} (hi : i < xs.length) {g cap : Nat} (hkv : kv = .slice (some ⟨g, 0, none⟩) xs.length cap) (hk : KeepL [g] w1 w2)
    (ho : w2.ownsRow 0 121 1 (.slice (some ⟨g, 0, none⟩) (xs.length - 1) cap) (xs.length - 1) ((xs.eraseIdx i).map KB.pv)) (X : List Nat) :
    JnMut w (w2.setCell ⟨S, 0, none⟩ (.slice (some ⟨g, 0, none⟩) (xs.length - 1) cap)) S kv xs tb X { j with keys := j.keys.eraseIdx i } := by
  have h1 := h.far hb
  have hg : ob kv = [g] := by rw [hkv]; rfl
  have K2 := KeepL.set w2 S 0 (.slice (some ⟨g, 0, none⟩) (xs.length - 1) cap)
  have T1 : ∀ b ∈ [g], ∃ cs, Bk w1 b cs 121 := by rw [← hg]; exact own_bk h1.row
  have hS : Bk w2 S (stC kv j tb tc) 117 := h1.blk.keepL hk fun hm => by
    obtain ⟨cs, hc⟩ := T1 S hm
    exact hc.ne h1.blk (by decide) rfl
  have T2 : ∀ b ∈ [S], ∃ cs t, Bk w2 b cs t ∧ t = 117 := fun b hb => by
    rw [List.mem_singleton] at hb; subst hb; exact ⟨_, _, hS, rfl⟩
  have hlen := h.xlen
  have hel : (j.keys.eraseIdx i).length = xs.length - 1 := by rw [List.length_eraseIdx_of_lt (by omega)]; omega
  have kk : ∀ y q, KyAt w1 y q → KyAt (w2.setCell ⟨S, 0, none⟩ (.slice (some ⟨g, 0, none⟩) (xs.length - 1) cap)) y q := fun y q hy =>
    (hy.keepT hk fun b hb => by obtain ⟨cs, hc⟩ := T1 b hb; exact ⟨cs, _, hc, by decide, by decide⟩).keepT K2 fun b hb => by
      obtain ⟨cs, t, hc, rfl⟩ := T2 b hb; exact ⟨cs, _, hc, by decide, by decide⟩
  refine ⟨⟨.slice (some ⟨g, 0, none⟩) (xs.length - 1) cap, xs.eraseIdx i, tb, tc, ⟨⟨?_, h.ok.place, h.ok.tail, h.ok.last⟩, hS.set 0 _, ?_, ?_, ?_, ?_⟩, ?_, fun k hk => .inl hk⟩, ?_⟩
  · have := h.ok.keys
    show (j.keys.eraseIdx i).length ≤ 1001
    omega
  · show World.ownsRow _ 0 121 1 _ (j.keys.eraseIdx i).length _
    rw [hel]
    exact own_keepT ho K2 fun b hb => by
      obtain ⟨cs, t, hc, rfl⟩ := T2 b hb; exact ⟨cs, _, hc, by decide⟩
  · intro k y q hy hq
    rw [List.getElem?_eraseIdx] at hy hq
    by_cases hki : k < i
    · rw [if_pos hki] at hy hq
      exact kk _ _ (h1.keys k y q hy hq)
    · rw [if_neg hki] at hy hq
      exact kk _ _ (h1.keys (k + 1) y q hy hq)
  · exact own_keepT (own_keepT h1.tail hk fun b hb => by obtain ⟨cs, hc⟩ := T1 b hb; exact ⟨cs, _, hc, by decide⟩) K2 fun b hb => by
      obtain ⟨cs, t, hc, rfl⟩ := T2 b hb; exact ⟨cs, _, hc, by decide⟩
  · exact flat_sub (List.eraseIdx_sublist xs i) h.nodup
  · intro b hb2
    simp only [fpJ, List.mem_cons, List.mem_append] at hb2 ⊢
    rcases hb2 with rfl | hb2 | hb2
    · exact .inl (.inl rfl)
    · refine .inl (.inr (.inl ?_))
      rw [hg]
      exact hb2
    · exact .inl (.inr (.inr (flat_erase i b hb2)))
  · refine (KeepL.of_below hb).trans ((hk.sub fun b hb => ?_).trans (K2.sub fun b hb => ?_))
    · rw [← hg] at hb
      simp [fpJ, hb]
    · rw [List.mem_singleton] at hb; subst hb; simp [fpJ]
set_option maxRecDepth 100000 in
theorem drop_any8 (h : JnAt w S j kv xs tb tc) (r : Rc) (A : Option Addr) (c : Nat) (X : List Nat) (ho : RcOK r) (hr : BytR w A c r.bits) :
    Calls Tryz.prog 110 #[.pointer (some ⟨S, 0, none⟩), recV r A c] w (StepP S kv xs tb X (j.dropR r) w) := by
  have HN := Lib.hid (StR.new h hr)
  have H := Lib.hid h; have HO := Lib.hid ho
  clear h hr ho
  unfold recV
  go_enter Tryz.func110, Tryz.ntmps110
  go_upto_region 1 with fail
  rw [rc_lit]
  obtain ⟨w1, hw1⟩ : ∃ z, z = w.alloc (.cells (recC r A c) 115) := ⟨_, rfl⟩
  rw [← hw1] at HN ⊢
  have HB1 : Hid (Below w.heap.size w w1) := Lib.hid (by rw [hw1]; exact balloc _ _)
  obtain ⟨g, hg⟩ : ∃ g, g = w.heap.size := ⟨_, rfl⟩
  have HG := Lib.hid hg
  rw [← hg] at HN ⊢
  have a2 := HN.out.r2
  have HF := Lib.hid (find_any HN.out.js r.id)
  clear hw1 hg
  go_wp2_with fail
  refine HF.out.mono ?_
  clear HF a2
  rintro e w2 ⟨rfl, hb2⟩
  have HN2 := Lib.hid (HN.out.far hb2)
  have HB2 := Lib.hid (bnextK HB1.out hb2)
  clear hb2
  have s0 := HN2.out.s0
  have hk1 := HN2.out.js.ok.keys
  cases hfk : findK j.keys r.id with
  | none =>
    have HQ : Hid (j.dropR r = none) := Lib.hid (by unfold Jn.dropR; rw [hfk]; rfl)
    have he : fidx j.keys r.id = -1 := by unfold fidx; rw [hfk]
    rw [he]
    clear hfk he
    go_wp2_with fail
    go_ret
    exact .inr ⟨HQ.out, rfl, HB2.out⟩
  | some i =>
    have he : fidx j.keys r.id = (i : Int) := by unfold fidx; rw [hfk]
    obtain ⟨k0, hk0, _, hi⟩ := findK_get hfk
    have HQ : Hid (j.dropR r = some { j with keys := j.keys.eraseIdx i }) := Lib.hid (by unfold Jn.dropR; rw [hfk]; rfl)
    rw [he]
    have hxl := HN2.out.js.xlen
    have hrow := HN2.out.js.row
    rw [← hxl] at hrow
    have HD := Lib.hid (delK_own i (by omega) (by omega) hrow)
    have hcast : ((i + 1 : Nat) : Int) = (i : Int) + 1 := by simp
    rw [hcast] at HD
    have hi0 : ¬ (i : Int) < 0 := by omega
    have hib : i ≤ 1001 := by omega
    have HXI : Hid (i < xs.length) := Lib.hid (by omega)
    clear hfk he hk0 hrow hxl hcast
    go_wp2_with fail
    refine HD.out.mono ?_
    rintro e w3 ⟨g', cap, hkv, rfl, ho3, hk3⟩
    have HO3 := Lib.hid ho3; have HK3 := Lib.hid hk3; have HKV := Lib.hid hkv
    have hS3 : Bk w3 S (stC kv j tb tc) 117 := HN2.out.js.blk.keepL hk3 fun hm => by
      obtain ⟨cs, hc⟩ := own_bk HN2.out.js.row S (by rw [hkv]; exact hm)
      exact hc.ne HN2.out.js.blk (by decide) rfl
    have c0 : w3.cell? ⟨S, 0, none⟩ = some kv := hS3.cell 0
    have f0 := hS3.froz 0
    clear ho3 hk3 hkv hS3 HD s0
    go_wp2_with fail
    go_ret
    exact .inl ⟨_, HQ.out, rfl, H.out.dropped HB2.out HXI.out HKV.out HK3.out HO3.out X⟩
end
end Go.Proofs.YtdgmjedkhjeadaaGreat
