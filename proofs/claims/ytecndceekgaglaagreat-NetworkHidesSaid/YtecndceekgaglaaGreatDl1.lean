/- What nodes see of what was sent, plainly. No program is in sight. -/
import Derived.Test.YtecndceekgaglaaGreatNet47
import Derived.Test.YtecndceekgaglaaGreatExplRef
import Derived.Test.YtecndceekgaglaaGreatSm3
import Derived.Test.YtecndceekgaglaaGreatForms2
import Derived.Laws.CopyOwn
import Derived.Test.YtecndceekgaglaaGreatNet35
namespace Go.Proofs.YtecndceekgaglaaGreat
set_option linter.unusedVariables false
theorem sendN_same (s : NS) (a b : Nm) (sec co : List Nat) (n k q : Nat) : (sendN s a b sec co n k q).nodes = s.nodes ∧ (sendN s a b sec co n k q).fen = s.fen ∧ (sendN s a b sec co n k q).pairs = s.pairs ∧ (sendN s a b sec co n k q).now = s.now ∧ (sendN s a b sec co n k q).last = s.last ∧ (sendN s a b sec co n k q).holds = s.holds := by
  obtain ⟨h1, h2, h3, h4, h5, h6, _⟩ := moves_same (-8 * (n : Int)) 0 (8 * (n : Int)) (sendPs s a b n k) s
  exact ⟨h1, h2, h3, h4, h5, h6⟩
/-- The transfer that Send adds. -/
def sentX (s : NS) (a b : Nm) (sec co : List Nat) (n k q : Nat) : SentM := ⟨(s.sents.length : Int) + 1, (q : Int) + 1, n, sendPs s a b n k, sendSh sec co q n k⟩
theorem sendN_sents (s : NS) (a b : Nm) (sec co : List Nat) (n k q : Nat) : (sendN s a b sec co n k q).sents = s.sents ++ [sentX s a b sec co n k q] := rfl
/-- What is known of a sending. -/
structure Sending (s : NS) (a b : Nm) (sec co : List Nat) (n k q : Nat) : Prop where
  ok : NSOK s
  ha : a ∈ s.nodes
  hb : b ∈ s.nodes
  hab : a ≠ b
  ne : pathsG s (8 * (n : Int)) a b k ≠ []
  k4 : k ≤ 4
  q1 : q + 1 ≤ k
  n1 : 1 ≤ n
  n2 : n ≤ 256
  sl : sec.length = n
  cl : co.length = n * q
  sb : Bytes sec
  cb : Bytes co
  se : sendE s a b n k ((q : Int) + 1) (n * q : Nat) = 0
section
variable {s : NS} {a b : Nm} {sec co : List Nat} {n k q : Nat}
theorem Sending.len (h : Sending s a b sec co n k q) : (sendPs s a b n k).length = k := by
  unfold sendPs; rw [List.length_map]; exact (pathsN h.ok h.ha h.hb h.hab h.ne).1
theorem Sending.sane (h : Sending s a b sec co n k q) : SentSane (sentX s a b sec co n k q) := by
  obtain ⟨p1, p2, p3, p4⟩ := pathsN h.ok h.ha h.hb h.hab h.ne
  have h4 := h.k4
  have hn := h.n2
  refine ⟨⟨by show (sendSh sec co q n k).length ≤ 1000; rw [sendSh_len]; omega, fun y hy => ?_⟩, ?_, fun p hp => ?_⟩
  · have hy' : y ∈ sendSh sec co q n k := hy
    unfold sendSh at hy'
    obtain ⟨t, ht, rfl⟩ := List.mem_map.1 hy'
    rw [List.mem_range] at ht
    exact ⟨by show t + 1 < 256; omega, shareY_bytes h.sb h.cb, by show (shareY _ _ _ _ _).length ≤ _; rw [shareY_len]; omega⟩
  · show (sendSh sec co q n k).length = (sendPs s a b n k).length
    rw [sendSh_len, h.len]
  · have hg := p2 p hp
    have : p.length ≤ s.nodes.length := nodup_sub_len hg.nodup hg.mem
    have := h.ok.nn
    exact ⟨hg.len, by omega⟩
/-- The numbers of the shares that g sees. -/
def seesA (ps : List (List Nm)) (k : Nat) (g : List Nm) : List Nat := (List.range k).filter fun t => metB g (ps.getD t [])
theorem seenL_sees {ps : List (List Nm)} {sec co : List Nat} {q n k : Nat} (hl : ps.length = k) (g : List Nm) : seenL ps (sendSh sec co q n k) g = (seesA ps k g).map fun t => (t + 1, shareY sec co q (t + 1) n) := by
  have e : ps.zip (sendSh sec co q n k) = (List.range k).map fun t => (ps.getD t [], (t + 1, shareY sec co q (t + 1) n)) := by
    refine List.ext_getElem? (fun i => ?_)
    rcases Nat.lt_or_ge i k with hi | hi
    · rw [List.getElem?_map, List.getElem?_range hi]
      have h1 : ps[i]? = some (ps.getD i []) := by rw [List.getD_eq_getElem?_getD, List.getElem?_eq_getElem (by omega)]; rfl
      have h2 : (sendSh sec co q n k)[i]? = some (i + 1, shareY sec co q (i + 1) n) := by unfold sendSh; rw [List.getElem?_map, List.getElem?_range hi]; rfl
      have h3 : (ps.zip (sendSh sec co q n k))[i]? = some (ps.getD i [], (i + 1, shareY sec co q (i + 1) n)) := List.getElem?_zip_eq_some.2 ⟨h1, h2⟩
      rw [h3]; rfl
    · rw [List.getElem?_eq_none (by rw [List.length_zip, sendSh_len]; omega), List.getElem?_eq_none (by simp; omega)]
  unfold seenL seesA
  rw [e, List.filter_map, List.map_map]
  rfl
theorem seesA_lt {ps : List (List Nm)} {k : Nat} {g : List Nm} : ∀ t ∈ seesA ps k g, t < k := fun t ht => List.mem_range.1 (List.mem_filter.1 ht).1
theorem seesA_nodup (ps : List (List Nm)) (k : Nat) (g : List Nm) : (seesA ps k g).Nodup := List.nodup_range.sublist List.filter_sublist
theorem seesA_len (ps : List (List Nm)) (k : Nat) (g : List Nm) : (seesA ps k g).length ≤ k := by
  have := List.length_filter_le (fun t => metB g (ps.getD t [])) (List.range k)
  rw [List.length_range] at this
  exact this
theorem Sending.few (h : Sending s a b sec co n k q) (x : Nm) : (seesA (sendPs s a b n k) k [x]).length ≤ 1 := by
  obtain ⟨p1, p2, p3, p4⟩ := pathsN h.ok h.ha h.hb h.hab h.ne
  have hl := h.len
  have key : ∀ t u, t < u → u < k → metB [x] ((sendPs s a b n k).getD t []) = true → metB [x] ((sendPs s a b n k).getD u []) = true → False := fun t u htu hu h1 h2 => by
    unfold metB at h1 h2
    rw [List.any_eq_true] at h1 h2
    obtain ⟨y, hy, e1⟩ := h1
    obtain ⟨z, hz, e2⟩ := h2
    simp only [List.mem_singleton, decide_eq_true_eq] at e1 e2
    rw [e1] at hy; rw [e2] at hz
    have := (List.pairwise_iff_getElem.1 p4) t u (by show t < (sendPs s a b n k).length; omega) (by show u < (sendPs s a b n k).length; omega) htu
    rw [List.getD_eq_getElem?_getD, List.getElem?_eq_getElem (by omega)] at hy hz
    exact this x hy hz
  have hnd := seesA_nodup (sendPs s a b n k) k [x]
  have hm : ∀ t ∈ seesA (sendPs s a b n k) k [x], t < k ∧ metB [x] ((sendPs s a b n k).getD t []) = true := fun t ht => ⟨seesA_lt t ht, (List.mem_filter.1 ht).2⟩
  generalize seesA (sendPs s a b n k) k [x] = l at *
  match l, hnd, hm with
  | [], _, _ => simp
  | [_], _, _ => simp
  | t :: u :: l, hnd, hm =>
    exfalso
    have ht := hm t (by simp)
    have hu := hm u (by simp)
    have hne : t ≠ u := fun e => by subst e; simp at hnd
    rcases Nat.lt_or_gt_of_ne hne with h1 | h1
    · exact key t u h1 hu.1 ht.2 hu.2
    · exact key u t h1 ht.1 hu.2 ht.2
theorem somesL_view (B n q : Nat) (sec co at' : List Nat) : (somesL B n q sec co at').map ShareV.view = at'.map fun t => (t + 1, shareY sec co q (t + 1) n) := by
  unfold somesL
  rw [List.map_map]
  rfl
theorem somesL_lens (B n q : Nat) (sec co at' : List Nat) : ShLen (somesL B n q sec co at') := fun s hs => by
  unfold somesL at hs
  obtain ⟨t, _, rfl⟩ := List.mem_map.1 hs
  exact shareY_len _ _ _ _ _
/-- Enough shares give the secret. -/
theorem Sending.join (h : Sending s a b sec co n k q) {at' : List Nat} {L : List ShareV} (hL : ShLen L) (hv : L.map ShareV.view = at'.map fun t => (t + 1, shareY sec co q (t + 1) n)) (hd : at'.Nodup) (hlt : ∀ t ∈ at', t < k) (hk : q + 1 ≤ at'.length) : joinE L ((q : Int) + 1) = 0 ∧ joinS L ((q : Int) + 1) = sec := by
  have h4 := h.k4
  have h1 := h.q1
  have e := join_view (l := L) (m := somesL 0 n q sec co at') hL (somesL_lens _ _ _ _ _ _) (by rw [hv, somesL_view]) ((q : Int) + 1)
  rw [e.1, e.2]
  exact gather_ok h.sb h.cb h.sl h.cl h.n2 (by omega) hd (fun t ht => by have := hlt t ht; omega) hk
theorem Sending.all (h : Sending s a b sec co n k q) {L : List ShareV} (hL : ShLen L) (hv : L.map ShareV.view = sendSh sec co q n k) : joinE L ((q : Int) + 1) = 0 ∧ joinS L ((q : Int) + 1) = sec :=
  h.join (at' := List.range k) hL hv List.nodup_range (fun t ht => List.mem_range.1 ht) (by rw [List.length_range]; exact h.q1)
theorem Sending.some (h : Sending s a b sec co n k q) {L : List ShareV} {g : List Nm} (hL : ShLen L) (hv : L.map ShareV.view = seenL (sendPs s a b n k) (sendSh sec co q n k) g) (hk : q + 1 ≤ L.length) : joinE L ((q : Int) + 1) = 0 ∧ joinS L ((q : Int) + 1) = sec := by
  rw [seenL_sees h.len] at hv
  refine h.join (at' := seesA (sendPs s a b n k) k g) hL hv (seesA_nodup _ _ _) seesA_lt ?_
  have := congrArg List.length hv
  rw [List.length_map, List.length_map] at this
  omega
theorem Sending.seen_len (h : Sending s a b sec co n k q) (g : List Nm) : (seenL (sendPs s a b n k) (sendSh sec co q n k) g).length ≤ k := by
  rw [seenL_sees h.len, List.length_map]
  exact seesA_len _ _ _
theorem Sending.seen_one (h : Sending s a b sec co n k q) (x : Nm) : (seenL (sendPs s a b n k) (sendSh sec co q n k) [x]).length ≤ 1 := by
  rw [seenL_sees h.len, List.length_map]
  exact h.few x
end
/-- The names of a group of nodes. -/
def grpL (m : Nat) (k : Nat) : List Nm := ((List.range k).filter fun i => m.testBit i).map nm
theorem grpL_step (m k : Nat) : grpL m (k + 1) = if m.testBit k = true then grpL m k ++ [nm k] else grpL m k := by
  unfold grpL
  rw [List.range_succ, List.filter_append, List.map_append]
  by_cases h : m.testBit k = true <;> simp [h]
theorem grpL_len (m k : Nat) : (grpL m k).length ≤ k := by
  unfold grpL
  rw [List.length_map]
  have := List.length_filter_le (fun i => m.testBit i) (List.range k)
  rw [List.length_range] at this
  exact this
theorem grpL_mem {m : Nat} : ∀ x ∈ grpL m 8, ∃ i, i < 8 ∧ x = nm i := fun x hx => by
  unfold grpL at hx
  obtain ⟨i, hi, rfl⟩ := List.mem_map.1 hx
  exact ⟨i, List.mem_range.1 (List.mem_filter.1 hi).1, rfl⟩
theorem nm_len (i : Nat) (h : i < 8) : (nm i).length ≤ maxLen := by have := (named_len (nm_named i h)).2; unfold maxLen; omega
theorem allE_small {s : NS} (hn : s.nodes = names8) {l : List Nm} (hl : ∀ x ∈ l, ∃ i, i < 8 ∧ x = nm i) : allE s l = 0 := by
  refine allE_none (fun j hj => ?_)
  obtain ⟨i, hi, e⟩ := hl (l.getD j []) (by rw [List.getD_eq_getElem?_getD, List.getElem?_eq_getElem hj]; exact List.getElem_mem _)
  rw [e]
  unfold oneE
  rw [if_pos (nm_named i hi), if_pos (by rw [hn]; exact nm_mem hi)]
theorem viewE_small {s : NS} (hn : s.nodes = names8) (h1 : s.sents.length = 1) {l : List Nm} (hl : ∀ x ∈ l, ∃ i, i < 8 ∧ x = nm i) : viewE s 1 l = 0 := by
  unfold viewE
  rw [allE_small hn hl]
  have : stE s 1 = 0 := by unfold stE; rw [if_neg (by omega)]
  rw [this]; rfl
/-- The bytes that short returns. -/
def shortL (l : List Nat) : List Nat := if l = [] then [7] else l.take 12
theorem shortL_len (l : List Nat) : 1 ≤ (shortL l).length ∧ (shortL l).length ≤ 12 := by
  unfold shortL
  split
  · simp
  · rename_i h
    have := List.length_pos_iff.2 h
    rw [List.length_take]; omega
theorem shortL_bytes {l : List Nat} (h : Bytes l) : Bytes (shortL l) := by
  unfold shortL
  split
  · intro x hx; simp at hx; omega
  · exact fun x hx => h x (List.mem_of_mem_take hx)
/-- The coins that send hands on. -/
def coinL (m : Nat) (l : List Nat) : List Nat := l.take m ++ List.replicate (m - l.length) 0
theorem coinL_len (m : Nat) (l : List Nat) : (coinL m l).length = m := by unfold coinL; simp; omega
theorem coinL_bytes {m : Nat} {l : List Nat} (h : Bytes l) : Bytes (coinL m l) := by
  intro x hx
  unfold coinL at hx
  rcases List.mem_append.1 hx with hx | hx
  · exact h x (List.mem_of_mem_take hx)
  · have := List.eq_of_mem_replicate hx; omega
#print axioms Sending.some
end Go.Proofs.YtecndceekgaglaaGreat
/- The law's own functions short and send, and the comparison of byte strings. Conditions: as each statement says. -/
namespace Go.Proofs.YtecndceekgaglaaGreat
open Go.RowKit
set_option linter.unusedVariables false
theorem same09_any (A A' : Option Addr) (n m c c' : Nat) (l l' : List UInt8) (w : World) (B : Nat) (h : Rd w B 1 A n (Lib.byteCells l)) (h' : Rd w B 1 A' m (Lib.byteCells l')) :
    Calls Tryz.prog 11 #[.slice A n c, .slice A' m c'] w fun e w' => e = .returned (.bool (decide (l = l'))) ∧ w = w' := by
  have h1 := conv_bytes c l h
  have h2 := conv_bytes c' l' h'
  clear h h'
  go_enter Tryz.func11, Tryz.ntmps11
  go_wp2
  go_ret
  refine ⟨ret_bool ?_, rfl⟩
  rw [Bool.eq_iff_iff]
  simp
theorem bytes09_any (A A' : Option Addr) (n m c c' : Nat) (l l' : List Nat) (w : World) (B : Nat) (hl : Bytes l) (hl' : Bytes l') (h : Rd w B 1 A n (u8s l)) (h' : Rd w B 1 A' m (u8s l')) :
    Calls Tryz.prog 11 #[.slice A n c, .slice A' m c'] w fun e w' => e = .returned (.bool (decide (l = l'))) ∧ w = w' := by
  rw [← bytesOf_cells hl] at h
  rw [← bytesOf_cells hl'] at h'
  have := same09_any A A' n m c c' _ _ w B h h'
  rwa [decide_eq_decide.2 (bytesOf_inj hl hl')] at this
theorem rd_firsts {w : World} {B n k : Nat} {A : Option Addr} {xs : List Value} (h : Rd w B 1 A n xs) (hk : k ≤ n) : Rd w B 1 A k (xs.take k) := by
  refine ⟨by rw [List.length_take]; have := h.1; omega, fun h0 => ?_⟩
  obtain ⟨b, off, e, hb, hc⟩ := h.2 (by omega)
  refine ⟨b, off, e, hb, fun j u hu => hc j u ?_⟩
  rw [List.getElem?_take] at hu
  split at hu
  · exact hu
  · cases hu
theorem own_blk9 {w : World} {g base n : Nat} {cs : List Value} {t : TypeId} (h : w.heap[g]? = some (.cells cs.toArray t (0, 0))) (hn : cs.length = n) (hm : n ≤ 1099511627776) (hb : base ≤ g) : w.ownsRow base t 1 (.slice (some ⟨g, 0, none⟩) n n) n cs :=
  ⟨by simp [hn], .inr ⟨g, n, cs.toArray, rfl, hb, h, Nat.le_refl _, by unfold maxLen; omega, by simp [hn], by rw [List.take_of_length_le (by simp [hn])]⟩⟩
/-- What short hands back. -/
def ShortP (l : List Nat) (w : World) (e : Ending) (w' : World) : Prop := ∃ A c, e = .returned (.slice A (shortL l).length c) ∧ (shortL l).length ≤ c ∧ w'.ownsRow w.heap.size 5 1 (.slice A (shortL l).length c) (shortL l).length (u8s (shortL l)) ∧ Below w.heap.size w w'
set_option maxRecDepth 100000 in
set_option maxHeartbeats 1000000 in
theorem short_any (A : Option Addr) (n c : Nat) (l : List Nat) (w : World) (hn : n ≤ c) (hc : c ≤ 9223372036854775807) (hr : Rd w w.heap.size 1 A n (u8s l)) :
    Calls Tryz.prog 12 #[.slice A n c] w (ShortP l w) := by
  have hln : l.length = n := by have := hr.1; simpa [u8s] using this
  obtain ⟨i0, hi0, hz0, hz1, hz2⟩ := info_parts info_u8
  have HI0 := Lib.hid hi0; have HZ0 := Lib.hid hz0; have HZ1 := Lib.hid hz1; have HZ2 := Lib.hid hz2
  clear hi0 hz0 hz1 hz2
  rcases Nat.eq_zero_or_pos n with h0 | h0
  · subst h0
    have hl : l = [] := List.length_eq_zero_iff.1 hln
    subst hl
    clear hr hln
    go_enter Tryz.func12, Tryz.ntmps12
    go_wp2_with fail
    go_ret
    exact ⟨_, 1, rfl, by decide, own_blk9 (cs := [.int .u8 7]) (heap_alloc_new w (.cells #[.int .u8 7] 5)) rfl (by decide) (Nat.le_refl _), below_alloc _ _⟩
  · obtain ⟨b, off, rfl, hb, hcell⟩ := hr.2 h0
    have hne : l ≠ [] := fun e => by subst e; simp at hln; omega
    have e1 : shortL l = l.take 12 := by unfold shortL; rw [if_neg hne]
    have hne0 : ((n : Int) == 0) = false := by simp; omega
    have HRM : ∀ m, m ≤ n → l.take m = shortL l → Hid (Rd w w.heap.size 1 (some ⟨b, off, none⟩) m (u8s (shortL l))) := fun m hm he => Lib.hid (by
      rw [← he]
      have := rd_firsts hr hm
      unfold u8s at this ⊢
      rw [List.map_take]
      exact this)
    rcases Nat.le_total n 12 with h12 | h12
    · have h12i : min (n : Int) 12 = (n : Int) := by omega
      have hs : l.take n = shortL l := by rw [e1, List.take_of_length_le (by omega), List.take_of_length_le (by omega)]
      have HR := HRM n (Nat.le_refl _) hs
      have HL : Hid ((shortL l).length = n) := Lib.hid (by rw [← hs, List.length_take]; omega)
      clear hr hcell HRM hne hs e1 hln
      go_enter Tryz.func12, Tryz.ntmps12
      go_wp2_with (at_builtin; refine wpList_append_rd _ rfl (.tmp 7) (.tmp 12) _ rfl w.heap.size 5 i0 _ 1 1 Tryz.underlying23 HI0.out HZ0.out HZ1.out HZ2.out rfl (by decide) _ 0 [] rfl (World.ownsRow_made w #[] 0 (Nat.le_refl _) (by simp [maxLen]) (by simp)) _ (some ⟨b, off, none⟩) n c _ rfl (HR.out.alloc (Nat.le_refl _) _) (by intro u hu; obtain ⟨_, _, rfl⟩ := List.mem_map.1 hu; rfl) (by unfold maxLen; omega) (by omega) (by simp) ?_; intro v1 w1 hown1 hg1)
      rw [Nat.zero_add, List.nil_append] at hown1
      obtain ⟨A', c', rfl, hc'⟩ := own_form hown1
      go_ret
      unfold ShortP
      rw [HL.out]
      exact ⟨A', c', rfl, hc', hown1, (((Below.refl _ _).alloc (Nat.le_refl _) _).grown hg1 (by simp) (fun g hg => by cases hg; exact Nat.le_refl _))⟩
    · have h12i : min (n : Int) 12 = 12 := by omega
      have HR := HRM 12 h12 e1.symm
      have HL : Hid ((shortL l).length = 12) := Lib.hid (by rw [e1, List.length_take]; omega)
      have h12c : (12 : Int) ≤ (c : Int) := by omega
      clear hr hcell HRM hne e1 hln
      go_enter Tryz.func12, Tryz.ntmps12
      go_wp2_with (at_builtin; refine wpList_append_rd _ rfl (.tmp 7) (.tmp 12) _ rfl w.heap.size 5 i0 _ 1 1 Tryz.underlying23 HI0.out HZ0.out HZ1.out HZ2.out rfl (by decide) _ 0 [] rfl (World.ownsRow_made w #[] 0 (Nat.le_refl _) (by simp [maxLen]) (by simp)) _ (some ⟨b, off, none⟩) 12 c _ rfl (HR.out.alloc (Nat.le_refl _) _) (by intro u hu; obtain ⟨_, _, rfl⟩ := List.mem_map.1 hu; rfl) (by unfold maxLen; omega) (by omega) (by simp) ?_; intro v1 w1 hown1 hg1)
      all_goals
        rw [Nat.zero_add, List.nil_append] at hown1
        obtain ⟨A', c', rfl, hc'⟩ := own_form hown1
        go_ret
        unfold ShortP
        rw [HL.out]
        exact ⟨A', c', rfl, hc', hown1, (((Below.refl _ _).alloc (Nat.le_refl _) _).grown hg1 (by simp) (fun g hg => by cases hg; exact Nat.le_refl _))⟩
#print axioms short_any
end Go.Proofs.YtecndceekgaglaaGreat
/- The law's own send. Conditions: as the statement says. -/
namespace Go.Proofs.YtecndceekgaglaaGreat
open Go.RowKit
set_option linter.unusedVariables false
/-- What send hands back. -/
def SndP (N : Nat) (s : NS) (bn bl : Nat) (a b : Nat) (sec co : List Nat) (K q : Nat) (w : World) (e : Ending) (w' : World) : Prop :=
  (e = .returned (.tuple #[.int .i64 0, .int .i64 0, .int .i64 0]) ∧ Below w.heap.size w w') ∨
  (e = .returned (.tuple #[.int .i64 1, .int .i64 (K : Int), .int .i64 ((q : Int) + 1)]) ∧ Sending s (nm a) (nm b) sec co sec.length K q ∧ ∃ vs', NetAt w' N (sendN s (nm a) (nm b) sec co sec.length K q) bn bl (.slice none 0 0) vs' ∧ KeepL [N, bl] w w' ∧ ∀ x, vs'.ownBlock = some x → w.heap.size ≤ x)
theorem wrap64_n (x : Nat) (h : x ≤ 1000000) : wrap64 (x : Int) = (x : Int) := by unfold wrap64; omega
theorem wrap64_a (K : Nat) (h : K ≤ 1000000) : wrap64 (1 + ((K : Int) - 1)) = (K : Int) := by unfold wrap64; omega
theorem wrap64_b (q : Nat) (h : q ≤ 1000000) : wrap64 (1 + (q : Int)) = (q : Int) + 1 := by unfold wrap64; omega
theorem wrap64_c (q : Nat) (h : q ≤ 1000000) : wrap64 ((q : Int) + 1 - 1) = (q : Int) := by unfold wrap64; omega
theorem wrap64_d {q n M : Nat} (h : (M : Int) = (q : Int) * (n : Int)) (hM : M ≤ 1000000) : wrap64 ((q : Int) * (n : Int)) = (M : Int) := by rw [← h]; exact wrap64_n M hM
theorem splice_c9 (m : Nat) (l : List Nat) (cs : List Value) (hcs : cs = u8s (l.take m)) (hcl : cs.length = Nat.min l.length m) : splice (List.replicate m (Value.int .u8 0)) 0 cs = u8s (coinL m l) := by
  unfold splice coinL u8s
  rw [List.take_zero, List.nil_append, Nat.zero_add, List.drop_replicate, hcl, hcs, List.map_append, List.map_replicate]
  unfold u8s
  congr 2
  show m - min l.length m = m - l.length
  omega
theorem Sending.mk' {s : NS} (hok : NSOK s) {a b : Nat} {sec co : List Nat} {n K q m : Nat} (he : sendE s (nm a) (nm b) n (K : Int) ((q : Int) + 1) m = 0) (hne : pathsG s (8 * (n : Int)) (nm a) (nm b) K ≠ []) (hsl : sec.length = n) (hcl : co.length = n * q) (hs : Bytes sec) (hc : Bytes co) (hm9 : m = n * q) : Sending s (nm a) (nm b) sec co n K q := by
  obtain ⟨_, _, hab, hma, hmb, hn9, hk9, hneed, hm, _⟩ := sendE_zero he
  exact ⟨hok, hma, hmb, hab, hne, by omega, by omega, hn9.1, hn9.2, hsl, hcl, hs, hc, by rw [← hm9]; exact he⟩
set_option maxRecDepth 100000 in
set_option maxHeartbeats 8000000 in
theorem sendL_any {w : World} {N : Nat} {s : NS} {bn bl : Nat} (hnet : NetAt w N s bn bl (.slice none 0 0) (.slice none 0 0)) (hsn : s.sents = []) (A A' : Option Addr) (n c m c' : Nat) (l cl : List Nat) (f t k need : Nat) (hf : f < 256) (ht : t < 256) (hk : k < 256) (hneed : need < 256)
    (hnc : n ≤ c) (hc : c ≤ 9223372036854775807) (hmc : m ≤ c') (hc' : c' ≤ 9223372036854775807) (hs : Bytes l) (hco : Bytes cl) (hr : Rd w w.heap.size 1 A n (u8s l)) (hr' : Rd w w.heap.size 1 A' m (u8s cl)) :
    Calls Tryz.prog 8 #[.pointer (some ⟨N, 0, none⟩), .int .u8 (f : Int), .int .u8 (t : Int), .slice A n c, .int .u8 (k : Int), .int .u8 (need : Int), .slice A' m c'] w
      (SndP N s bn bl (f % 8) (t % 8) (shortL l) (coinL ((shortL l).length * (need % (k % 4 + 1))) cl) (k % 4 + 1) (need % (k % 4 + 1)) w) := by
  have hln : cl.length = m := by have := hr'.1; simpa [u8s] using this
  obtain ⟨K, hK⟩ : ∃ K, K = k % 4 + 1 := ⟨_, rfl⟩
  obtain ⟨q, hq⟩ : ∃ q, q = need % K := ⟨_, rfl⟩
  have hK9 : 1 ≤ K ∧ K ≤ 4 := by omega
  have hq9 : q < K := by rw [hq]; exact Nat.mod_lt _ (by omega)
  obtain ⟨x, hx⟩ : ∃ x, x = k % 4 := ⟨_, rfl⟩
  have hKx : K = x + 1 := by omega
  have hx3 : x ≤ 3 := by omega
  have rk : Int.tmod (k : Int) 4 = (x : Int) := by rw [Int.tmod_eq_emod_of_nonneg (by omega)]; omega
  have rk2 : (k : Int) % 4 = (x : Int) := by omega
  have rn2 : (need : Int) % (1 + (x : Int)) = (q : Int) := by rw [show 1 + (x : Int) = (K : Int) by omega, hq]; simp
  have rn : Int.tmod (need : Int) (1 + (x : Int)) = (q : Int) := by rw [Int.tmod_eq_emod_of_nonneg (by omega), rn2]
  have ra : Int.tmod (f : Int) 8 = ((f % 8 : Nat) : Int) := by rw [Int.tmod_eq_emod_of_nonneg (by omega)]; omega
  have rb : Int.tmod (t : Int) 8 = ((t % 8 : Nat) : Int) := by rw [Int.tmod_eq_emod_of_nonneg (by omega)]; omega
  rw [← hK, ← hq]
  obtain ⟨M, hM⟩ : ∃ M, M = (shortL l).length * q := ⟨_, rfl⟩
  obtain ⟨n', hn'⟩ : ∃ n', n' = (shortL l).length := ⟨_, rfl⟩
  have hsh := shortL_len l
  rw [← hn'] at hsh
  have hMi : (M : Int) = (q : Int) * (n' : Int) := by rw [hM, ← hn', Int.mul_comm]; simp
  have hM9 : M ≤ 12 * 4 := by rw [hM, ← hn']; exact Nat.mul_le_mul hsh.2 (by omega)
  rw [← hM]
  have ha8 : f % 8 < 8 := Nat.mod_lt _ (by omega)
  have hb8 : t % 8 < 8 := Nat.mod_lt _ (by omega)
  generalize f % 8 = a at ra ha8 ⊢
  generalize t % 8 = b at rb hb8 ⊢
  have hai : (a : Int) < 8 := by omega
  have hbi : (b : Int) < 8 := by omega
  have hKne : ((1 + (x : Int)) == 0) = false := by simp; omega
  have hKne2 : ¬ (1 + (x : Int)) = 0 := by omega
  have hq3 : q ≤ 3 := by omega
  have hM48 : M ≤ 48 := hM9
  have hqn : (1 + (q : Int) - 1) * (n' : Int) = (M : Int) := by rw [show 1 + (q : Int) - 1 = (q : Int) by omega]; exact hMi.symm
  have hmk := fun w => make_u8 w M (Nat.le_trans hM9 (by decide))
  obtain ⟨cs, hcs⟩ : ∃ cs, cs = u8s (cl.take M) := ⟨_, rfl⟩
  have hcl : cs.length = Nat.min m M := by rw [hcs]; unfold u8s; rw [List.length_map, List.length_take, hln]; exact Nat.min_comm _ _
  have HNET := Lib.hid hnet
  have HR' := Lib.hid hr'
  have HSH := Lib.hid (short_any A n c l w hnc hc hr)
  have HSB := Lib.hid (shortL_bytes hs)
  have HCB := Lib.hid (coinL_bytes (m := M) hco)
  have HCS := Lib.hid hcs
  have HCL := Lib.hid hcl
  have HLN := Lib.hid hln
  have HM := Lib.hid hM
  have HN' := Lib.hid hn'
  have HSN := Lib.hid hsn
  have HK9 := Lib.hid hK9; have HQ9 := Lib.hid hq9; have HSH9 := Lib.hid hsh; have HM9 := Lib.hid hM9
  have HKX := Lib.hid hKx
  clear hnet hr hr' hs hco hcs hcl hln hx hKx hK hq hM hn' hMi hsn hf ht hc hc' hnc hmc hK9 hq9 hsh hM9
  go_enter Tryz.func8, Tryz.ntmps8
  go_wp2_with fail
  refine HSH.out.mono ?_
  clear HSH
  rintro e w1 ⟨sA, sc, rfl, hsc, ho1, hb1⟩
  rw [← HN'.out] at hsc ho1 ⊢
  have HO1 := Lib.hid ho1; have HB1 := Lib.hid hb1
  clear ho1 hb1
  have hpos : 0 < cs.length → ∃ ad, A' = some ad ∧ ∀ j v, cs[j]? = some v → (w1.alloc (.cells (Array.replicate M (.int .u8 0)) 5)).cell? (ad.add j) = some v := fun h0 => by
    have h2 := ((HR'.out.below HB1.out).mono HB1.out.size).alloc (Nat.le_refl _) (.cells (Array.replicate M (.int .u8 0)) 5)
    obtain ⟨b, off, hA, _, hcc⟩ := h2.2 (by have h1 := HCL.out; change _ = min m M at h1; omega)
    refine ⟨_, hA, fun j v hj => ?_⟩
    rw [addr_add]
    refine hcc j v ?_
    rw [HCS.out] at hj
    unfold u8s at hj ⊢
    rw [List.map_take, List.getElem?_take] at hj
    split at hj
    · exact hj
    · cases hj
  have hfit : 0 + cs.length ≤ (List.replicate M (Value.int .u8 0)).length := by
    have h1 := HCL.out; change _ = min m M at h1; rw [List.length_replicate]; omega
  have hone : ∀ v ∈ cs, v.oneCell' = true := by rw [HCS.out]; intro u hu; unfold u8s at hu; obtain ⟨_, _, rfl⟩ := List.mem_map.1 hu; rfl
  have HP := Lib.hid hpos; have HF := Lib.hid hfit; have HO := Lib.hid hone
  clear hpos hfit hone
  go_wp2_with (with_reducible refine wpList_copy_splice rfl _ _ _ _ rfl 5 (by kernel_rfl) (by kernel_rfl) _ _ _ _ _ _ rfl rfl w1.heap.size 0 (List.replicate M (.int .u8 0)) 5 (by simpa using heap_alloc_new w1 (.cells (Array.replicate M (.int .u8 0)) 5)) cs HCL.out (fun h0 => ⟨rfl, HP.out h0⟩) HF.out HO.out w1.heap.size w1 ((Below.refl _ _).alloc (Nat.le_refl _) _) (Nat.le_refl _) ?_; intro w3 HG hb3)
  have HB3 := Lib.hid hb3
  have hgs := HG.out
  rw [splice_c9 M cl cs HCS.out (by rw [HLN.out]; exact HCL.out)] at hgs
  have HOC : Hid (w3.ownsRow w1.heap.size 5 1 (.slice (some ⟨w1.heap.size, 0, none⟩) M M) M (u8s (coinL M cl))) := Lib.hid (own_blk9 hgs (by unfold u8s; rw [List.length_map, coinL_len]) (by have := HM9.out; omega) (Nat.le_refl _))
  have HBW := Lib.hid (bnextK HB1.out hb3)
  have HSEND : Hid (∀ W, Below w3.heap.size w3 W → Calls Tryz.prog 18 #[.pointer (some ⟨N, 0, none⟩), encS (nm a), encS (nm b), .slice sA n' sc, .int .i64 (1 + (x : Int)), .int .i64 (1 + (q : Int)), .slice (some ⟨w1.heap.size, 0, none⟩) M M] W (SendP N s bn bl (.slice none 0 0) (.slice none 0 0) (nm a) (nm b) (shortL l) (coinL M cl) n' M (1 + (x : Int)) (1 + (q : Int)) W)) := Lib.hid fun W hW => by
    have h1 : W.ownsRow w.heap.size 5 1 (.slice sA n' sc) n' (u8s (shortL l)) := ownsRow_below (ownsRow_below HO1.out HB3.out (Nat.le_refl _)) hW (Nat.le_refl _)
    have h2 := ownsRow_below HOC.out hW (Nat.le_refl _)
    exact Send_any (HNET.out.far (bnextK HBW.out hW)) (nm a) (nm b) sA (some ⟨w1.heap.size, 0, none⟩) n' sc M M (1 + (x : Int)) (1 + (q : Int)) (shortL l) (coinL M cl) (nm_len a ha8) (nm_len b hb8) (by rw [HSN.out]; decide) (by have := HSH9.out; omega) hsc (Nat.le_refl _) HSB.out HCB.out (Rd.own h1) (Rd.own h2)
  clear hb3 hgs HG HP HF HO
  generalize w1.heap.size = zc at *
  go_wp2_with fail
  simp only [Act.put, List.setIfInBounds_toArray, List.set_cons_zero, List.set_cons_succ]
  go_cut [14, 15, 16, 17, 18, 19, 20, 21, 22] from 23 to 66 (fun v14 v15 v16 v17 v18 v19 v20 v21 v22 wc => v18 = .int .i64 (1 + (x : Int)) ∧ v19 = .int .i64 (1 + (q : Int)) ∧ ∃ tid z, v21 = .int .i64 tid ∧ v22 = .int .i64 z ∧ ∃ W, Below w3.heap.size w3 W ∧ SendP N s bn bl (.slice none 0 0) (.slice none 0 0) (nm a) (nm b) (shortL l) (coinL M cl) n' M (1 + (x : Int)) (1 + (q : Int)) W (.returned (.tuple #[.int .i64 tid, .int .i64 z])) wc)
  case first =>
    refine wp_region_held_drew (S := (fun _ => True)) (by kernel_rfl) ?_ (fun hHeld => ?_)
    · (try dsimp only); all_goals trivial
    refine wpAnyH_take (i := 0) (oi := ⟨some 44, _, _, _, _, _⟩) (v := ?_) rfl (by kernel_rfl) (by kernel_rfl) (by kernel_rfl) (fun _ _ _ h => h) (Or.inl ⟨by rfl, ?_⟩) (by assumption) ?_
    rotate_left
    · (intro w hSw; (try dsimp only at hSw); go_simp; try with_reducible rfl)
    try simp only [Act.put, List.setIfInBounds_toArray, List.set_cons_zero, List.set_cons_succ]
    refine wpAnyH_take (i := 2) (oi := ⟨some 46, _, _, _, _, _⟩) (v := ?_) rfl (by kernel_rfl) (by kernel_rfl) (by kernel_rfl) (fun _ _ _ h => h) (Or.inl ⟨by rfl, ?_⟩) (by assumption) ?_
    rotate_left
    · (intro w hSw; (try dsimp only at hSw); go_simp; try with_reducible rfl)
    try simp only [Act.put, List.setIfInBounds_toArray, List.set_cons_zero, List.set_cons_succ]
    refine wpAnyH_take (i := 3) (oi := ⟨some 47, _, _, _, _, _⟩) (v := ?_) rfl (by kernel_rfl) (by kernel_rfl) (by kernel_rfl) (fun _ _ _ h => h) (Or.inl ⟨by rfl, ?_⟩) (by assumption) ?_
    rotate_left
    · (intro w hSw; (try dsimp only at hSw); go_simp; try with_reducible rfl)
    try simp only [Act.put, List.setIfInBounds_toArray, List.set_cons_zero, List.set_cons_succ]
    refine wpAnyH_take (i := 7) (oi := ⟨some 51, _, _, _, _, _⟩) (v := ?_) rfl (by kernel_rfl) (by kernel_rfl) (by kernel_rfl) (fun _ _ _ h => h) (Or.inl ⟨by rfl, ?_⟩) (by assumption) ?_
    rotate_left
    · (intro w hSw; (try dsimp only at hSw); go_simp; try with_reducible rfl)
    try simp only [Act.put, List.setIfInBounds_toArray, List.set_cons_zero, List.set_cons_succ]
    refine wpAnyH_take (i := 8) (oi := ⟨some 52, _, _, _, _, _⟩) (v := ?_) rfl (by kernel_rfl) (by kernel_rfl) (by kernel_rfl) (fun _ _ _ h => h) (Or.inl ⟨by rfl, ?_⟩) (by assumption) ?_
    rotate_left
    · (intro w hSw; (try dsimp only at hSw); go_simp; try with_reducible rfl)
    try simp only [Act.put, List.setIfInBounds_toArray, List.set_cons_zero, List.set_cons_succ]
    refine wpAnyH_take (i := 11) (oi := ⟨some 55, _, _, _, _, _⟩) (v := ?_) rfl (by kernel_rfl) (by kernel_rfl) (by kernel_rfl) (fun _ _ _ h => h) (Or.inl ⟨by rfl, ?_⟩) (by assumption) ?_
    rotate_left
    · (intro w hSw; (try dsimp only at hSw); go_simp; try with_reducible rfl)
    try simp only [Act.put, List.setIfInBounds_toArray, List.set_cons_zero, List.set_cons_succ]
    refine wpAnyH_take (i := 12) (oi := ⟨some 56, _, _, _, _, _⟩) (v := ?_) rfl (by kernel_rfl) (by kernel_rfl) (by kernel_rfl) (fun _ _ _ h => h) (Or.inl ⟨by rfl, ?_⟩) (by assumption) ?_
    rotate_left
    · (intro w hSw; (try dsimp only at hSw); go_simp; try with_reducible rfl)
    try simp only [Act.put, List.setIfInBounds_toArray, List.set_cons_zero, List.set_cons_succ]
    refine wpAnyH_take (i := 13) (oi := ⟨some 57, _, _, _, _, _⟩) (v := ?_) rfl (by kernel_rfl) (by kernel_rfl) (by kernel_rfl) (fun _ _ _ h => h) (Or.inl ⟨by rfl, ?_⟩) (by assumption) ?_
    rotate_left
    · (intro w hSw; (try dsimp only at hSw); go_simp; try with_reducible rfl)
    try simp only [Act.put, List.setIfInBounds_toArray, List.set_cons_zero, List.set_cons_succ]
    refine wpAnyH_take (i := 14) (oi := ⟨some 58, _, _, _, _, _⟩) (v := ?_) rfl (by kernel_rfl) (by kernel_rfl) (by kernel_rfl) (fun _ _ _ h => h) (Or.inl ⟨by rfl, ?_⟩) (by assumption) ?_
    rotate_left
    · (intro w hSw; (try dsimp only at hSw); go_simp; try with_reducible rfl)
    try simp only [Act.put, List.setIfInBounds_toArray, List.set_cons_zero, List.set_cons_succ]
    refine wpAnyH_ready (rs := [1]) (by kernel_rfl) (by simp) ?_
    refine AllReadyH.cons (o := ⟨some 45, _, _, _, _, _⟩) rfl (fun K hK => ?_) AllReadyH.nil
    go_simp
    refine (names_any _).mono ?_
    rintro e w4 ⟨rfl, hw3⟩
    obtain ⟨f3, b3⟩ := names_fact hw3
    have x3 : w4.cell? ⟨w3.heap.size, a, none⟩ = some (encS (nm a)) := f3 a ha8
    have BI : Below w3.heap.size w3 w4 := bnextK (Qw.below ⟨1, rfl⟩ _) b3
    clear hw3 f3
    go_wp2_with fail
    refine hK.out _ _ ?_ (fun hHeld => ?_)
    · (try dsimp only); all_goals trivial
    clear hK K
    try simp only [Act.put, List.setIfInBounds_toArray, List.set_cons_zero, List.set_cons_succ]
    refine wpAnyH_take (i := 4) (oi := ⟨some 48, _, _, _, _, _⟩) (v := ?_) rfl (by kernel_rfl) (by kernel_rfl) (by kernel_rfl) (fun _ _ _ h => h) (Or.inl ⟨by rfl, ?_⟩) (by assumption) ?_
    rotate_left
    · (intro w hSw; (try dsimp only at hSw); go_simp; try with_reducible rfl)
    try simp only [Act.put, List.setIfInBounds_toArray, List.set_cons_zero, List.set_cons_succ]
    refine wpAnyH_ready (rs := [5, 6]) (by kernel_rfl) (by simp) ?_
    refine AllReadyH.cons (o := ⟨some 49, _, _, _, _, _⟩) rfl (fun K hK => ?_) ?_
    · skip
      go_simp
      refine hK.out _ _ ?_ (fun hHeld => ?_)
      · (try dsimp only); all_goals trivial
      clear hK K
      try simp only [Act.put, List.setIfInBounds_toArray, List.set_cons_zero, List.set_cons_succ]
      refine wpAnyH_ready (rs := [6]) (by kernel_rfl) (by simp) ?_
      refine AllReadyH.cons (o := ⟨some 50, _, _, _, _, _⟩) rfl (fun K hK => ?_) AllReadyH.nil
      go_simp
      refine (names_any _).mono ?_
      rintro e wq ⟨rfl, hw4⟩
      obtain ⟨f4, b4⟩ := names_fact hw4
      have y4 := f4 b hb8
      have x3 : wq.cell? ⟨w3.heap.size, a, none⟩ = some (encS (nm a)) := (b4.cell (p := ⟨w3.heap.size, a, none⟩) (cell_ltO x3)).trans x3
      have BI := bnextK BI b4
      clear hw4 f4
      go_wp2_with fail
      refine hK.out _ _ ?_ (fun hHeld => ?_)
      · (try dsimp only); all_goals trivial
      clear hK K
      try simp only [Act.put, List.setIfInBounds_toArray, List.set_cons_zero, List.set_cons_succ]
      refine wpAnyH_take (i := 9) (oi := ⟨some 53, _, _, _, _, _⟩) (v := ?_) rfl (by kernel_rfl) (by kernel_rfl) (by kernel_rfl) (fun _ _ _ h => h) (Or.inl ⟨by rfl, ?_⟩) (by assumption) ?_
      rotate_left
      · (intro w hSw; (try dsimp only at hSw); go_simp; try with_reducible rfl)
      try simp only [Act.put, List.setIfInBounds_toArray, List.set_cons_zero, List.set_cons_succ]
      refine wpAnyH_ready (rs := [10]) (by kernel_rfl) (by simp) ?_
      refine AllReadyH.cons (o := ⟨some 54, _, _, _, _, _⟩) rfl (fun K hK => ?_) AllReadyH.nil
      go_simp
      refine hK.out _ _ ?_ (fun hHeld => ?_)
      · (try dsimp only); all_goals trivial
      clear hK K
      try simp only [Act.put, List.setIfInBounds_toArray, List.set_cons_zero, List.set_cons_succ]
      refine wpAnyH_ready (rs := [15]) (by kernel_rfl) (by simp) ?_
      refine AllReadyH.cons (o := ⟨some 59, _, _, _, _, _⟩) rfl (fun K hK => ?_) AllReadyH.nil
      go_simp
      refine (HSEND.out _ BI).mono ?_
      intro e w5 hq5
      obtain ⟨tid, z, he5, hc5⟩ := hq5
      subst he5
      have HQ5 : Hid (SendP N s bn bl (.slice none 0 0) (.slice none 0 0) (nm a) (nm b) (shortL l) (coinL M cl) n' M (1 + (x : Int)) (1 + (q : Int)) _ (.returned (.tuple #[.int .i64 tid, .int .i64 z])) w5) := Lib.hid ⟨tid, z, rfl, hc5⟩
      clear hc5
      go_wp2_with fail
      refine hK.out _ _ ?_ (fun hHeld => ?_)
      · (try dsimp only); all_goals trivial
      clear hK K
      try simp only [Act.put, List.setIfInBounds_toArray, List.set_cons_zero, List.set_cons_succ]
      refine wpAnyH_take (i := 16) (oi := ⟨some 43, _, _, _, _, _⟩) (v := ?_) rfl (by kernel_rfl) (by kernel_rfl) (by kernel_rfl) (fun _ _ _ h => h) (Or.inl ⟨by rfl, ?_⟩) (by assumption) ?_
      rotate_left
      · (intro w hSw; (try dsimp only at hSw); go_simp; try with_reducible rfl)
      try simp only [Act.put, List.setIfInBounds_toArray, List.set_cons_zero, List.set_cons_succ]
      refine wpAnyH_take (i := 17) (oi := ⟨some 60, _, _, _, _, _⟩) (v := ?_) rfl (by kernel_rfl) (by kernel_rfl) (by kernel_rfl) (fun _ _ _ h => h) (Or.inl ⟨by rfl, ?_⟩) (by assumption) ?_
      rotate_left
      · (intro w hSw; (try dsimp only at hSw); go_simp; try with_reducible rfl)
      try simp only [Act.put, List.setIfInBounds_toArray, List.set_cons_zero, List.set_cons_succ]
      refine wpAnyH_take (i := 18) (oi := ⟨some 61, _, _, _, _, _⟩) (v := ?_) rfl (by kernel_rfl) (by kernel_rfl) (by kernel_rfl) (fun _ _ _ h => h) (Or.inl ⟨by rfl, ?_⟩) (by assumption) ?_
      rotate_left
      · (intro w hSw; (try dsimp only at hSw); go_simp; try with_reducible rfl)
      try simp only [Act.put, List.setIfInBounds_toArray, List.set_cons_zero, List.set_cons_succ]
      refine wpAnyH_take (i := 19) (oi := ⟨some 21, _, _, _, _, _⟩) (v := ?_) rfl (by kernel_rfl) (by kernel_rfl) (by kernel_rfl) (fun _ _ _ h => h) (Or.inl ⟨by rfl, ?_⟩) (by assumption) ?_
      rotate_left
      · (intro w hSw; (try dsimp only at hSw); go_simp; try with_reducible rfl)
      try simp only [Act.put, List.setIfInBounds_toArray, List.set_cons_zero, List.set_cons_succ]
      refine wpAnyH_take (i := 20) (oi := ⟨some 22, _, _, _, _, _⟩) (v := ?_) rfl (by kernel_rfl) (by kernel_rfl) (by kernel_rfl) (fun _ _ _ h => h) (Or.inl ⟨by rfl, ?_⟩) (by assumption) ?_
      rotate_left
      · (intro w hSw; (try dsimp only at hSw); go_simp; try with_reducible rfl)
      try simp only [Act.put, List.setIfInBounds_toArray, List.set_cons_zero, List.set_cons_succ]
      refine wpAnyH_done (by kernel_rfl) ?_ _
      go_wp2_with fail
      go_meet
      exact ⟨rfl, rfl, tid, z, rfl, rfl, _, BI, HQ5.out⟩
    refine AllReadyH.cons (o := ⟨some 50, _, _, _, _, _⟩) rfl (fun K hK => ?_) AllReadyH.nil
    go_simp
    refine (names_any _).mono ?_
    rintro e wq ⟨rfl, hw4⟩
    obtain ⟨f4, b4⟩ := names_fact hw4
    have y4 := f4 b hb8
    have x3 : wq.cell? ⟨w3.heap.size, a, none⟩ = some (encS (nm a)) := (b4.cell (p := ⟨w3.heap.size, a, none⟩) (cell_ltO x3)).trans x3
    have BI := bnextK BI b4
    clear hw4 f4
    go_wp2_with fail
    refine hK.out _ _ ?_ (fun hHeld => ?_)
    · (try dsimp only); all_goals trivial
    clear hK K
    try simp only [Act.put, List.setIfInBounds_toArray, List.set_cons_zero, List.set_cons_succ]
    refine wpAnyH_take (i := 9) (oi := ⟨some 53, _, _, _, _, _⟩) (v := ?_) rfl (by kernel_rfl) (by kernel_rfl) (by kernel_rfl) (fun _ _ _ h => h) (Or.inl ⟨by rfl, ?_⟩) (by assumption) ?_
    rotate_left
    · (intro w hSw; (try dsimp only at hSw); go_simp; try with_reducible rfl)
    try simp only [Act.put, List.setIfInBounds_toArray, List.set_cons_zero, List.set_cons_succ]
    refine wpAnyH_ready (rs := [5, 10]) (by kernel_rfl) (by simp) ?_
    refine AllReadyH.cons (o := ⟨some 49, _, _, _, _, _⟩) rfl (fun K hK => ?_) ?_
    · skip
      go_simp
      refine hK.out _ _ ?_ (fun hHeld => ?_)
      · (try dsimp only); all_goals trivial
      clear hK K
      try simp only [Act.put, List.setIfInBounds_toArray, List.set_cons_zero, List.set_cons_succ]
      refine wpAnyH_ready (rs := [10]) (by kernel_rfl) (by simp) ?_
      refine AllReadyH.cons (o := ⟨some 54, _, _, _, _, _⟩) rfl (fun K hK => ?_) AllReadyH.nil
      go_simp
      refine hK.out _ _ ?_ (fun hHeld => ?_)
      · (try dsimp only); all_goals trivial
      clear hK K
      try simp only [Act.put, List.setIfInBounds_toArray, List.set_cons_zero, List.set_cons_succ]
      refine wpAnyH_ready (rs := [15]) (by kernel_rfl) (by simp) ?_
      refine AllReadyH.cons (o := ⟨some 59, _, _, _, _, _⟩) rfl (fun K hK => ?_) AllReadyH.nil
      go_simp
      refine (HSEND.out _ BI).mono ?_
      intro e w5 hq5
      obtain ⟨tid, z, he5, hc5⟩ := hq5
      subst he5
      have HQ5 : Hid (SendP N s bn bl (.slice none 0 0) (.slice none 0 0) (nm a) (nm b) (shortL l) (coinL M cl) n' M (1 + (x : Int)) (1 + (q : Int)) _ (.returned (.tuple #[.int .i64 tid, .int .i64 z])) w5) := Lib.hid ⟨tid, z, rfl, hc5⟩
      clear hc5
      go_wp2_with fail
      refine hK.out _ _ ?_ (fun hHeld => ?_)
      · (try dsimp only); all_goals trivial
      clear hK K
      try simp only [Act.put, List.setIfInBounds_toArray, List.set_cons_zero, List.set_cons_succ]
      refine wpAnyH_take (i := 16) (oi := ⟨some 43, _, _, _, _, _⟩) (v := ?_) rfl (by kernel_rfl) (by kernel_rfl) (by kernel_rfl) (fun _ _ _ h => h) (Or.inl ⟨by rfl, ?_⟩) (by assumption) ?_
      rotate_left
      · (intro w hSw; (try dsimp only at hSw); go_simp; try with_reducible rfl)
      try simp only [Act.put, List.setIfInBounds_toArray, List.set_cons_zero, List.set_cons_succ]
      refine wpAnyH_take (i := 17) (oi := ⟨some 60, _, _, _, _, _⟩) (v := ?_) rfl (by kernel_rfl) (by kernel_rfl) (by kernel_rfl) (fun _ _ _ h => h) (Or.inl ⟨by rfl, ?_⟩) (by assumption) ?_
      rotate_left
      · (intro w hSw; (try dsimp only at hSw); go_simp; try with_reducible rfl)
      try simp only [Act.put, List.setIfInBounds_toArray, List.set_cons_zero, List.set_cons_succ]
      refine wpAnyH_take (i := 18) (oi := ⟨some 61, _, _, _, _, _⟩) (v := ?_) rfl (by kernel_rfl) (by kernel_rfl) (by kernel_rfl) (fun _ _ _ h => h) (Or.inl ⟨by rfl, ?_⟩) (by assumption) ?_
      rotate_left
      · (intro w hSw; (try dsimp only at hSw); go_simp; try with_reducible rfl)
      try simp only [Act.put, List.setIfInBounds_toArray, List.set_cons_zero, List.set_cons_succ]
      refine wpAnyH_take (i := 19) (oi := ⟨some 21, _, _, _, _, _⟩) (v := ?_) rfl (by kernel_rfl) (by kernel_rfl) (by kernel_rfl) (fun _ _ _ h => h) (Or.inl ⟨by rfl, ?_⟩) (by assumption) ?_
      rotate_left
      · (intro w hSw; (try dsimp only at hSw); go_simp; try with_reducible rfl)
      try simp only [Act.put, List.setIfInBounds_toArray, List.set_cons_zero, List.set_cons_succ]
      refine wpAnyH_take (i := 20) (oi := ⟨some 22, _, _, _, _, _⟩) (v := ?_) rfl (by kernel_rfl) (by kernel_rfl) (by kernel_rfl) (fun _ _ _ h => h) (Or.inl ⟨by rfl, ?_⟩) (by assumption) ?_
      rotate_left
      · (intro w hSw; (try dsimp only at hSw); go_simp; try with_reducible rfl)
      try simp only [Act.put, List.setIfInBounds_toArray, List.set_cons_zero, List.set_cons_succ]
      refine wpAnyH_done (by kernel_rfl) ?_ _
      go_wp2_with fail
      go_meet
      exact ⟨rfl, rfl, tid, z, rfl, rfl, _, BI, HQ5.out⟩
    refine AllReadyH.cons (o := ⟨some 54, _, _, _, _, _⟩) rfl (fun K hK => ?_) AllReadyH.nil
    go_simp
    refine hK.out _ _ ?_ (fun hHeld => ?_)
    · (try dsimp only); all_goals trivial
    clear hK K
    try simp only [Act.put, List.setIfInBounds_toArray, List.set_cons_zero, List.set_cons_succ]
    refine wpAnyH_ready (rs := [5]) (by kernel_rfl) (by simp) ?_
    refine AllReadyH.cons (o := ⟨some 49, _, _, _, _, _⟩) rfl (fun K hK => ?_) AllReadyH.nil
    go_simp
    refine hK.out _ _ ?_ (fun hHeld => ?_)
    · (try dsimp only); all_goals trivial
    clear hK K
    try simp only [Act.put, List.setIfInBounds_toArray, List.set_cons_zero, List.set_cons_succ]
    refine wpAnyH_ready (rs := [15]) (by kernel_rfl) (by simp) ?_
    refine AllReadyH.cons (o := ⟨some 59, _, _, _, _, _⟩) rfl (fun K hK => ?_) AllReadyH.nil
    go_simp
    refine (HSEND.out _ BI).mono ?_
    intro e w5 hq5
    obtain ⟨tid, z, he5, hc5⟩ := hq5
    subst he5
    have HQ5 : Hid (SendP N s bn bl (.slice none 0 0) (.slice none 0 0) (nm a) (nm b) (shortL l) (coinL M cl) n' M (1 + (x : Int)) (1 + (q : Int)) _ (.returned (.tuple #[.int .i64 tid, .int .i64 z])) w5) := Lib.hid ⟨tid, z, rfl, hc5⟩
    clear hc5
    go_wp2_with fail
    refine hK.out _ _ ?_ (fun hHeld => ?_)
    · (try dsimp only); all_goals trivial
    clear hK K
    try simp only [Act.put, List.setIfInBounds_toArray, List.set_cons_zero, List.set_cons_succ]
    refine wpAnyH_take (i := 16) (oi := ⟨some 43, _, _, _, _, _⟩) (v := ?_) rfl (by kernel_rfl) (by kernel_rfl) (by kernel_rfl) (fun _ _ _ h => h) (Or.inl ⟨by rfl, ?_⟩) (by assumption) ?_
    rotate_left
    · (intro w hSw; (try dsimp only at hSw); go_simp; try with_reducible rfl)
    try simp only [Act.put, List.setIfInBounds_toArray, List.set_cons_zero, List.set_cons_succ]
    refine wpAnyH_take (i := 17) (oi := ⟨some 60, _, _, _, _, _⟩) (v := ?_) rfl (by kernel_rfl) (by kernel_rfl) (by kernel_rfl) (fun _ _ _ h => h) (Or.inl ⟨by rfl, ?_⟩) (by assumption) ?_
    rotate_left
    · (intro w hSw; (try dsimp only at hSw); go_simp; try with_reducible rfl)
    try simp only [Act.put, List.setIfInBounds_toArray, List.set_cons_zero, List.set_cons_succ]
    refine wpAnyH_take (i := 18) (oi := ⟨some 61, _, _, _, _, _⟩) (v := ?_) rfl (by kernel_rfl) (by kernel_rfl) (by kernel_rfl) (fun _ _ _ h => h) (Or.inl ⟨by rfl, ?_⟩) (by assumption) ?_
    rotate_left
    · (intro w hSw; (try dsimp only at hSw); go_simp; try with_reducible rfl)
    try simp only [Act.put, List.setIfInBounds_toArray, List.set_cons_zero, List.set_cons_succ]
    refine wpAnyH_take (i := 19) (oi := ⟨some 21, _, _, _, _, _⟩) (v := ?_) rfl (by kernel_rfl) (by kernel_rfl) (by kernel_rfl) (fun _ _ _ h => h) (Or.inl ⟨by rfl, ?_⟩) (by assumption) ?_
    rotate_left
    · (intro w hSw; (try dsimp only at hSw); go_simp; try with_reducible rfl)
    try simp only [Act.put, List.setIfInBounds_toArray, List.set_cons_zero, List.set_cons_succ]
    refine wpAnyH_take (i := 20) (oi := ⟨some 22, _, _, _, _, _⟩) (v := ?_) rfl (by kernel_rfl) (by kernel_rfl) (by kernel_rfl) (fun _ _ _ h => h) (Or.inl ⟨by rfl, ?_⟩) (by assumption) ?_
    rotate_left
    · (intro w hSw; (try dsimp only at hSw); go_simp; try with_reducible rfl)
    try simp only [Act.put, List.setIfInBounds_toArray, List.set_cons_zero, List.set_cons_succ]
    refine wpAnyH_done (by kernel_rfl) ?_ _
    go_wp2_with fail
    go_meet
    exact ⟨rfl, rfl, tid, z, rfl, rfl, _, BI, HQ5.out⟩
  case rest =>
    obtain ⟨w6, rfl⟩ : ∃ z : World, z = wc := ⟨_, rfl⟩
    obtain ⟨rfl, rfl, tid, z, rfl, rfl, W, hbW, tid', z', hee, hcase⟩ := hcut
    injection hee with hee
    injection hee with hee
    simp only [Array.mk.injEq, List.cons.injEq, Value.int.injEq, true_and, and_true] at hee
    obtain ⟨rfl, rfl⟩ := hee
    have HBX := Lib.hid (bnextK HBW.out hbW)
    clear hbW
    rcases hcase with ⟨hz, _, rfl, _, hb6⟩ | ⟨rfl, he, hne, hid, vs', hnet', hkeep, hown⟩
    · have hz1 : (z != 0) = true := by simp [hz]
      have HB6 := Lib.hid (bnextK HBX.out hb6)
      clear hb6
      go_wp2_with fail
      refine bodyPost_ret (a := Act.mk _ _) (results_tmp3 rfl _ _ _) rfl ?_
      exact .inl ⟨rfl, HB6.out⟩
    · have hid1 : tid = 1 := by rw [hid, HSN.out]; rfl
      subst hid1
      have hkx := HKX.out
      rw [show (1 + (x : Int)).toNat = K by omega] at hne hnet'
      rw [show (1 + (q : Int)).toNat - 1 = q by omega] at hnet'
      rw [show 1 + (x : Int) = (K : Int) by omega, show 1 + (q : Int) = (q : Int) + 1 by omega] at he
      have HE := Lib.hid (Sending.mk' HNET.out.ok he hne HN'.out.symm (by rw [coinL_len, HM.out, HN'.out]) HSB.out HCB.out (by rw [HM.out, HN'.out]))
      have HNT := Lib.hid hnet'
      have HKP : Hid (KeepL [N, bl] w w6) := Lib.hid ((KeepL.of_below HBX.out).trans (hkeep.sub (fun k hk => by simpa [Value.ownBlock] using hk)))
      have HOW : Hid (∀ x, vs'.ownBlock = some x → w.heap.size ≤ x) := Lib.hid fun x hx => by
        rcases hown x hx with h1 | h1
        · cases h1
        · exact Nat.le_trans HBX.out.size h1
      clear he hne hnet' hkeep hown hid
      go_wp2_with fail
      refine bodyPost_ret (a := Act.mk _ _) (results_tmp3 rfl _ _ _) rfl ?_
      rw [HN'.out] at HE HNT
      exact .inr ⟨by rw [show (K : Int) = 1 + (x : Int) by have := HKX.out; omega, show (q : Int) + 1 = 1 + (q : Int) by omega]; rfl, HE.out, vs', HNT.out, HKP.out, HOW.out⟩
#print axioms sendL_any
end Go.Proofs.YtecndceekgaglaaGreat
/- Deliver, View and Exposed behind one Send in a small network. Conditions: as each statement says. -/
namespace Go.Proofs.YtecndceekgaglaaGreat
open Go.RowKit
set_option linter.unusedVariables false
/-- A network with one transfer. -/
structure OneSent (S : NS) (s : NS) (a b : Nm) (sec co : List Nat) (n K q : Nat) : Prop where
  snd : Sending s a b sec co n K q
  sents : S.sents = [sentX s a b sec co n K q]
  nodes : S.nodes = names8
  none : s.sents = []
theorem OneSent.sane {S s : NS} {a b : Nm} {sec co : List Nat} {n K q : Nat} (h : OneSent S s a b sec co n K q) : ∀ x ∈ S.sents, SentSane x := fun x hx => by
  rw [h.sents, List.mem_singleton] at hx
  subst hx
  exact h.snd.sane
theorem OneSent.len {S s : NS} {a b : Nm} {sec co : List Nat} {n K q : Nat} (h : OneSent S s a b sec co n K q) : S.sents.length = 1 := by rw [h.sents]; rfl
theorem OneSent.get {S s : NS} {a b : Nm} {sec co : List Nat} {n K q : Nat} (h : OneSent S s a b sec co n K q) : S.sents[((1 : Int) - 1).toNat]? = some (sentX s a b sec co n K q) := by rw [h.sents]; rfl
def DelOk (sec : List Nat) (W : World) (e : Ending) (w' : World) : Prop := ∃ A c, e = .returned (.tuple #[.slice A sec.length c, .int .i64 0]) ∧ sec.length ≤ c ∧ Rd w' w'.heap.size 1 A sec.length (u8s sec) ∧ Below W.heap.size W w'
theorem deliver_ok {W : World} {N bn bl : Nat} {vh vs : Value} {S s : NS} {a b : Nm} {sec co : List Nat} {n K q : Nat} (h : OneSent S s a b sec co n K q) (hN : NetAt W N S bn bl vh vs) :
    Calls Tryz.prog 10 #[.pointer (some ⟨N, 0, none⟩), .int .i64 1] W (DelOk sec W) := by
  refine (Deliver_any hN (by rw [h.len]; decide) (fun x hx => (h.sane x hx).1) 1).mono fun e w' hd => ?_
  have h0 : stE S 1 = 0 := by unfold stE; rw [h.len]; decide
  rcases hd with ⟨h1, _⟩ | ⟨_, x, L, hx, hv, hl, hr⟩
  · exact absurd h0 h1
  · rw [h.get] at hx
    injection hx with hx
    subst hx
    obtain ⟨e1, e2⟩ := h.snd.all hl hv
    have hneed : (sentX s a b sec co n K q).need = (q : Int) + 1 := rfl
    rw [hneed, e1, e2] at hr
    obtain ⟨A, m, c, rfl, hmc, hm, hrd, hb⟩ := hr
    subst hm
    exact ⟨A, c, rfl, hmc, hrd, hb⟩
def ViewOk (s : NS) (a b : Nm) (sec co : List Nat) (n K q : Nat) (l : List Nm) (W : World) (e : Ending) (w' : World) : Prop := ∃ A c L, e = .returned (.tuple #[.slice A L.length c, .int .i64 0]) ∧ L.length ≤ c ∧ ShOwn w' W.heap.size (.slice A L.length c) L.length L ∧ L.map ShareV.view = seenL (sendPs s a b n K) (sendSh sec co q n K) l ∧ Below W.heap.size W w'
theorem view_ok {W : World} {N bn bl : Nat} {vh vs : Value} {S s : NS} {a b : Nm} {sec co : List Nat} {n K q : Nat} (h : OneSent S s a b sec co n K q) (hN : NetAt W N S bn bl vh vs) (A : Option Addr) (m c : Nat) (l : List Nm) (hl : ∀ x ∈ l, ∃ i, i < 8 ∧ x = nm i) (hm : m ≤ 1000) (hr : Rd W W.heap.size 1 A m (l.map encS)) :
    Calls Tryz.prog 13 #[.pointer (some ⟨N, 0, none⟩), .int .i64 1, .slice A m c] W (ViewOk s a b sec co n K q l W) := by
  refine (View_any hN (by rw [h.len]; decide) h.sane 1 A m c l (fun x hx => by obtain ⟨i, hi, rfl⟩ := hl x hx; exact nm_len i hi) (by omega) hr).mono fun e w' hd => ?_
  have h0 : viewE S 1 l = 0 := viewE_small h.nodes h.len hl
  rcases hd with ⟨h1, _⟩ | ⟨_, x, hx, A', c', L, he, hc, ho, hv, hb⟩
  · exact absurd h0 h1
  · rw [h.get] at hx
    injection hx with hx
    subst hx
    have hv' : L.map ShareV.view = seenL (sendPs s a b n K) (sendSh sec co q n K) l := hv
    have hlen : L.length = (seenL (sentX s a b sec co n K q).paths (sentX s a b sec co n K q).shares l).length := by rw [← hv, List.length_map]
    rw [← hlen] at he hc ho
    exact ⟨A', c', L, he, hc, ho, hv', hb⟩
def ExpOk (s : NS) (a b : Nm) (sec co : List Nat) (n K q : Nat) (l : List Nm) (W : World) (e : Ending) (w' : World) : Prop := ∃ A c, e = .returned (.tuple #[.slice A (if q + 1 ≤ (seenL (sendPs s a b n K) (sendSh sec co q n K) l).length then 1 else 0) c, .int .i64 0]) ∧ Below W.heap.size W w'
theorem exposed_ok {W : World} {N bn bl : Nat} {vh vs : Value} {S s : NS} {a b : Nm} {sec co : List Nat} {n K q : Nat} (h : OneSent S s a b sec co n K q) (hN : NetAt W N S bn bl vh vs) (A : Option Addr) (m c : Nat) (l : List Nm) (hl : ∀ x ∈ l, ∃ i, i < 8 ∧ x = nm i) (hm : m ≤ 1000) (hr : Rd W W.heap.size 1 A m (l.map encS)) :
    Calls Tryz.prog 15 #[.pointer (some ⟨N, 0, none⟩), .slice A m c] W (ExpOk s a b sec co n K q l W) := by
  refine (Exposed_any hN (by rw [h.len]; decide) h.sane A m c l (fun x hx => by obtain ⟨i, hi, rfl⟩ := hl x hx; exact nm_len i hi) (by omega) hr).mono fun e w' ⟨hd, hb⟩ => ?_
  have h0 : allE S l = 0 := allE_small h.nodes hl
  rcases hd with ⟨h1, _⟩ | ⟨_, A', c', he, _⟩
  · exact absurd h0 h1
  · refine ⟨A', c', ?_, hb⟩
    have hlen : (expoL l S.sents).length = if q + 1 ≤ (seenL (sendPs s a b n K) (sendSh sec co q n K) l).length then 1 else 0 := by
      have hx : exB l (sentX s a b sec co n K q) = decide (q + 1 ≤ (seenL (sendPs s a b n K) (sendSh sec co q n K) l).length) := by
        show decide ((q : Int) + 1 ≤ ((seenL (sendPs s a b n K) (sendSh sec co q n K) l).length : Int)) = _
        rw [decide_eq_decide]
        omega
      unfold expoL
      rw [h.sents, List.length_map]
      by_cases hq : q + 1 ≤ (seenL (sendPs s a b n K) (sendSh sec co q n K) l).length
      · rw [if_pos hq, List.filter_cons_of_pos (by rw [hx]; simpa using hq)]; rfl
      · rw [if_neg hq, List.filter_cons_of_neg (by rw [hx]; simpa using hq)]; rfl
    rw [← hlen]
    exact he
theorem OneSent.of {s : NS} {st : List Int} {a b : Nm} {sec co : List Nat} {n K q : Nat} (hs : SmI s st) (h : Sending s a b sec co n K q) : OneSent (sendN s a b sec co n K q) s a b sec co n K q :=
  ⟨h, by rw [sendN_sents, hs.sents]; rfl, by rw [(sendN_same s a b sec co n K q).1]; exact hs.nodes, hs.sents⟩
/-- A byte, shifted, and its last bit. -/
theorem u8_and_n (x y : Nat) (hx : x < 256) (hy : y < 256) : bits BinOp.and IntKind.u8 (x : Int) (y : Int) = ((x &&& y : Nat) : Int) := by
  have h1 : (BitVec.ofInt 8 (x : Int)).toNat = x := by rw [BitVec.toNat_ofInt]; omega
  have h2 : (BitVec.ofInt 8 (y : Int)).toNat = y := by rw [BitVec.toNat_ofInt]; omega
  unfold bits
  simp only
  show IntKind.u8.wrap (((BitVec.ofInt 8 (x : Int) &&& BitVec.ofInt 8 (y : Int)).toNat : Nat) : Int) = _
  rw [BitVec.toNat_and, h1, h2]
  have : x &&& y ≤ x := Nat.and_le_left
  generalize x &&& y = z at *
  exact IntWalk.u8_in _ ⟨by omega, by omega⟩
theorem u8_shr_and (g i : Nat) (hg : g < 256) : bits BinOp.and IntKind.u8 ((g : Int) / 2 ^ i) 1 = if g.testBit i then 1 else 0 := by
  have e : ((g : Int) / 2 ^ i) = ((g / 2 ^ i : Nat) : Int) := by push_cast; rfl
  have hle : g / 2 ^ i ≤ g := Nat.div_le_self _ _
  rw [e, show (1 : Int) = ((1 : Nat) : Int) from rfl, u8_and_n _ _ (by omega) (by omega), Nat.and_one_is_mod, Nat.testBit_eq_decide_div_mod_eq]
  by_cases h : g / 2 ^ i % 2 = 1
  · rw [h]; simp
  · have h0 : g / 2 ^ i % 2 = 0 := by omega
    rw [h0]; simp
#print axioms u8_shr_and
end Go.Proofs.YtecndceekgaglaaGreat
/- What was seen is explained by other coins; lists of shares that are alike. Conditions: as each statement says. -/
namespace Go.Proofs.YtecndceekgaglaaGreat
open Go.RowKit
set_option linter.unusedVariables false
theorem Sending.hides {s : NS} {a b : Nm} {sec co : List Nat} {n k q : Nat} (h : Sending s a b sec co n k q) {L : List ShareV} {g : List Nm} (hL : ShLen L) (hv : L.map ShareV.view = seenL (sendPs s a b n k) (sendSh sec co q n k) g) (hk : L.length < q + 1) {o : List Nat} (ho : Bytes o) (hol : o.length = n) :
    explE L ((q : Int) + 1) n = 0 ∧ Sending s a b o (explS L ((q : Int) + 1) o) n k q ∧ seenL (sendPs s a b n k) (sendSh o (explS L ((q : Int) + 1) o) q n k) g = L.map ShareV.view := by
  have h4 := h.k4
  have h1 := h.q1
  have hn := h.n2
  have hlen : L.length = (seesA (sendPs s a b n k) k g).length := by
    have := congrArg List.length hv
    rw [List.length_map, seenL_sees h.len, List.length_map] at this
    exact this
  rw [seenL_sees h.len] at hv
  have hlt : ∀ t ∈ seesA (sendPs s a b n k) k g, t < 16 := fun t ht => by have := seesA_lt t ht; omega
  have hnd := seesA_nodup (sendPs s a b n k) k g
  obtain ⟨e1, e2⟩ := expl_view (l := L) (m := somesL 0 n q sec co (seesA (sendPs s a b n k) k g)) hL (somesL_lens _ _ _ _ _ _) (by rw [hv, somesL_view]) ((q : Int) + 1) o
  rw [hol] at e1
  have hchk := somesL_chk (B := 0) (n := n) (q := q) (sec := sec) (co := co) hn hnd hlt
  have hg := (chk_good _ _ _ hchk).1
  have hsb := somesL_bytes (B := 0) (n := n) (q := q) h.sb h.cb hlt
  have hml : (somesL 0 n q sec co (seesA (sendPs s a b n k) k g)).length ≤ q := by rw [somesL_len]; omega
  have hE : explE (somesL 0 n q sec co (seesA (sendPs s a b n k) k g)) ((q : Int) + 1) n = 0 := by
    unfold explE
    rw [if_neg (by omega), if_neg (by omega), if_neg (by rw [somesL_len]; omega)]
    exact hchk
  have hS : explS L ((q : Int) + 1) o = coinsX (somesL 0 n q sec co (seesA (sendPs s a b n k) k g)) o q n := by
    rw [e2]
    unfold explS
    rw [hol, hE, if_pos rfl, show ((q : Int) + 1 - 1).toNat = q by omega]
  refine ⟨by rw [e1]; exact hE, ?_, ?_⟩
  · rw [hS]
    exact ⟨h.ok, h.ha, h.hb, h.hab, h.ne, h4, h1, h.n1, hn, hol, coinsX_len hg hsb ho hml n, ho, coinsX_bytes hg hsb ho n, h.se⟩
  · rw [seenL_sees h.len, hv, hS]
    refine List.map_congr_left (fun t ht => ?_)
    have hm : (⟨t + 1, Option.some ⟨0 + 1 + t, 0, Option.none⟩, n, n, shareY sec co q (t + 1) n⟩ : ShareV) ∈ somesL 0 n q sec co (seesA (sendPs s a b n k) k g) := by
      unfold somesL
      exact List.mem_map.2 ⟨t, ht, rfl⟩
    have := expl_share hg hsb (somesL_lens _ _ _ _ _ _) ho hol hml hm
    rw [this]
theorem bytes09_yes (A A' : Option Addr) (n m c c' : Nat) (l : List Nat) (w : World) (B : Nat) (hl : Bytes l) (h : Rd w B 1 A n (u8s l)) (h' : Rd w B 1 A' m (u8s l)) :
    Calls Tryz.prog 11 #[.slice A n c, .slice A' m c'] w fun e w' => e = .returned (.bool true) ∧ w = w' := by
  have := bytes09_any A A' n m c c' l l w B hl hl h h'
  rwa [decide_eq_true rfl] at this
set_option maxHeartbeats 1000000 in
theorem shares09_yes (A A' : Option Addr) (n c c' : Nat) (l l' : List ShareV) (w : World) (B : Nat) (hn : n ≤ 1073741824) (h : ShR w B A n l) (h' : ShR w B A' n l') (hv : l.map ShareV.view = l'.map ShareV.view) :
    Calls Tryz.prog 19 #[.slice A n c, .slice A' n c'] w fun e w' => e = .returned (.bool true) ∧ Qw w w' := by
  have H := Lib.hid h; have H' := Lib.hid h'; have HV := Lib.hid hv
  clear h h' hv
  go_enter Tryz.func19, Tryz.ntmps19
  go_wp2
  go_loopw [5] (fun i wr => ∃ k : Nat, k ≤ n ∧ i = .int .i64 k ∧ Qw w wr) (fun i _ => n - (intOf i).toNat)
  case atStart => exact ⟨0, Nat.zero_le _, rfl, Qw.refl _⟩
  case round =>
    obtain ⟨k, hk, rfl, hq⟩ := hrel
    by_cases hlt : k < n
    · have hkl : k < l.length := by rw [H.out.1]; exact hlt
      have hkl' : k < l'.length := by rw [H'.out.1]; exact hlt
      obtain ⟨b, off, rfl, hb, hc⟩ := H.out.2.1.2 (by omega)
      obtain ⟨b', off', rfl, hb', hc'⟩ := H'.out.2.1.2 (by omega)
      obtain ⟨hX, hB1, hnc, hn1, hly, hrd⟩ := H.out.2.2 _ (List.getElem_mem hkl)
      obtain ⟨hX', hB1', hnc', hn1', hly', hrd'⟩ := H'.out.2.2 _ (List.getElem_mem hkl')
      have hvk : (l[k]).view = (l'[k]).view := by
        have h1 := congrArg (fun z => z[k]?) HV.out
        simpa [hkl, hkl'] using h1
      have c0 : wr.cell? ⟨b, off + k * 2, none⟩ = some (.int .u8 (l[k]).X) := (hq.cell _).trans (hc _ _ (shCells_0 l k hkl))
      have c1 : wr.cell? ⟨b, off + k * 2 + 1, none⟩ = some (.slice (l[k]).A (l[k]).n (l[k]).c) := (hq.cell _).trans (hc _ _ (shCells_1 l k hkl))
      have c0' : wr.cell? ⟨b', off' + k * 2, none⟩ = some (.int .u8 (l'[k]).X) := (hq.cell _).trans (hc' _ _ (shCells_0 l' k hkl'))
      have c1' : wr.cell? ⟨b', off' + k * 2 + 1, none⟩ = some (.slice (l'[k]).A (l'[k]).n (l'[k]).c) := (hq.cell _).trans (hc' _ _ (shCells_1 l' k hkl'))
      have hrq := hrd.q hq
      have hrq' := hrd'.q hq
      generalize l[k] = s at c0 c1 hX hB1 hrq hvk hrd hnc hn1 hly
      generalize l'[k] = s' at c0' c1' hX' hB1' hrq' hvk hrd' hnc' hn1' hly'
      obtain ⟨X, A1, n1, c1v, Y⟩ := s
      obtain ⟨X', A2, n2, c2v, Y'⟩ := s'
      simp only [ShareV.view, Prod.mk.injEq] at hvk c0 c1 c0' c1' hX hX' hB1 hB1' hrq hrq'
      obtain ⟨rfl, rfl⟩ := hvk
      have HS := Lib.hid (bytes09_yes A1 A2 n1 n2 c1v c2v Y wr B hB1 hrq hrq')
      have HRQ := Lib.hid hrq; have HRQ' := Lib.hid hrq'; have HB1 := Lib.hid hB1
      have hki : (k : Int) < (n : Int) := by omega
      clear hrq hrq' hrd hrd' hc hc' hkl hkl' hB1 hB1' hnc hnc' hn1 hn1' hly hly'
      go_wp2
      go_quiet ((go_at_call 11; exact quiet_e (bytes09_yes _ _ _ _ _ _ _ _ _ HB1.out (HRQ.out.drewN _) (HRQ'.out.drewN _))))
      go_wp2
      go_roundw
      case rel => exact ⟨k + 1, by omega, by go_num, hq.drewN _⟩
      case measure => simp [intOf]; omega
    · obtain rfl : k = n := by omega
      go_wp2
      go_ret
      exact ⟨rfl, hq⟩
#print axioms shares09_yes
end Go.Proofs.YtecndceekgaglaaGreat
/- A second network that is sent over, and what stays beside it. Conditions: as each statement says. -/
namespace Go.Proofs.YtecndceekgaglaaGreat
open Go.RowKit
set_option linter.unusedVariables false
theorem NetAt.keepNil {W W' : World} {N : Nat} {s : NS} {bn bl : Nat} {L : List Nat} (h : NetAt W N s bn bl (.slice none 0 0) (.slice none 0 0)) (hk : KeepL L W W') (h1 : N ∉ L) (h2 : bn ∉ L) (h3 : bl ∉ L) (hh : s.holds = []) (hs : s.sents = []) : NetAt W' N s bn bl (.slice none 0 0) (.slice none 0 0) :=
  ⟨h.blk.keepL hk h1, h.nodes.keep (hk.block _ h.nodes.lt h2), h.links.keep (hk.block _ h.links.lt h3), ⟨[], by rw [hh]; exact World.ownsRow_nil _ _ _ _, fun i x hx => by rw [hh] at hx; cases hx⟩, ⟨[], by rw [hs]; exact World.ownsRow_nil _ _ _ _, fun i x hx => by rw [hs] at hx; cases hx⟩, h.ok, h.ne⟩
/-- What a Send leaves alone. -/
theorem NetAt.ckS {W W' : World} {N : Nat} {s : NS} {bn bl : Nat} {vh vs : Value} (h : NetAt W N s bn bl vh vs) (hk : KeepL [N, bl] W W') : CK (fun t => t ≠ 101) W W' := CK.keepL hk (fun k hk cs t ht hb => by
  simp only [List.mem_cons, List.not_mem_nil, or_false] at hk
  rcases hk with rfl | rfl
  · have := h.blk
    unfold Bk at this hb
    rw [hb] at this
    simp at this
    exact ht this.2
  · exact h.links.noBk hb)
theorem ShOwn.ck {T : TypeId → Prop} {w w' : World} {base n : Nat} {v : Value} {l : List ShareV} (h : ShOwn w base v n l) (hc : CK T w w') (h1 : T 106) (h2 : T 5) : ShOwn w' base v n l :=
  ⟨h.1, ownsRow_ck h.2.1 hc h1, fun s hs => by
    obtain ⟨q1, q2, q3, q4, q5, q6⟩ := h.2.2 s hs
    exact ⟨q1, q2, q3, q4, q5, fun h0 => ownsRow_ck (q6 h0) hc h2⟩⟩
def SendOk (N : Nat) (s : NS) (bn bl : Nat) (a b : Nm) (sec co : List Nat) (n K q : Nat) (W : World) (e : Ending) (w' : World) : Prop := ∃ vs', e = .returned (.tuple #[.int .i64 1, .int .i64 0]) ∧ NetAt w' N (sendN s a b sec co n K q) bn bl (.slice none 0 0) vs' ∧ KeepL [N, bl] W w'
theorem sendM_ok {W : World} {N : Nat} {s : NS} {bn bl : Nat} {a b : Nm} {sec co : List Nat} {n K q : Nat} (h : Sending s a b sec co n K q) (hs : s.sents = []) (hN : NetAt W N s bn bl (.slice none 0 0) (.slice none 0 0)) (A A' : Option Addr) (c m c' : Nat) (hm : m = n * q) (hnc : n ≤ c) (hmc : m ≤ c') (ha : a.length ≤ maxLen) (hb : b.length ≤ maxLen)
    (hr : Rd W W.heap.size 1 A n (u8s sec)) (hr' : Rd W W.heap.size 1 A' m (u8s co)) :
    Calls Tryz.prog 18 #[.pointer (some ⟨N, 0, none⟩), encS a, encS b, .slice A n c, .int .i64 (K : Int), .int .i64 ((q : Int) + 1), .slice A' m c'] W (SendOk N s bn bl a b sec co n K q W) := by
  subst hm
  refine (Send_any hN a b A A' n c (n * q) c' (K : Int) ((q : Int) + 1) sec co ha hb (by rw [hs]; decide) (by have := h.n2; omega) hnc hmc h.sb h.cb hr hr').mono fun e w' hp => ?_
  obtain ⟨tid, z, he, hp⟩ := hp
  rw [Int.toNat_natCast] at hp
  rw [show ((q : Int) + 1).toNat - 1 = q by omega] at hp
  rcases hp with ⟨hz, hz2, _⟩ | ⟨rfl, _, _, hid, vs', hn, hk, _⟩
  · exfalso
    rcases hz2 with h1 | ⟨_, _, h1⟩
    · exact hz (h1.trans h.se)
    · exact h.ne h1
  · have hid1 : tid = 1 := by rw [hid, hs]; rfl
    subst hid1
    exact ⟨vs', he, hn, hk.sub (fun k hk => by simpa [Value.ownBlock] using hk)⟩
#print axioms sendM_ok
end Go.Proofs.YtecndceekgaglaaGreat
