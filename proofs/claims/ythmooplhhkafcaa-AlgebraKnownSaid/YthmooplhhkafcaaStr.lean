/- Contracts of Distance, Outside, Pick, Drop (program and reference) and flip. Conditions: as each statement says. -/
import Derived.Test.YthmooplhhkafcaaZip
import Derived.Laws.OwnMore
namespace Go.Proofs.Ythmooplhhkafcaa
open Go.RowKit
set_option linter.unusedVariables false
def outB (l : List Int) (n : Nat) : Bool := l.any fun i => decide (i < 0) || decide ((n : Int) ≤ i)
def pickL (b : List Bool) (l : List Int) : List Bool := l.map fun i => b.getD i.toNat false
def dropL (b : List Bool) (l : List Int) (k : Nat) : List Bool := ((List.range k).filter fun i : Nat => !(l.contains (i : Int))).map fun i => b.getD i false
theorem outB_snoc (l : List Int) (n : Nat) (x : Int) : outB (l ++ [x]) n = (outB l n || (decide (x < 0) || decide ((n : Int) ≤ x))) := by simp [outB]
theorem outB_mem {l : List Int} {n : Nat} {x : Int} (h : x ∈ l) (hx : x < 0 ∨ (n : Int) ≤ x) : outB l n = true := by
  unfold outB
  rw [List.any_eq_true]
  exact ⟨x, h, by rcases hx with h | h <;> simp [h]⟩
theorem pickL_snoc (b : List Bool) (l : List Int) (x : Int) : pickL b (l ++ [x]) = pickL b l ++ [b.getD x.toNat false] := by simp [pickL]
theorem pickL_len (b : List Bool) (l : List Int) : (pickL b l).length = l.length := by simp [pickL]
theorem dropL_yes {b : List Bool} {l : List Int} {k : Nat} (h : l.contains (k : Int) = true) : dropL b l (k + 1) = dropL b l k := by
  unfold dropL
  rw [List.range_succ, List.filter_append]
  simp only [List.filter_cons, h, Bool.not_true, Bool.false_eq_true, if_false, List.filter_nil, List.append_nil]
theorem dropL_no {b : List Bool} {l : List Int} {k : Nat} (h : l.contains (k : Int) = false) : dropL b l (k + 1) = dropL b l k ++ [b.getD k false] := by
  unfold dropL
  rw [List.range_succ, List.filter_append, List.map_append]
  simp only [List.filter_cons, h, Bool.not_false, if_true, List.filter_nil, List.map_cons, List.map_nil]
theorem dropL_le (b : List Bool) (l : List Int) (k : Nat) : (dropL b l k).length ≤ k := by
  unfold dropL
  rw [List.length_map]
  exact Nat.le_trans (List.length_filter_le _ _) (by simp)

theorem Distance_any (A A' : Option Addr) (n c c' : Nat) (xs ys : List Bool) (w : World) (hn : n ≤ 1073741824) (h : Rd w w.heap.size 1 A n (xs.map Value.bool)) (h' : Rd w w.heap.size 1 A' n (ys.map Value.bool)) :
    Calls Try.prog 42 #[.slice A n c, .slice A' n c'] w fun e w' => e = .returned (.tuple #[.int .i64 (cnt (xorL xs ys)), .int .i64 0]) ∧ Below w.heap.size w w' := by
  have H := Lib.hid h; clear h
  have H' := Lib.hid h'; clear h'
  go_enter Try.func42, Try.ntmps42
  go_wp2_with fail
  refine (Xor_any _ _ _ _ _ xs ys _ hn H.out H'.out).mono ?_
  rintro e w1 ⟨A2, c2, rfl, hc2, hown, hb⟩
  have R := Lib.hid (Rd.own hown); clear hown
  try dsimp only [id]
  go_wp2_with fail
  refine (Count_any _ _ _ _ _ _ (by omega) R.out).mono ?_
  rintro e w2 ⟨rfl, rfl⟩
  go_wp2_with fail
  go_ret2
  exact ⟨rfl, hb⟩
theorem Distance_bad (A A' : Option Addr) (n m c c' : Nat) (hne : n ≠ m) (w : World) :
    Calls Try.prog 42 #[.slice A n c, .slice A' m c'] w fun e w' => e = .returned (.tuple #[.int .i64 0, .int .i64 22]) ∧ w = w' := by
  go_enter Try.func42, Try.ntmps42
  go_wp2_with fail
  refine (Xor_bad _ _ _ _ _ _ hne _).mono ?_
  rintro e w1 ⟨rfl, rfl⟩
  go_wp2_with fail
  refine (Count_any none 0 0 [] _ w.heap.size (by omega) (Rd.nil _ _ _ _)).mono ?_
  rintro e w2 ⟨rfl, rfl⟩
  go_wp2_with fail
  go_ret2
  exact ⟨rfl, rfl⟩
def PickPost (b : List Bool) (l : List Int) (n m : Nat) (w : World) (e : Ending) (w' : World) : Prop :=
  (outB l n = false ∧ RetOwn w 4 1 m ((pickL b l).map Value.bool) (fun v => .tuple #[v, .int .i64 0]) e w') ∨
  (outB l n = true ∧ e = .returned (.tuple #[.slice none 0 0, .int .i64 3]) ∧ Below w.heap.size w w')
set_option maxHeartbeats 400000 in
theorem Pick_any (A A' : Option Addr) (n c m c' : Nat) (bs : List Bool) (l : List Int) (w : World) (hn : n ≤ 1073741824) (hm : m ≤ 1073741824)
    (h : Rd w w.heap.size 1 A n (bs.map Value.bool)) (h' : Rd w w.heap.size 1 A' m (l.map (Value.int .i64))) :
    Calls Try.prog 44 #[.slice A n c, .slice A' m c'] w (PickPost bs l n m w) := by
  have hl : bs.length = n := by have := h.1; simpa using this
  have hl' : l.length = m := by have := h'.1; simpa using this
  have H := Lib.hid h; clear h
  have H' := Lib.hid h'; clear h'
  have HL := Lib.hid hl; clear hl
  have HL' := Lib.hid hl'; clear hl'
  have hmk := fun w => make_bool0 w m (by omega)
  obtain ⟨i0, hi0, hz0, hz1, hz2⟩ := info_parts info_bool
  have HI0 := Lib.hid hi0; have HZ0 := Lib.hid hz0; have HZ1 := Lib.hid hz1; have HZ2 := Lib.hid hz2
  clear hi0 hz0 hz1 hz2
  go_enter Try.func44, Try.ntmps44
  go_wp2
  clear hmk
  go_loopw [6, 14] (fun v i wr => ∃ k : Nat, k ≤ m ∧ i = .int .i64 k ∧ wr.ownsRow w.heap.size 4 1 v k ((pickL bs (l.take k)).map Value.bool) ∧ Below w.heap.size w wr ∧ outB (l.take k) n = false) (fun _ i _ => m - (intOf i).toNat)
  case atStart => exact ⟨0, Nat.zero_le _, rfl, World.ownsRow_made w _ m (Nat.le_refl _) (by simp [maxLen]; omega) (by simp), (Below.refl _ _).alloc (Nat.le_refl _) _, rfl⟩
  case round =>
    obtain ⟨k, hk, rfl, hown, hbw, ho⟩ := hrel
    have hsz := hbw.size
    have HO := Lib.hid ho; clear ho
    by_cases hlt : k < m
    · obtain ⟨b', off', rfl, hb', hc'⟩ := H'.out.2 (by omega)
      have hlk : k < l.length := by rw [HL'.out]; exact hlt
      have h1 : wr.cell? ⟨b', off' + k, none⟩ = some (.int .i64 l[k]) := (hbw.cell (p := ⟨b', off' + k, none⟩) hb').trans (hc' k _ (by simp [hlk]))
      have HS := Lib.hid (outB_snoc (l.take k) n l[k])
      have HP := Lib.hid (pickL_snoc bs (l.take k) l[k])
      rw [← take_snoc _ _ hlk] at HS HP
      rw [HO.out, Bool.false_or] at HS
      have HM : Hid (l[k] < 0 ∨ (n : Int) ≤ l[k] → outB l n = true) := Lib.hid (fun h => outB_mem (List.getElem_mem hlk) h)
      generalize l[k] = x at h1 HS HM HP
      clear hc' hlk
      by_cases h0 : x < 0
      · have HM2 := Lib.hid (HM.out (.inl h0))
        go_wp2
        go_ret2
        exact .inr ⟨HM2.out, rfl, hbw⟩
      · by_cases hx : (n : Int) ≤ x
        · have HM2 := Lib.hid (HM.out (.inr hx))
          go_wp2
          go_ret2
          exact .inr ⟨HM2.out, rfl, hbw⟩
        · have HS2 := Lib.hid (show outB (l.take (k + 1)) n = false by rw [HS.out]; simp [h0, hx])
          obtain ⟨j, rfl⟩ := Int.eq_ofNat_of_zero_le (Int.not_lt.1 h0)
          obtain ⟨b, off, rfl, hb, hc⟩ := H.out.2 (by omega)
          have hjb : j < bs.length := by rw [HL.out]; omega
          have h2 : wr.cell? ⟨b, off + j, none⟩ = some (.bool (bs.getD j false)) := (hbw.cell (p := ⟨b, off + j, none⟩) hb).trans (hc j _ (by simp [hjb]))
          have HP2 : Hid (pickL bs (l.take (k + 1)) = pickL bs (l.take k) ++ [bs.getD j false]) := Lib.hid (by rw [HP.out]; simp)
          clear hc hjb HP HM HS
          generalize bs.getD j false = y at h2 HP2
          go_wp2_with (at_builtin; refine wpList_append_own _ rfl (.tmp 26) (.tmp 31) _ rfl w.heap.size 4 i0 _ 1 1 Try.underlying22 HI0.out HZ0.out HZ1.out HZ2.out rfl (by decide) _ k _ rfl (hown.alloc _) ⟨wr.heap.size, 0, none⟩ 1 1 [.bool _] rfl rfl (cell_one_new _ _ _) (by simp [Value.oneCell']) (by unfold maxLen; omega) (by omega) (by simp; omega) ?_; intro v1 w1 hown1 hg1 _)
          exact ⟨⟨k + 1, by omega, by go_num, by rw [HP2.out]; simpa using hown1, ((hbw.alloc hsz _).grown hg1 (by simp; omega) (fun g hg => (hown.lt g hg).1)), HS2.out⟩, by simp [intOf]; omega⟩
    · go_wp2
      go_ret2
      have e := HO.out
      rw [List.take_of_length_le (by rw [HL'.out]; omega)] at e hown
      obtain rfl : k = m := by omega
      exact .inl ⟨e, RetOwn.of (mk := fun v => .tuple #[v, .int .i64 0]) hown hbw⟩
theorem own_apart {w : World} {base S t sz n : Nat} {v1 v2 : Value} {xs : List Value} (h1 : ∀ k, v1.ownBlock = some k → k < S) (h2 : w.ownsRow base t sz v2 n xs) (hS : S ≤ base) : v2.ownBlock = none ∨ v2.ownBlock ≠ v1.ownBlock := by
  cases hv : v2.ownBlock with
  | none => exact .inl rfl
  | some k => exact .inr fun e => by have := (h2.lt k hv).1; have := h1 k e.symm; omega
end Go.Proofs.Ythmooplhhkafcaa
/- Contracts of Drop (program and reference). Conditions: as each statement says. -/
namespace Go.Proofs.Ythmooplhhkafcaa
open Go.RowKit
set_option linter.unusedVariables false
set_option linter.unusedSimpArgs false
def gonel (n : Nat) (l : List Int) : List Bool := (List.range n).map fun i : Nat => l.contains (i : Int)
theorem gonel_len (n : Nat) (l : List Int) : (gonel n l).length = n := by simp [gonel]
theorem gonel_get {n : Nat} {l : List Int} {k : Nat} (h : k < n) : (gonel n l)[k]? = some (l.contains (k : Int)) := by simp [gonel, h]
theorem gonel_nil (n : Nat) : gonel n [] = List.replicate n false := by
  apply List.ext_getElem
  · simp [gonel]
  · intro i h1 h2; simp [gonel]
theorem contains_snoc (l : List Int) (x y : Int) : (l ++ [x]).contains y = (l.contains y || (x == y)) := by
  simp [List.contains_eq_any_beq, List.any_append, Bool.beq_comm]
  congr 1
  rw [Bool.eq_iff_iff]; simp; exact eq_comm
theorem gonel_snoc {n : Nat} {l : List Int} {j : Nat} (h : j < n) : gonel n (l ++ [(j : Int)]) = (gonel n l).set j true := by
  apply List.ext_getElem
  · simp [gonel]
  · intro i h1 h2
    have hi : i < n := by simpa [gonel] using h1
    rw [List.getElem_set]
    simp only [gonel, List.getElem_map, List.getElem_range]
    rw [contains_snoc]
    by_cases e : j = i
    · subst e; simp
    · rw [if_neg e, beq_eq_false_iff_ne.2 (by omega), Bool.or_false]
theorem gonel_again {n : Nat} {l : List Int} {j : Nat} (h : j < n) (hg : l.contains (j : Int) = true) : gonel n (l ++ [(j : Int)]) = gonel n l := by
  rw [gonel_snoc h]
  apply List.ext_getElem
  · simp
  · intro i h1 h2
    rw [List.getElem_set]
    split
    · rename_i e; subst e; simp only [gonel, List.getElem_map, List.getElem_range]; rw [hg]
    · rfl
/-- How many are false. -/
def cf (l : List Bool) : Nat := (l.filter fun b => !b).length
theorem cf_le (l : List Bool) : cf l ≤ l.length := List.length_filter_le _ _
theorem cf_rep (n : Nat) : cf (List.replicate n false) = n := by simp [cf, List.filter_replicate]
theorem cf_set : ∀ (l : List Bool) (j : Nat), l[j]? = some false → cf (l.set j true) + 1 = cf l
  | [], j, h => by simp at h
  | b :: l, 0, h => by
    simp at h; subst h; simp [cf]
  | b :: l, j + 1, h => by
    have := cf_set l j (by simpa using h)
    unfold cf at *
    rw [List.set_cons_succ, List.filter_cons, List.filter_cons]
    split <;> simp_all <;> omega
theorem ownsRow_le' {w : World} {base base' : Nat} {t : TypeId} {sz n : Nat} {v : Value} {xs : List Value} (h : w.ownsRow base t sz v n xs) (hb : base' ≤ base) : w.ownsRow base' t sz v n xs := by
  refine ⟨h.1, ?_⟩
  rcases h.2 with h1 | ⟨g, cap, cur, hv, hg, rest⟩
  · exact .inl h1
  · exact .inr ⟨g, cap, cur, hv, by omega, rest⟩
def DropPost (b : List Bool) (l : List Int) (n : Nat) (w : World) (e : Ending) (w' : World) : Prop :=
  (outB l n = false ∧ RetOwn w 4 1 (dropL b l n).length ((dropL b l n).map Value.bool) (fun v => .tuple #[v, .int .i64 0]) e w') ∨
  (outB l n = true ∧ e = .returned (.tuple #[.slice none 0 0, .int .i64 3]) ∧ Below w.heap.size w w')
def gRow (n : Nat) (l : List Int) : Obj := .cells ((gonel n l).map Value.bool).toArray 4 (0, 0)
theorem gRow_cell {w : World} {h n k : Nat} {l : List Int} (hh : w.heap[h]? = some (gRow n l)) (hk : k < n) : w.cell? ⟨h, k, none⟩ = some (.bool (l.contains (k : Int))) := by
  rw [cell_of_row _ _ _ _ _ _ hh]
  simp [gonel_get hk]
theorem gRow_frozen {w : World} {h n k : Nat} {l : List Int} (hh : w.heap[h]? = some (gRow n l)) : w.frozen? ⟨h, k, none⟩ = false := by simp [World.frozen?, hh, gRow]
theorem gRow_set {w : World} {h n j : Nat} {l : List Int} (hh : w.heap[h]? = some (gRow n l)) (hj : j < n) : (w.setCell ⟨h, j, none⟩ (.bool true)).heap[h]? = some (gRow n (l ++ [(j : Int)])) := by
  simp only [gRow] at hh ⊢
  rw [heap_setCell_same w h j _ _ _ hh, gonel_snoc hj, List.map_set]
  simp
set_option maxRecDepth 100000 in
set_option maxHeartbeats 800000 in
theorem Drop_any (A A' : Option Addr) (n c m c' : Nat) (bs : List Bool) (l : List Int) (w : World) (hn : n ≤ 1073741824) (hm : m ≤ 1073741824)
    (h : Rd w w.heap.size 1 A n (bs.map Value.bool)) (h' : Rd w w.heap.size 1 A' m (l.map (Value.int .i64))) :
    Calls Try.prog 45 #[.slice A n c, .slice A' m c'] w (DropPost bs l n w) := by
  have hl : bs.length = n := by have := h.1; simpa using this
  have hl' : l.length = m := by have := h'.1; simpa using this
  have H := Lib.hid h; clear h
  have H' := Lib.hid h'; clear h'
  have HL := Lib.hid hl; clear hl
  have HL' := Lib.hid hl'; clear hl'
  have hmk := fun w => make_bool w n (by omega)
  obtain ⟨i0, hi0, hz0, hz1, hz2⟩ := info_parts info_bool
  have HI0 := Lib.hid hi0; have HZ0 := Lib.hid hz0; have HZ1 := Lib.hid hz1; have HZ2 := Lib.hid hz2
  clear hi0 hz0 hz1 hz2
  go_enter Try.func45, Try.ntmps45
  go_wp2
  clear hmk
  go_loopw [7, 20] (fun v i wr => ∃ k : Nat, k ≤ m ∧ i = .int .i64 k ∧ v = .int .i64 (cf (gonel n (l.take k))) ∧ wr.heap[w.heap.size]? = some (gRow n (l.take k)) ∧ Below w.heap.size w wr ∧ w.heap.size + 1 ≤ wr.heap.size ∧ outB (l.take k) n = false) (fun _ i _ => m - (intOf i).toNat)
  case atStart => exact ⟨0, Nat.zero_le _, rfl, by rw [List.take_zero, gonel_nil, cf_rep], by rw [List.take_zero, gRow, gonel_nil]; simpa using heap_alloc_new w _, (Below.refl _ _).alloc (Nat.le_refl _) _, by simp, rfl⟩
  case round =>
    obtain ⟨wp, rfl⟩ : ∃ wp : World, wp = wr := ⟨_, rfl⟩
    obtain ⟨k, hk, rfl, rfl, hrow, hbw, hsz, ho⟩ := hrel
    have HO := Lib.hid ho; clear ho
    have HR := Lib.hid hrow; clear hrow
    by_cases hlt : k < m
    · obtain ⟨b', off', rfl, hb', hc'⟩ := H'.out.2 (by omega)
      have hlk : k < l.length := by rw [HL'.out]; exact hlt
      have h1 : wp.cell? ⟨b', off' + k, none⟩ = some (.int .i64 l[k]) := (hbw.cell (p := ⟨b', off' + k, none⟩) hb').trans (hc' k _ (by simp [hlk]))
      have HS := Lib.hid (outB_snoc (l.take k) n l[k])
      have HT := Lib.hid (take_snoc l k hlk)
      rw [← take_snoc _ _ hlk] at HS
      rw [HO.out, Bool.false_or] at HS
      have HM : Hid (l[k] < 0 ∨ (n : Int) ≤ l[k] → outB l n = true) := Lib.hid (fun h => outB_mem (List.getElem_mem hlk) h)
      generalize l[k] = x at h1 HS HM HT
      clear hc' hlk
      by_cases h0 : x < 0
      · have HM2 := Lib.hid (HM.out (.inl h0))
        go_wp2
        go_ret2
        exact .inr ⟨HM2.out, rfl, hbw⟩
      · by_cases hx : (n : Int) ≤ x
        · have HM2 := Lib.hid (HM.out (.inr hx))
          go_wp2
          go_ret2
          exact .inr ⟨HM2.out, rfl, hbw⟩
        · have HS2 := Lib.hid (show outB (l.take (k + 1)) n = false by rw [HS.out]; simp [h0, hx])
          obtain ⟨j, rfl⟩ := Int.eq_ofNat_of_zero_le (Int.not_lt.1 h0)
          have hjn : j < n := by omega
          have h2 := gRow_cell HR.out hjn
          have h3 := gRow_frozen (k := j) HR.out
          have HG := Lib.hid (gonel_get (l := l.take k) hjn)
          have HW := Lib.hid (gRow_set HR.out hjn)
          have HA := Lib.hid (gonel_again (l := l.take k) hjn)
          have HSn := Lib.hid (gonel_snoc (l := l.take k) hjn)
          rw [← HT.out] at HW HA HSn
          have hq : cf (gonel n (l.take k)) ≤ n := by have := cf_le (gonel n (l.take k)); rw [gonel_len] at this; exact this
          have HC := Lib.hid (cf_set (gonel n (l.take k)) j)
          clear HM HS
          generalize (l.take k).contains (j : Int) = g at h2 HG HA
          obtain ⟨q, hqe⟩ : ∃ q, q = cf (gonel n (l.take k)) := ⟨_, rfl⟩
          have HQ := Lib.hid hqe
          rw [← hqe] at hq HC ⊢
          clear hqe
          cases g
          · have HC2 := Lib.hid (HC.out HG.out)
            have hq1 : 1 ≤ q := by have := HC2.out; omega
            clear HG HA HC
            go_wp2
            refine ⟨⟨k + 1, by omega, by go_num, ?_, HW.out, hbw.setCell (p := ⟨w.heap.size, j, none⟩) (Nat.le_refl _) _, by rw [size_setCell]; exact hsz, HS2.out⟩, by simp [intOf]; omega⟩
            have e := HC2.out
            rw [← HSn.out] at e
            congr 1
            omega
          · have HA2 := Lib.hid (HA.out rfl)
            clear HG HA HC
            go_wp2
            refine ⟨⟨k + 1, by omega, by go_num, ?_, ?_, hbw, hsz, HS2.out⟩, by simp [intOf]; omega⟩
            · rw [HA2.out, ← HQ.out]
            · rw [gRow, HA2.out]; exact HR.out
    · have e : l.take k = l := List.take_of_length_le (by rw [HL'.out]; omega)
      rw [e] at HO HR ⊢
      have hq : cf (gonel n l) ≤ n := by have := cf_le (gonel n l); rw [gonel_len] at this; exact this
      generalize cf (gonel n l) = q at hq ⊢
      have hmk := fun w => make_bool0 w q (by omega)
      go_wp2
      clear hmk
      go_loopw [10, 47] (fun v i wr => ∃ k : Nat, k ≤ n ∧ i = .int .i64 k ∧ wr.ownsRow (w.heap.size + 1) 4 1 v (dropL bs l k).length ((dropL bs l k).map Value.bool) ∧ wr.heap[w.heap.size]? = some (gRow n l) ∧ Below w.heap.size w wr ∧ w.heap.size + 1 ≤ wr.heap.size) (fun _ i _ => n - (intOf i).toNat)
      case atStart =>
        refine ⟨0, Nat.zero_le _, rfl, World.ownsRow_made wp _ q hsz (by simp [maxLen]; omega) (by simp), ?_, hbw.alloc (by omega) _, by simp; omega⟩
        rw [Below.heap_alloc _ _ _ (by omega)]; exact HR.out
      case round =>
        obtain ⟨k2, hk2, rfl, hown, hrow, hbw2, hsz2⟩ := hrel
        have HR2 := Lib.hid hrow; clear hrow
        have hdl := dropL_le bs l k2
        by_cases hlt2 : k2 < n
        · obtain ⟨b, off, rfl, hb, hc⟩ := H.out.2 (by omega)
          have hkb : k2 < bs.length := by rw [HL.out]; omega
          have h2 : wr.cell? ⟨b, off + k2, none⟩ = some (.bool (bs.getD k2 false)) := (hbw2.cell (p := ⟨b, off + k2, none⟩) hb).trans (hc k2 _ (by simp [hkb]))
          have h3 := gRow_cell HR2.out hlt2
          have HY := Lib.hid (dropL_yes (b := bs) (l := l) (k := k2))
          have HN := Lib.hid (dropL_no (b := bs) (l := l) (k := k2))
          clear hc hkb
          generalize l.contains (k2 : Int) = g at h3 HY HN
          generalize bs.getD k2 false = y at h2 HN
          cases g
          · have HN2 := Lib.hid (HN.out rfl)
            clear HY HN
            go_wp2_with (at_builtin; refine wpList_append_own _ rfl (.tmp 57) (.tmp 59) _ rfl (w.heap.size + 1) 4 i0 _ 1 1 Try.underlying22 HI0.out HZ0.out HZ1.out HZ2.out rfl (by decide) _ _ _ rfl (hown.alloc _) ⟨wr.heap.size, 0, none⟩ 1 1 [.bool _] rfl rfl (cell_one_new _ _ _) (by simp [Value.oneCell']) (by unfold maxLen; omega) (by omega) (by simp; omega) ?_; intro v1 w1 hown1 hg1 _)
            refine ⟨⟨k2 + 1, by omega, by go_num, by rw [HN2.out]; simpa using hown1, ?_, ((hbw2.alloc (by omega) _).grown hg1 (by simp; omega) (fun g hg => by have := (hown.lt g hg).1; omega)), ?_⟩, by simp [intOf]; omega⟩
            · rw [hg1.block _ (by simp; omega) (fun e => by have := (hown.lt _ e.symm).1; omega), Below.heap_alloc _ _ _ (by omega)]
              exact HR2.out
            · have := hg1.size; simp at this; omega
          · have HY2 := Lib.hid (HY.out rfl)
            clear HY HN
            go_wp2
            exact ⟨⟨k2 + 1, by omega, by go_num, by rw [HY2.out]; exact hown, HR2.out, hbw2, hsz2⟩, by simp [intOf]; omega⟩
        · go_wp2
          go_ret2
          obtain rfl : k2 = n := by omega
          exact .inl ⟨HO.out, RetOwn.of (mk := fun v => .tuple #[v, .int .i64 0]) (ownsRow_le' hown (by omega)) hbw2⟩
end Go.Proofs.Ythmooplhhkafcaa
