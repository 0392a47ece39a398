/- Contracts of Distance, Outside, Pick, Drop (program and reference) and flip. Conditions: as each statement says. -/
import Derived.Test.YthmooplhhkafcaaZip
import Derived.Laws.OwnMore
namespace Go.Proofs.Ythmooplhhkafcaa
open Go.RowKit
set_option linter.unusedVariables false
def outB (l : List Int) (n : Nat) : Bool := l.any fun i => decide (i < 0) || decide ((n : Int) ≤ i)
def pickL (b : List Bool) (l : List Int) : List Bool := l.map fun i => b.getD i.toNat false
def dropL (b : List Bool) (l : List Int) (k : Nat) : List Bool := ((List.range k).filter fun i : Nat => !(l.contains (i : Int))).map fun i => b.getD i false
theorem outB_snoc (l : List Int) (n : Nat) (x : Int) : outB (l ++ [x]) n = (outB l n || (decide (x < 0) || decide ((n : Int) ≤ x))) := by simp [outB]
theorem outB_mem {l : List Int} {n : Nat} {x : Int} (h : x ∈ l) (hx : x < 0 ∨ (n : Int) ≤ x) : outB l n = true := by
  unfold outB
  rw [List.any_eq_true]
  exact ⟨x, h, by rcases hx with h | h <;> simp [h]⟩
theorem pickL_snoc (b : List Bool) (l : List Int) (x : Int) : pickL b (l ++ [x]) = pickL b l ++ [b.getD x.toNat false] := by simp [pickL]
theorem pickL_len (b : List Bool) (l : List Int) : (pickL b l).length = l.length := by simp [pickL]
theorem dropL_yes {b : List Bool} {l : List Int} {k : Nat} (h : l.contains (k : Int) = true) : dropL b l (k + 1) = dropL b l k := by
  unfold dropL
  rw [List.range_succ, List.filter_append]
  simp only [List.filter_cons, h, Bool.not_true, Bool.false_eq_true, if_false, List.filter_nil, List.append_nil]
theorem dropL_no {b : List Bool} {l : List Int} {k : Nat} (h : l.contains (k : Int) = false) : dropL b l (k + 1) = dropL b l k ++ [b.getD k false] := by
  unfold dropL
  rw [List.range_succ, List.filter_append, List.map_append]
  simp only [List.filter_cons, h, Bool.not_false, if_true, List.filter_nil, List.map_cons, List.map_nil]
theorem dropL_le (b : List Bool) (l : List Int) (k : Nat) : (dropL b l k).length ≤ k := by
  unfold dropL
  rw [List.length_map]
  exact Nat.le_trans (List.length_filter_le _ _) (by simp)

theorem Distance_any (A A' : Option Addr) (n c c' : Nat) (xs ys : List Bool) (w : World) (hn : n ≤ 1073741824) (h : Rd w w.heap.size 1 A n (xs.map Value.bool)) (h' : Rd w w.heap.size 1 A' n (ys.map Value.bool)) :
    Calls Try.prog 42 #[.slice A n c, .slice A' n c'] w fun e w' => e = .returned (.tuple #[.int .i64 (cnt (xorL xs ys)), .int .i64 0]) ∧ Below w.heap.size w w' := by
  have H := Lib.hid h; clear h
  have H' := Lib.hid h'; clear h'
  go_enter Try.func42, Try.ntmps42
  go_wp2_with fail
  refine (Xor_any _ _ _ _ _ xs ys _ hn H.out H'.out).mono ?_
  rintro e w1 ⟨A2, c2, rfl, hc2, hown, hb⟩
  have R := Lib.hid (Rd.own hown); clear hown
  try dsimp only [id]
  go_wp2_with fail
  refine (Count_any _ _ _ _ _ _ (by omega) R.out).mono ?_
  rintro e w2 ⟨rfl, rfl⟩
  go_wp2_with fail
  go_ret2
  exact ⟨rfl, hb⟩
theorem Distance_bad (A A' : Option Addr) (n m c c' : Nat) (hne : n ≠ m) (w : World) :
    Calls Try.prog 42 #[.slice A n c, .slice A' m c'] w fun e w' => e = .returned (.tuple #[.int .i64 0, .int .i64 22]) ∧ w = w' := by
  go_enter Try.func42, Try.ntmps42
  go_wp2_with fail
  refine (Xor_bad _ _ _ _ _ _ hne _).mono ?_
  rintro e w1 ⟨rfl, rfl⟩
  go_wp2_with fail
  refine (Count_any none 0 0 [] _ w.heap.size (by omega) (Rd.nil _ _ _ _)).mono ?_
  rintro e w2 ⟨rfl, rfl⟩
  go_wp2_with fail
  go_ret2
  exact ⟨rfl, rfl⟩
def PickPost (b : List Bool) (l : List Int) (n m : Nat) (w : World) (e : Ending) (w' : World) : Prop :=
  (outB l n = false ∧ RetOwn w 4 1 m ((pickL b l).map Value.bool) (fun v => .tuple #[v, .int .i64 0]) e w') ∨
  (outB l n = true ∧ e = .returned (.tuple #[.slice none 0 0, .int .i64 3]) ∧ Below w.heap.size w w')
set_option maxHeartbeats 400000 in
theorem Pick_any (A A' : Option Addr) (n c m c' : Nat) (bs : List Bool) (l : List Int) (w : World) (hn : n ≤ 1073741824) (hm : m ≤ 1073741824)
    (h : Rd w w.heap.size 1 A n (bs.map Value.bool)) (h' : Rd w w.heap.size 1 A' m (l.map (Value.int .i64))) :
    Calls Try.prog 44 #[.slice A n c, .slice A' m c'] w (PickPost bs l n m w) := by
  have hl : bs.length = n := by have := h.1; simpa using this
  have hl' : l.length = m := by have := h'.1; simpa using this
  have H := Lib.hid h; clear h
  have H' := Lib.hid h'; clear h'
  have HL := Lib.hid hl; clear hl
  have HL' := Lib.hid hl'; clear hl'
  have hmk := fun w => make_bool0 w m (by omega)
  obtain ⟨i0, hi0, hz0, hz1, hz2⟩ := info_parts info_bool
  have HI0 := Lib.hid hi0; have HZ0 := Lib.hid hz0; have HZ1 := Lib.hid hz1; have HZ2 := Lib.hid hz2
  clear hi0 hz0 hz1 hz2
  go_enter Try.func44, Try.ntmps44
  go_wp2
  clear hmk
  go_loopw [6, 14] (fun v i wr => ∃ k : Nat, k ≤ m ∧ i = .int .i64 k ∧ wr.ownsRow w.heap.size 4 1 v k ((pickL bs (l.take k)).map Value.bool) ∧ Below w.heap.size w wr ∧ outB (l.take k) n = false) (fun _ i _ => m - (intOf i).toNat)
  case atStart => exact ⟨0, Nat.zero_le _, rfl, World.ownsRow_made w _ m (Nat.le_refl _) (by simp [maxLen]; omega) (by simp), (Below.refl _ _).alloc (Nat.le_refl _) _, rfl⟩
  case round =>
    obtain ⟨k, hk, rfl, hown, hbw, ho⟩ := hrel
    have hsz := hbw.size
    have HO := Lib.hid ho; clear ho
    by_cases hlt : k < m
    · obtain ⟨b', off', rfl, hb', hc'⟩ := H'.out.2 (by omega)
      have hlk : k < l.length := by rw [HL'.out]; exact hlt
      have h1 : wr.cell? ⟨b', off' + k, none⟩ = some (.int .i64 l[k]) := (hbw.cell (p := ⟨b', off' + k, none⟩) hb').trans (hc' k _ (by simp [hlk]))
      have HS := Lib.hid (outB_snoc (l.take k) n l[k])
      have HP := Lib.hid (pickL_snoc bs (l.take k) l[k])
      rw [← take_snoc _ _ hlk] at HS HP
      rw [HO.out, Bool.false_or] at HS
      have HM : Hid (l[k] < 0 ∨ (n : Int) ≤ l[k] → outB l n = true) := Lib.hid (fun h => outB_mem (List.getElem_mem hlk) h)
      generalize l[k] = x at h1 HS HM HP
      clear hc' hlk
      by_cases h0 : x < 0
      · have HM2 := Lib.hid (HM.out (.inl h0))
        go_wp2
        go_ret2
        exact .inr ⟨HM2.out, rfl, hbw⟩
      · by_cases hx : (n : Int) ≤ x
        · have HM2 := Lib.hid (HM.out (.inr hx))
          go_wp2
          go_ret2
          exact .inr ⟨HM2.out, rfl, hbw⟩
        · have HS2 := Lib.hid (show outB (l.take (k + 1)) n = false by rw [HS.out]; simp [h0, hx])
          obtain ⟨j, rfl⟩ := Int.eq_ofNat_of_zero_le (Int.not_lt.1 h0)
          obtain ⟨b, off, rfl, hb, hc⟩ := H.out.2 (by omega)
          have hjb : j < bs.length := by rw [HL.out]; omega
          have h2 : wr.cell? ⟨b, off + j, none⟩ = some (.bool (bs.getD j false)) := (hbw.cell (p := ⟨b, off + j, none⟩) hb).trans (hc j _ (by simp [hjb]))
          have HP2 : Hid (pickL bs (l.take (k + 1)) = pickL bs (l.take k) ++ [bs.getD j false]) := Lib.hid (by rw [HP.out]; simp)
          clear hc hjb HP HM HS
          generalize bs.getD j false = y at h2 HP2
          go_wp2_with (at_builtin; refine wpList_append_own _ rfl (.tmp 26) (.tmp 31) _ rfl w.heap.size 4 i0 _ 1 1 Try.underlying22 HI0.out HZ0.out HZ1.out HZ2.out rfl (by decide) _ k _ rfl (hown.alloc _) ⟨wr.heap.size, 0, none⟩ 1 1 [.bool _] rfl rfl (cell_one_new _ _ _) (by simp [Value.oneCell']) (by unfold maxLen; omega) (by omega) (by simp; omega) ?_; intro v1 w1 hown1 hg1 _)
          exact ⟨⟨k + 1, by omega, by go_num, by rw [HP2.out]; simpa using hown1, ((hbw.alloc hsz _).grown hg1 (by simp; omega) (fun g hg => (hown.lt g hg).1)), HS2.out⟩, by simp [intOf]; omega⟩
    · go_wp2
      go_ret2
      have e := HO.out
      rw [List.take_of_length_le (by rw [HL'.out]; omega)] at e hown
      obtain rfl : k = m := by omega
      exact .inl ⟨e, RetOwn.of (mk := fun v => .tuple #[v, .int .i64 0]) hown hbw⟩
theorem own_apart {w : World} {base S t sz n : Nat} {v1 v2 : Value} {xs : List Value} (h1 : ∀ k, v1.ownBlock = some k → k < S) (h2 : w.ownsRow base t sz v2 n xs) (hS : S ≤ base) : v2.ownBlock = none ∨ v2.ownBlock ≠ v1.ownBlock := by
  cases hv : v2.ownBlock with
  | none => exact .inl rfl
  | some k => exact .inr fun e => by have := (h2.lt k hv).1; have := h1 k e.symm; omega
end Go.Proofs.Ythmooplhhkafcaa
