/- Contracts of Parse and Text of the reference, and of same. Conditions: as each statement says. -/
import Derived.Test.YthmooplhhkafcaaBuilder
import Derived.Test.YthmooplhhkafcaaZip
namespace Go.Proofs.Ythmooplhhkafcaa
open Go.RowKit
set_option linter.unusedVariables false
set_option linter.unusedSimpArgs false
theorem conv_bytes {w : World} {B n : Nat} {A : Option Addr} (c : Nat) (l : List UInt8) (h : Rd w B 1 A n (Lib.byteCells l)) : (convert 28 9 (.slice A n c)).run Try.prog w = .ok (.string ⟨l.toArray⟩) w := by
  have hl : l.length = n := by have := h.1; simpa [Lib.byteCells] using this
  subst hl
  cases A with
  | some a =>
    refine run_convert_bytes_back w _ _ _ a c l Try.underlying28 Try.underlying5 Try.underlying9 fun j hj => ?_
    obtain ⟨b, off, hA, _, hc⟩ := h.2 (by omega)
    cases hA
    rw [addr_add]
    exact hc j _ (by simp [Lib.byteCells, hj])
  | none =>
    have h0 : l = [] := by
      cases l with
      | nil => rfl
      | cons x l => obtain ⟨b, off, hA, _⟩ := h.2 (by simp); cases hA
    subst h0
    rw [run_convert_bytes_string w _ _ _ _ _ _ Try.underlying28 Try.underlying5 Try.underlying9]
    simp [Conv.bytesToString]
    rfl
theorem same_any (A A' : Option Addr) (n m c c' : Nat) (l l' : List UInt8) (w : World) (B : Nat) (h : Rd w B 1 A n (Lib.byteCells l)) (h' : Rd w B 1 A' m (Lib.byteCells l')) :
    Calls Try.prog 18 #[.slice A n c, .slice A' m c'] w fun e w' => e = .returned (.bool (decide (l = l'))) ∧ w = w' := by
  have h1 := conv_bytes c l h
  have h2 := conv_bytes c' l' h'
  clear h h'
  go_enter Try.func18, Try.ntmps18
  go_wp2
  go_ret
  refine ⟨ret_bool ?_, rfl⟩
  rw [Bool.eq_iff_iff]
  simp
theorem bitsOf_snoc (l : List UInt8) (c : UInt8) : bitsOf (l ++ [c]) = bitsOf l ++ [c == 49] := by simp [bitsOf]
/-- What the reference's Parse returns. -/
def RefParsePost (s : ByteArray) (w : World) (e : Ending) (w' : World) : Prop :=
  (AllBits s.data.toList ∧ RetOwn w 4 1 s.size ((bitsOf s.data.toList).map Value.bool) (fun v => .tuple #[v, .bool true]) e w') ∨
  (¬ AllBits s.data.toList ∧ e = .returned (.tuple #[.slice none 0 0, .bool false]) ∧ Below w.heap.size w w')
set_option maxHeartbeats 1000000 in
theorem refParse_any (s : ByteArray) (w : World) (hs : s.size ≤ 1073741824) :
    Calls Try.prog 77 #[.string s] w (RefParsePost s w) := by
  obtain ⟨i0, hi0, hz0, hz1, hz2⟩ := info_parts info_bool
  have HI0 := Lib.hid hi0; have HZ0 := Lib.hid hz0; have HZ1 := Lib.hid hz1; have HZ2 := Lib.hid hz2
  clear hi0 hz0 hz1 hz2
  go_enter Try.func77, Try.ntmps77
  go_wp2
  go_loopw [4, 5] (fun v i wr => ∃ k : Nat, k ≤ s.size ∧ i = .int .i64 k ∧ wr.ownsRow w.heap.size 4 1 v k ((bitsOf (s.data.toList.take k)).map Value.bool) ∧ Below w.heap.size w wr ∧ AllBits (s.data.toList.take k)) (fun _ i _ => s.size - (intOf i).toNat)
  case atStart => exact ⟨0, Nat.zero_le _, rfl, World.ownsRow_nil _ _ _ _, Below.refl _ _, fun c hc => by simp at hc⟩
  case round =>
    obtain ⟨k, hk, rfl, hown, hbw, hall⟩ := hrel
    have hsz := hbw.size
    have HA := Lib.hid hall; clear hall
    by_cases hlt : k < s.size
    · have hlk : k < s.data.toList.length := by simpa using hlt
      have hT := take_snoc s.data.toList k hlk
      have hM := List.getElem_mem hlk
      obtain ⟨c, hc⟩ : ∃ c, c = s.data.toList[k] := ⟨_, rfl⟩
      rw [← hc] at hT hM
      have hix : ∀ w', (Instr.index 9 (.string s) (.int .i64 k)).run Try.prog w' = .ok (.int .u8 (c.toNat : Int)) w' := by
        intro w'
        rw [run_index_string (h := Try.underlying9), dif_pos ⟨by omega, by omega⟩, hc]
        rfl
      clear hc hlk
      have HT := Lib.hid hT; have HM := Lib.hid hM
      clear hT hM
      by_cases h49 : c = 48 ∨ c = 49
      · have HN : Hid (AllBits (s.data.toList.take (k + 1))) := Lib.hid (by rw [HT.out]; exact HA.out.snoc h49)
        have HB : Hid (bitsOf (s.data.toList.take (k + 1)) = bitsOf (s.data.toList.take k) ++ [c == 49]) := Lib.hid (by rw [HT.out, bitsOf_snoc])
        clear HT HM
        rcases h49 with rfl | rfl
        all_goals
          simp only [show (48 : UInt8).toNat = 48 from rfl, show (49 : UInt8).toNat = 49 from rfl] at hix
          go_wp2_with (at_builtin; refine wpList_append_own _ rfl (.tmp 22) (.tmp 27) _ rfl w.heap.size 4 i0 _ 1 1 Try.underlying22 HI0.out HZ0.out HZ1.out HZ2.out rfl (by decide) _ k _ rfl (hown.alloc _) ⟨wr.heap.size, 0, none⟩ 1 1 [.bool _] rfl rfl (cell_one_new _ _ _) (by simp [Value.oneCell']) (by unfold maxLen; omega) (by omega) (by simp; omega) ?_; intro v1 w1 hown1 hg1 _)
          go_roundw
          case rel => exact ⟨k + 1, by omega, by go_num, by rw [HB.out]; simpa using hown1, ((hbw.alloc hsz _).grown hg1 (by simp; omega) (fun g hg => (hown.lt g hg).1)), HN.out⟩
          case measure => simp [intOf]; omega
      · have hno : Hid (¬ AllBits s.data.toList) := Lib.hid (fun h => h49 (h _ HM.out))
        have h1 : ((c.toNat : Int) != 48) = true := by
          rw [bne_iff_ne]; intro h; exact h49 (.inl (by rw [← UInt8.toNat_inj]; exact_mod_cast h))
        have h2 : ((c.toNat : Int) != 49) = true := by
          rw [bne_iff_ne]; intro h; exact h49 (.inr (by rw [← UInt8.toNat_inj]; exact_mod_cast h))
        clear h49 HT HM
        go_wp2
        go_ret2
        exact .inr ⟨hno.out, rfl, hbw⟩
    · go_wp2
      go_ret2
      have e : s.data.toList.take k = s.data.toList := List.take_of_length_le (by simp; omega)
      have hA := HA.out
      rw [e] at hA hown
      obtain rfl : k = s.size := by omega
      exact .inl ⟨hA, RetOwn.of (mk := fun v => .tuple #[v, .bool true]) hown hbw⟩
/-- A second store into the cell that was filled last. -/
theorem row_over {wi : World} {h j : Nat} {t : TypeId} {xs ys : List Value} {z u : Value} (hh : wi.heap[h]? = some (.cells ((xs ++ [z]) ++ ys).toArray t (0, 0))) (hx : xs.length = j) :
    (wi.setCell ⟨h, j, none⟩ u).heap[h]? = some (.cells ((xs ++ [u]) ++ ys).toArray t (0, 0)) := by
  simp only [World.setCell, Array.getElem?_modify, hh, if_true, Option.map_some, Option.isSome_none, Bool.false_eq_true, if_false]
  congr 2
  apply Array.ext'
  subst hx
  simp
theorem textOf_take {bs : List Bool} {k : Nat} (h : k < bs.length) : Lib.byteCells (textOf (bs.take (k + 1))) = Lib.byteCells (textOf (bs.take k)) ++ [.int .u8 (if bs[k] then 49 else 48)] := by
  rw [take_snoc _ _ h]
  unfold textOf
  rw [List.map_append, List.map_cons, List.map_nil, byteCells_snoc]
  cases bs[k] <;> rfl
end Go.Proofs.Ythmooplhhkafcaa
