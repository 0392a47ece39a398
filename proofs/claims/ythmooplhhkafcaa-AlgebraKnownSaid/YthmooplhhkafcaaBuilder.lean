/- Contracts of strings.Builder's WriteByte and String over this program. Conditions: the builder is one that the call itself has made. -/
import Derived.Test.YthmooplhhkafcaaProg
import Derived.Test.YthmooplhhkafcaaDraw
import Derived.Lib.Builder
import Derived.Shelf.Strings.Builder1
namespace Go.Proofs.Ythmooplhhkafcaa
open Go.RowKit
theorem size_builder : (Try.prog.info? 97).map (·.size) = some 2 := by kernel_rfl

set_option maxHeartbeats 1000000 in
set_option maxRecDepth 100000 in
theorem copyCheck_used (b : Nat) (w : World) (h0 : w.cell? ⟨b, 0, none⟩ = some (.pointer (some ⟨b, 0, none⟩))) :
    Calls Try.prog 84 #[.pointer (some ⟨b, 0, none⟩)] w fun e w' => e = .returned (.tuple #[]) ∧ w' = w := by
  obtain ⟨j, hj, _⟩ := Option.map_eq_some_iff.1 size_builder
  go_enter Try.func84, Try.ntmps84
  go_wp2
  rw [Lib.run_neq_ptr_same w _ Try.underlying95 hj]
  go_wp2
  go_end0
  exact ⟨rfl, rfl⟩

set_option maxHeartbeats 1000000 in
set_option maxRecDepth 100000 in
theorem copyCheck_fresh (b : Nat) (w : World) (h0 : w.cell? ⟨b, 0, none⟩ = some (.pointer none)) (hsh : w.shape? b = some (97, 2)) (hfz : w.frozen? ⟨b, 0, none⟩ = false) :
    Calls Try.prog 84 #[.pointer (some ⟨b, 0, none⟩)] w fun e w' => e = .returned (.tuple #[]) ∧ w' = w.setCell ⟨b, 0, none⟩ (.pointer (some ⟨b, 0, none⟩)) := by
  obtain ⟨j, hj, hjs⟩ := Option.map_eq_some_iff.1 size_builder
  go_enter Try.func84, Try.ntmps84
  go_wp2
  rw [Lib.run_to_unsafe w ⟨b, 0, none⟩ Try.underlying95 Try.underlying150 hj (by rw [hjs]; decide) hsh (Nat.zero_lt_succ 1)]
  simp only [Result.andThen]
  rw [Oper.upon_value]
  go_wp2
  rw [run_callFunc_extern Try.func98 (by kernel_rfl) (by kernel_rfl) (by kernel_rfl) (e := Extern.AbiNoEscape.same) (by kernel_rfl)]
  rw [Lib.run_noEscape]
  simp only [Result.andThen]
  rw [Oper.upon_value]
  go_wp2
  rw [Lib.run_from_unsafe w ⟨b, 0, none⟩ Try.underlying150 Try.underlying95 hj hsh (by kernel_rfl)]
  simp only [Result.andThen]
  rw [Oper.upon_value]
  go_wp2
  go_end0
  exact ⟨rfl, rfl⟩

theorem copyCheck_any (B b : Nat) (bs : List Value) (w : World) (h : Lib.IsBuilder 97 5 B b bs w) :
    Calls Try.prog 84 #[.pointer (some ⟨b, 0, none⟩)] w fun e w' => e = .returned (.tuple #[]) ∧ (Lib.BuilderAt 97 5 B b (.pointer (some ⟨b, 0, none⟩)) bs w' ∧ Below B w w') := by
  rcases h with h | h
  · refine (copyCheck_fresh b w h.cell0 h.shape h.frozen0).mono ?_
    rintro e w' ⟨rfl, rfl⟩
    exact ⟨rfl, h.used _, (Below.refl B w).setCell (p := ⟨b, 0, none⟩) h.1 _⟩
  · refine (copyCheck_used b w h.cell0).mono ?_
    rintro e w' ⟨rfl, rfl⟩
    exact ⟨rfl, h, Below.refl B _⟩

set_option maxHeartbeats 1000000 in
set_option maxRecDepth 100000 in
theorem WriteByte_any (B b : Nat) (bs : List Value) (c : Int) (w : World) (h : Lib.IsBuilder 97 5 B b bs w) (hlen : bs.length + 1 ≤ 1073741824) (hBw : B ≤ w.heap.size) :
    Calls Try.prog 53 #[.pointer (some ⟨b, 0, none⟩), .int .u8 c] w fun e w' => e = .returned .nilIface ∧ (Lib.BuilderAt 97 5 B b (.pointer (some ⟨b, 0, none⟩)) (bs ++ [.int .u8 c]) w' ∧ Below B w w') := by
  obtain ⟨i0, hi, hz0, hz1, hz2⟩ := info_parts info_u8
  go_enter Try.func53, Try.ntmps53
  go_wp2_with (go_at_call 84; refine (copyCheck_any B b bs _ h).mono ?_)
  rintro e w1 ⟨rfl, h1, hb1⟩
  obtain ⟨hB, v, hbk, hown, hne⟩ := h1
  have c0 : w1.cell? ⟨b, 0, none⟩ = some (.pointer (some ⟨b, 0, none⟩)) := by rw [Lib.cell_of_heap hbk]; rfl
  have c1 : w1.cell? ⟨b, 1, none⟩ = some v := by rw [Lib.cell_of_heap hbk]; rfl
  go_wp2_with (at_builtin; refine wpList_append_own _ rfl _ _ 28 rfl B 5 i0 (.int .u8 0) 1 1 Try.underlying28 hi hz0 hz1 hz2 rfl (by decide) _ _ _ rfl (hown.alloc _) ⟨w1.heap.size, 0, none⟩ 1 1 [.int .u8 c] rfl rfl (cell_one_new _ _ _) (by simp [Value.oneCell']) (by unfold maxLen; omega) (by omega) (by have := hb1.size; simp; omega) ?_)
  intro v' w2 hown' hgrow _
  have hlt : b < w1.heap.size := by
    rcases Nat.lt_or_ge b w1.heap.size with h' | h'
    · exact h'
    · simp [Array.getElem?_eq_none h'] at hbk
  have hb2 : w2.heap[b]? = some (.cells #[.pointer (some ⟨b, 0, none⟩), v] 97 (0, 0)) := by
    rw [hgrow.block b (by simp; omega) (fun e => hne e.symm), Lib.alloc_old w1 _ b hlt]
    exact hbk
  have d0 : w2.cell? ⟨b, 0, none⟩ = some (.pointer (some ⟨b, 0, none⟩)) := by rw [Lib.cell_of_heap hb2]; rfl
  have d1 : w2.cell? ⟨b, 1, none⟩ = some v := by rw [Lib.cell_of_heap hb2]; rfl
  have f1 : w2.frozen? ⟨b, 1, none⟩ = false := Lib.frozen_of_heap hb2 1
  obtain ⟨g, cap, rfl⟩ : ∃ g cap, v' = .slice (some ⟨g, 0, none⟩) (bs.length + 1) cap := by
    rcases hown'.2 with ⟨_, h0⟩ | ⟨g, cap, cur, hv, _⟩
    · omega
    · exact ⟨g, cap, hv⟩
  go_wp2
  go_ret
  refine ⟨rfl, ?_, ?_⟩
  · exact Lib.BuilderAt.put (T := 97) (e := 5) hB hb2 (bs' := bs ++ [.int .u8 c]) (by simpa using hown') (by decide)
  · exact (((hb1.alloc (by have := hb1.size; omega) _).grown hgrow (by have := hb1.size; simp; omega) (fun k hk => (hown.lt k hk).1))).setCell (p := ⟨b, 1, none⟩) hB _

def strRen : Go.Shelf.Ren := ⟨fun | 169 => 54 | n => n, fun | 70 => 95 | 9 => 9 | 0 => 0 | 72 => 97 | 37 => 28 | 127 => 137 | 3 => 3 | 5 => 5 | n => n, fun | n => n⟩
theorem strLays : Go.Proofs.Lays.n169 Try.prog strRen := {
  mixed := by kernel_rfl
  f169 := Try.func54.trans (congrArg some (by kernel_rfl))
  t0 := Try.underlying0
  a0 := Try.isAgg0
  z0 := Try.sizeOf0
  v0 := Try.zeroValue0
  t3 := Try.underlying3
  a3 := Try.isAgg3
  z3 := Try.sizeOf3
  v3 := Try.zeroValue3
  t9 := Try.underlying9
  a9 := Try.isAgg9
  z9 := Try.sizeOf9
  v9 := Try.zeroValue9
  t37 := Try.underlying28
  a37 := Try.isAgg28
  z37 := Try.sizeOf28
  v37 := Try.zeroValue28
  t70 := Try.underlying95
  a70 := Try.isAgg95
  z70 := Try.sizeOf95
  v70 := Try.zeroValue95
  t72 := Try.underlying97
  a72 := Try.isAgg97
  z72 := Try.sizeOf97
  v72 := Try.zeroValue97
  t127 := Try.underlying137
  a127 := Try.isAgg137
  z127 := Try.sizeOf137
  v127 := Try.zeroValue137 }
theorem strExtra : Builder.Extra Try.prog strRen := {
  sizeBuilder := by kernel_rfl
  liesBuilder := by kernel_rfl
  t5 := Try.underlying5
  a5 := Try.isAgg5
  z5 := Try.sizeOf5
  v5 := Try.zeroValue5
  infoByte := by kernel_rfl
  cellsByte := by kernel_rfl
  sizeByte := by kernel_rfl
  neB5 := by decide }
theorem String_any (B b : Nat) (l : List UInt8) (w : World) (h : Lib.IsBuilder 97 5 B b (Lib.byteCells l) w) (hBw : B ≤ w.heap.size) :
    Calls Try.prog 54 #[.pointer (some ⟨b, 0, none⟩)] w fun e w' => e = .returned (.string ⟨l.toArray⟩) ∧ Below B w w' := Any.Builder_String_any strLays strExtra B b l w h hBw
end Go.Proofs.Ythmooplhhkafcaa
/- Contracts of the functions that turn bit strings into texts, numbers and bytes, and back. Conditions: as each statement says. -/
namespace Go.Proofs.Ythmooplhhkafcaa
open Go.RowKit

/-- The bits of the bytes 48 and 49. -/
def bitsOf (l : List UInt8) : List Bool := l.map fun c => c == 49
def AllBits (l : List UInt8) : Prop := ∀ c ∈ l, c = 48 ∨ c = 49


theorem AllBits.snoc {l : List UInt8} {c : UInt8} (h : AllBits l) (hc : c = 48 ∨ c = 49) : AllBits (l ++ [c]) := by
  intro x hx
  rcases List.mem_append.1 hx with h1 | h1
  · exact h x h1
  · simp at h1; subst h1; exact hc
/-- What Parse returns: the bits, or an error. -/
def ParsePost (s : ByteArray) (w : World) (e : Ending) (w' : World) : Prop :=
  (AllBits s.data.toList ∧ RetOwn w 4 1 s.size ((bitsOf s.data.toList).map Value.bool) (fun v => .tuple #[v, .int .i64 0]) e w') ∨
  (¬ AllBits s.data.toList ∧ e = .returned (.tuple #[.slice none 0 0, .int .i64 6]) ∧ Below w.heap.size w w')
def ParseRel (s : ByteArray) (w : World) (v : Value) (wr : World) : Prop :=
  ∃ pos, pos ≤ s.size ∧ v = .slice (some ⟨w.heap.size, 0, none⟩) pos s.size ∧ wr.heap[w.heap.size + 1]? = some (.stringIter s pos) ∧
    wr.ownsRow w.heap.size 4 1 (.slice (some ⟨w.heap.size, 0, none⟩) pos s.size) pos ((bitsOf (s.data.toList.take pos)).map Value.bool) ∧ Below w.heap.size w wr ∧ AllBits (s.data.toList.take pos)
theorem parse_step {s : ByteArray} {w wr w1 : World} {pos : Nat} {c : UInt8} (hp : pos < s.size) (hc : s.data.toList[pos]? = some c) (h : c = 48 ∨ c = 49)
    (hit : wr.heap[w.heap.size + 1]? = some (.stringIter s pos)) (hbw : Below w.heap.size w wr) (hall : AllBits (s.data.toList.take pos)) (o : Obj)
    (hown1 : w1.ownsRow w.heap.size 4 1 (.slice (some ⟨w.heap.size, 0, none⟩) (pos + 1) s.size) (pos + 1) ((bitsOf (s.data.toList.take pos)).map Value.bool ++ [.bool (c == 49)]))
    (hg : ((wr.iterAt (w.heap.size + 1) s (pos + 1)).alloc o).grownBy w1 (some w.heap.size)) :
    ParseRel s w (.slice (some ⟨w.heap.size, 0, none⟩) (pos + 1) s.size) w1 ∧ w1.iterPos (w.heap.size + 1) = pos + 1 := by
  have hlt : pos < s.data.toList.length := by simpa using hp
  have e : s.data.toList.take (pos + 1) = s.data.toList.take pos ++ [c] := by
    rw [take_snoc _ _ hlt]
    rw [List.getElem?_eq_getElem hlt] at hc
    rw [Option.some.inj hc]
  have hk : w.heap.size + 1 < wr.heap.size := (Array.getElem?_eq_some_iff.1 hit).1
  have hi2 : (wr.iterAt (w.heap.size + 1) s (pos + 1)).heap[w.heap.size + 1]? = some (.stringIter s (pos + 1)) := Lib.iterAt_heap _ _ _ _ _ hit
  have hsz := Lib.iterAt_size wr (w.heap.size + 1) s (pos + 1)
  have hi3 : w1.heap[w.heap.size + 1]? = some (.stringIter s (pos + 1)) := by
    rw [hg.block _ (by simp; omega) (by simp)]
    rw [Below.heap_alloc _ _ _ (by rw [hsz]; exact hk)]
    exact hi2
  refine ⟨⟨pos + 1, hp, rfl, hi3, ?_, ?_, ?_⟩, iterPos_of hi3⟩
  · rw [e]; simpa [bitsOf] using hown1
  · exact ((Lib.below_iterAt hbw (by omega) s _).alloc (by rw [hsz]; omega) o).grown hg (by simp; omega) (fun k hk => by cases hk; exact Nat.le_refl _)
  · rw [e]; exact hall.snoc h

set_option maxHeartbeats 400000 in
theorem Parse_any (s : ByteArray) (w : World) (hs : s.size ≤ 1073741824) :
    Calls Try.prog 13 #[.string s] w (ParsePost s w) := by
  have hmk := fun w => make_bool0 w s.size (by omega)
  obtain ⟨i0, hi, hz0, hz1, hz2⟩ := info_parts info_bool
  have HI := Lib.hid hi; clear hi
  have HZ := Lib.hid hz1; clear hz0 hz1 hz2
  go_enter Try.func13, Try.ntmps13
  go_wp2
  clear hmk
  go_loopw [4] (fun v wr => ParseRel s w v wr) (fun _ wr => s.size - wr.iterPos (w.heap.size + 1))
  case atStart =>
    refine ⟨0, Nat.zero_le _, rfl, ?_, ?_, ?_, fun c hc => by simp at hc⟩
    · have h := heap_alloc_new (w.alloc (.cells (Array.replicate s.size (.bool false)) 4)) (.stringIter s 0)
      rw [World.size_alloc] at h
      exact h
    · exact (World.ownsRow_made w _ s.size (Nat.le_refl _) (by simp [maxLen]; omega) (by simp)).alloc _
    · exact ((Below.refl _ _).alloc (Nat.le_refl _) _).alloc (by simp) _
  case round =>
    obtain ⟨pos, hpos, rfl, hit, hown, hbw, hall⟩ := hrel
    have HA := Lib.hid hall; clear hall
    have HIT := Lib.hid hit
    have hip := iterPos_of hit
    have HIP := Lib.hid hip; clear hip
    by_cases hp : pos < s.size
    · have hlt : pos < s.data.toList.length := by simpa using hp
      by_cases h49 : s[pos] = 48 ∨ s[pos] = 49
      · have hnx := fun ty => Lib.run_next_ascii_at (P := Try.prog) wr (w.heap.size + 1) s pos ty hit hp (by rcases h49 with h | h <;> rw [h] <;> decide)
        have hown2 := (hown.kept (grown_iterAt wr (w.heap.size + 1) s (pos + 1)) (.inr (by simp [Value.ownBlock])))
        have hgc : Hid (s.data.toList[pos]? = some s[pos]) := Lib.hid (by rw [List.getElem?_eq_getElem hlt]; rfl)
        generalize s[pos] = c at hnx h49 hgc
        clear hit hlt
        rcases h49 with rfl | rfl
        all_goals
          simp only [show (48 : UInt8).toNat = 48 from rfl, show (49 : UInt8).toNat = 49 from rfl] at hnx
          go_wp2_with (at_builtin; refine wpList_append_fits _ rfl (.tmp 21) (.tmp 24) _ rfl w.heap.size 4 i0 1 Try.underlying22 HI.out HZ.out w.heap.size pos s.size _ rfl (hown2.alloc _) _ 1 1 [.bool _] rfl rfl (cell_one_new _ _ _) (by simp [Value.oneCell']) (by omega) ?_; intro w1 hown1 hg1)
          have R := parse_step hp hgc.out (by simp) HIT.out hbw HA.out _ hown1 hg1
          exact ⟨R.1, by rw [R.2, HIP.out]; omega⟩
      · have hnx : ∃ (r p' : Nat), (∀ ty, (Instr.next (.pointer (some ⟨w.heap.size + 1, 0, none⟩)) true ty).run Try.prog wr = .ok (.tuple #[.bool true, .int .i64 pos, .int .i32 r]) (wr.iterAt (w.heap.size + 1) s p')) ∧ r ≠ 48 ∧ r ≠ 49 := by
          rcases Nat.lt_or_ge (s[pos]).toNat 128 with hlo | hhi
          · refine ⟨(s[pos]).toNat, pos + 1, fun ty => Lib.run_next_ascii_at (P := Try.prog) wr (w.heap.size + 1) s pos ty hit hp hlo, ?_, ?_⟩
            · intro h; exact h49 (.inl (by rw [← UInt8.toNat_inj]; exact h))
            · intro h; exact h49 (.inr (by rw [← UInt8.toNat_inj]; exact h))
          · have hd := (decode_high s pos hp hhi).1
            exact ⟨(Utf8.decode s pos).1, _, fun ty => Lib.run_next_any_at (P := Try.prog) wr (w.heap.size + 1) s pos ty hit hp, by omega, by omega⟩
        have hno : Hid (¬ AllBits s.data.toList) := Lib.hid (fun h => h49 (h _ (by rw [show s[pos] = s.data.toList[pos] from rfl]; exact List.getElem_mem hlt)))
        obtain ⟨r, p', hnx, h48, h49'⟩ := hnx
        have h1 : ((r : Int) != 48) = true := by rw [bne_iff_ne]; omega
        have h2 : ((r : Int) != 49) = true := by rw [bne_iff_ne]; omega
        clear hit hlt h49 h48 h49'
        go_wp2
        go_ret2
        exact .inr ⟨hno.out, rfl, Lib.below_iterAt hbw (by omega) s _⟩
    · have hnx := fun ty => Lib.run_next_end_at (P := Try.prog) wr (w.heap.size + 1) s pos ty hit hp
      go_wp2
      go_ret2
      have e : s.data.toList.take pos = s.data.toList := List.take_of_length_le (by simp; omega)
      have hA := HA.out
      have e2 : pos = s.size := by omega
      rw [e] at hA hown
      rw [e2] at hown ⊢
      exact .inl ⟨hA, _, _, rfl, Nat.le_refl _, hown, hbw⟩

/-- The text of some bits. -/
def textOf (l : List Bool) : List UInt8 := l.map fun b => if b then 49 else 48
theorem byteCells_snoc (l : List UInt8) (c : UInt8) : Lib.byteCells (l ++ [c]) = Lib.byteCells l ++ [.int .u8 (c.toNat : Int)] := by simp [Lib.byteCells]
def TextRel (bs : List Bool) (n : Nat) (w : World) (i : Value) (wr : World) : Prop :=
  ∃ k : Nat, k ≤ n ∧ i = .int .i64 k ∧ Lib.IsBuilder 97 5 w.heap.size w.heap.size (Lib.byteCells (textOf (bs.take k))) wr ∧ Below w.heap.size w wr

set_option maxHeartbeats 400000 in
theorem Text_any (A : Option Addr) (n c : Nat) (bs : List Bool) (w : World) (hn : n ≤ 1073741823) (h : Rd w w.heap.size 1 A n (bs.map Value.bool)) :
    Calls Try.prog 14 #[.slice A n c] w fun e w' => e = .returned (.string ⟨(textOf bs).toArray⟩) ∧ Below w.heap.size w w' := by
  have hl : bs.length = n := by have := h.1; simpa using this
  have H := Lib.hid h; clear h
  have HL := Lib.hid hl; clear hl
  go_enter Try.func14, Try.ntmps14
  go_wp2
  go_loopw [8] (fun i wr => TextRel bs n w i wr) (fun i _ => n - (intOf i).toNat)
  case atStart => exact ⟨0, Nat.zero_le _, rfl, Lib.fresh_isBuilder _ _ w, (Below.refl _ _).alloc (Nat.le_refl _) _⟩
  case round =>
    obtain ⟨k, hk, rfl, hI, hbw⟩ := hrel
    have hsz := hbw.size
    by_cases hlt : k < n
    · obtain ⟨b, off, rfl, hb, hc⟩ := H.out.2 (by omega)
      have hlk : k < bs.length := by rw [HL.out]; exact hlt
      have hcell : wr.cell? ⟨b, off + k, none⟩ = some (.bool bs[k]) := (hbw.cell (p := ⟨b, off + k, none⟩) hb).trans (hc k _ (by simp [hlk]))
      have HS := Lib.hid (take_snoc bs k hlk)
      have hlen : (Lib.byteCells (textOf (bs.take k))).length + 1 ≤ 1073741824 := by simp [Lib.byteCells, textOf]; omega
      clear hc
      generalize bs[k] = x at hcell HS
      clear hlk
      cases x
      all_goals
        go_wp2_with (go_at_call 53; refine (WriteByte_any _ _ _ _ _ hI hlen hsz).mono ?_; rintro e w1 ⟨rfl, hI1, hb1⟩)
        go_round
        case rel =>
          refine ⟨k + 1, by omega, by go_num, ?_, hbw.trans hb1⟩
          rw [HS.out]
          simp only [textOf, List.map_append, List.map_cons, List.map_nil, if_true, if_false, Bool.false_eq_true]
          rw [byteCells_snoc]
          exact .inr hI1
        case measure => simp [intOf]; omega
    · go_wp2_with (go_at_call 54; refine (String_any _ _ _ _ hI hsz).mono ?_; rintro e w1 ⟨rfl, hb1⟩)
      go_ret
      refine ⟨?_, hbw.trans hb1⟩
      rw [List.take_of_length_le (by rw [HL.out]; omega)]
      rfl
end Go.Proofs.Ythmooplhhkafcaa
