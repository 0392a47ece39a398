/- Contracts of Pack (program and reference). Conditions: as each statement says. -/
import Derived.Test.YtdgmjedkhjeadaaGreatForms2
import Derived.Test.YtdgmjedkhjeadaaGreatTail
import Derived.Test.YtdgmjedkhjeadaaGreatField
import Derived.Test.YtdgmjedkhjeadaaGreatBase
namespace Go.Proofs.YtdgmjedkhjeadaaGreat
open Go.RowKit
set_option linter.unusedVariables false
set_option linter.unusedSimpArgs false
/-- Byte j of the first k bits. -/
def pv (bs : List Bool) : Nat → Nat → Nat
  | 0, _ => 0
  | k + 1, j => pv bs k j + if bs.getD k false = true ∧ k / 8 = j then 2 ^ (7 - k % 8) else 0
theorem pv_zero (bs : List Bool) (j : Nat) : ∀ k, (∀ i, i < k → i / 8 ≠ j) → pv bs k j = 0
  | 0, _ => rfl
  | k + 1, h => by
    simp only [pv]
    rw [pv_zero bs j k fun i hi => h i (by omega), if_neg fun e => h k (by omega) e.2]
theorem pv_form (bs : List Bool) : ∀ k, ∃ q, pv bs k (k / 8) = q * 2 ^ (8 - k % 8) ∧ q < 2 ^ (k % 8)
  | 0 => ⟨0, rfl, by decide⟩
  | k + 1 => by
    obtain ⟨q, hq, hq2⟩ := pv_form bs k
    by_cases h7 : k % 8 = 7
    · refine ⟨0, ?_, Nat.two_pow_pos _⟩
      rw [pv_zero _ _ _ fun i hi => by omega, Nat.zero_mul]
    · have e1 : (k + 1) / 8 = k / 8 := by omega
      have e2 : (k + 1) % 8 = k % 8 + 1 := by omega
      have e3 : 8 - k % 8 = (7 - k % 8) + 1 := by omega
      rw [e1, e2]
      simp only [pv]
      rw [hq, e3, Nat.pow_succ, show 8 - (k % 8 + 1) = 7 - k % 8 by omega, Nat.pow_succ]
      generalize 2 ^ (7 - k % 8) = P
      by_cases hb : bs.getD k false = true
      · rw [if_pos (by first | exact ⟨hb, rfl⟩ | exact ⟨hb, True.intro⟩ | exact hb)]
        exact ⟨2 * q + 1, by rw [Nat.add_mul, Nat.one_mul, Nat.mul_comm P 2, ← Nat.mul_assoc, Nat.mul_comm q 2], by omega⟩
      · rw [if_neg (fun e => hb (by first | exact e.1 | exact e))]
        exact ⟨2 * q, by rw [Nat.add_zero, Nat.mul_comm P 2, ← Nat.mul_assoc, Nat.mul_comm q 2], by omega⟩
theorem pv_or (bs : List Bool) (k : Nat) : pv bs k (k / 8) ||| 2 ^ (7 - k % 8) = pv bs k (k / 8) + 2 ^ (7 - k % 8) := by
  obtain ⟨q, hq, _⟩ := pv_form bs k
  rw [hq, Nat.mul_comm]
  have hlt : 2 ^ (7 - k % 8) < 2 ^ (8 - k % 8) := Nat.pow_lt_pow_right (by decide) (by omega)
  exact (Nat.two_pow_add_eq_or_of_lt hlt q).symm
theorem pv_sum_lt (bs : List Bool) (k : Nat) : pv bs k (k / 8) + 2 ^ (7 - k % 8) < 256 := by
  obtain ⟨q, hq, hq2⟩ := pv_form bs k
  rw [hq]
  have e3 : 8 - k % 8 = (7 - k % 8) + 1 := by omega
  have e4 : 2 ^ (k % 8) * 2 ^ (8 - k % 8) = 256 := by rw [← Nat.pow_add, show k % 8 + (8 - k % 8) = 8 by omega]
  have h1 : (q + 1) * 2 ^ (8 - k % 8) ≤ 256 := by rw [← e4]; exact Nat.mul_le_mul_right _ hq2
  rw [Nat.add_mul, Nat.one_mul] at h1
  have h2 : 2 ^ (7 - k % 8) < 2 ^ (8 - k % 8) := Nat.pow_lt_pow_right (by decide) (by omega)
  omega
def packRow (bs : List Bool) (N k : Nat) : Obj := .cells ((List.range N).map fun j => Value.int .u8 (pv bs k j)).toArray 5 (0, 0)
theorem packRow_cell {w : World} {h N k j : Nat} {bs : List Bool} (hh : w.heap[h]? = some (packRow bs N k)) (hj : j < N) : w.cell? ⟨h, j, none⟩ = some (.int .u8 (pv bs k j)) := by
  rw [cell_of_row _ _ _ _ _ _ hh]
  simp [hj]
theorem packRow_frozen {w : World} {h N k j : Nat} {bs : List Bool} (hh : w.heap[h]? = some (packRow bs N k)) : w.frozen? ⟨h, j, none⟩ = false := by simp [World.frozen?, hh, packRow]
theorem packRow_no {bs : List Bool} {N k : Nat} (hb : bs.getD k false = false) : packRow bs N (k + 1) = packRow bs N k := by
  unfold packRow
  congr 2
  apply List.map_congr_left
  intro j _
  simp only [pv, hb]
  simp
theorem packRow_set {w : World} {h N k : Nat} {bs : List Bool} (hh : w.heap[h]? = some (packRow bs N k)) (hb : bs.getD k false = true) (hj : k / 8 < N) :
    (w.setCell ⟨h, k / 8, none⟩ (.int .u8 ((pv bs k (k / 8) + 2 ^ (7 - k % 8) : Nat) : Int))).heap[h]? = some (packRow bs N (k + 1)) := by
  simp only [packRow] at hh ⊢
  rw [heap_setCell_same w h _ _ _ _ hh]
  congr 2
  apply Array.ext'
  apply List.ext_getElem
  · simp
  · intro i h1 h2
    have hi : i < N := by simpa using h2
    simp only [Array.toList_setIfInBounds, List.getElem_set, List.getElem_map, List.getElem_range, pv]
    by_cases e : k / 8 = i
    · subst e
      rw [if_pos rfl, if_pos ⟨hb, rfl⟩]
    · rw [if_neg e, if_neg fun h => e h.2, Nat.add_zero]
theorem packRow_zero (bs : List Bool) (N : Nat) : packRow bs N 0 = .cells (Array.replicate N (Value.int .u8 0)) 5 (0, 0) := by
  unfold packRow
  congr 1
  apply Array.ext'
  apply List.ext_getElem
  · simp
  · intro i h1 h2; simp [pv]
/-- The bytes of a bit string. -/
def packL (bs : List Bool) : List UInt8 := (List.range ((bs.length + 7) / 8)).map fun j => UInt8.ofNat (pv bs bs.length j)
theorem pv_lt (bs : List Bool) (j : Nat) : ∀ k, pv bs k j < 256
  | 0 => by simp [pv]
  | k + 1 => by
    simp only [pv]
    have h := pv_lt bs j k
    by_cases e : k / 8 = j
    · subst e
      have := pv_sum_lt bs k
      split <;> omega
    · rw [if_neg fun h => e h.2]; omega
theorem packRow_bytes {wi : World} {h N k : Nat} {bs : List Bool} (hk : bs.length = k ∧ N = (k + 7) / 8) (hh : wi.heap[h]? = some (packRow bs N k)) :
    wi.heap[h]? = some (.cells (Lib.byteCells (packL bs)).toArray 5 (0, 0)) := by
  obtain ⟨rfl, rfl⟩ := hk
  rw [hh]
  unfold packRow packL Lib.byteCells
  rw [List.map_map]
  congr 3
  apply List.map_congr_left
  intro j _
  have := pv_lt bs j bs.length
  simp only [Function.comp, UInt8.toNat_ofNat']
  rw [Nat.mod_eq_of_lt this]
set_option maxRecDepth 100000 in
set_option maxHeartbeats 1000000 in
theorem Pack_any (A : Option Addr) (n c : Nat) (bs : List Bool) (w : World) (hn : n ≤ 1073741824) (h : Rd w w.heap.size 1 A n (bs.map Value.bool)) :
    Calls Tryz.prog 92 #[.slice A n c] w (RetOwn w 5 1 ((n + 7) / 8) (Lib.byteCells (packL bs)) id) := by
  have hl : bs.length = n := by have := h.1; simpa using this
  have H := Lib.hid h; clear h
  have HL := Lib.hid hl; clear hl
  obtain ⟨N, hN⟩ : ∃ N, N = (n + 7) / 8 := ⟨_, rfl⟩
  have hNi : ((n : Int) + 7) / 8 = (N : Int) := by omega
  have hN2 : N ≤ 1073741824 := by omega
  rw [← hN]
  have HN := Lib.hid hN; clear hN
  have hmk := fun w => make_u8 w N (by omega)
  go_enter Tryz.func92, Tryz.ntmps92
  go_wp2
  clear hmk hNi
  go_loopw [13] (fun i wr => ∃ k : Nat, k ≤ n ∧ i = .int .i64 k ∧ wr.heap[w.heap.size]? = some (packRow bs N k) ∧ Below w.heap.size w wr) (fun i _ => n - (intOf i).toNat)
  case atStart => exact ⟨0, Nat.zero_le _, rfl, by rw [packRow_zero]; simpa using heap_alloc_new w _, (Below.refl _ _).alloc (Nat.le_refl _) _⟩
  case round =>
    obtain ⟨k, hk, rfl, hrow, hbw⟩ := hrel
    have HR := Lib.hid hrow; clear hrow
    by_cases hlt : k < n
    · obtain ⟨b, off, rfl, hb, hc⟩ := H.out.2 (by omega)
      have hkb : k < bs.length := by rw [HL.out]; exact hlt
      have h1 : wr.cell? ⟨b, off + k, none⟩ = some (.bool (bs.getD k false)) := (hbw.cell (p := ⟨b, off + k, none⟩) hb).trans (hc k _ (by simp [hkb]))
      clear hc hkb
      cases hx : bs.getD k false with
      | false =>
        rw [hx] at h1
        have HP := Lib.hid (packRow_no (N := N) hx)
        clear hx
        go_wp2
        exact ⟨⟨k + 1, by omega, by go_num, by rw [HP.out]; exact HR.out, hbw⟩, by simp [intOf]; omega⟩
      | true =>
        rw [hx] at h1
        have hj : k / 8 < N := by have := HN.out; omega
        have HS := Lib.hid (packRow_set HR.out hx hj)
        have h2 := packRow_cell HR.out hj
        have h3 := packRow_frozen (j := k / 8) HR.out
        have HO := Lib.hid (pv_or bs k)
        have HL2 := Lib.hid (pv_sum_lt bs k)
        have f1 : IntKind.i64.wrap ((k : Int) / 8) = ((k / 8 : Nat) : Int) := by
          rw [show (k : Int) / 8 = ((k / 8 : Nat) : Int) by omega]; exact i64_small (k / 8) (by omega)
        have f2 : (k : Int) % 8 = ((k % 8 : Nat) : Int) := by omega
        have f3 : Int.tmod (k : Int) 8 = ((k % 8 : Nat) : Int) := by rw [Int.tmod_eq_emod_of_nonneg (by omega)]; omega
        have f4 : IntKind.i64.wrap ((k % 8 : Nat) : Int) = ((k % 8 : Nat) : Int) := i64_small (k % 8) (by omega)
        have hr8 : k % 8 < 8 := Nat.mod_lt _ (by decide)
        clear hx
        generalize pv bs k (k / 8) = p at HS h2 HO HL2
        generalize k / 8 = J at HS h2 h3 f1 hj
        generalize k % 8 = R at HS HO HL2 f2 f3 f4 hr8
        have HV : Hid (bits .or .u8 (p : Int) (128 / 2 ^ R) = ((p + 2 ^ (7 - R) : Nat) : Int)) := Lib.hid (by
          have e : (128 : Int) / 2 ^ R = ((2 ^ (7 - R) : Nat) : Int) := by
            rcases (show R = 0 ∨ R = 1 ∨ R = 2 ∨ R = 3 ∨ R = 4 ∨ R = 5 ∨ R = 6 ∨ R = 7 by omega) with h | h | h | h | h | h | h | h <;> subst h <;> decide
          have hq := HL2.out
          rw [e, u8_or_nat p (2 ^ (7 - R)) (Nat.lt_of_le_of_lt (Nat.le_add_right _ _) hq) (Nat.lt_of_le_of_lt (Nat.le_add_left _ _) hq), HO.out])
        clear HO HL2
        go_wp2
        refine wp_region_quiet_tail 10 (by kernel_rfl) (by kernel_rfl) ?_
        simp only [List.take_succ_cons, List.take_zero, List.drop_succ_cons, List.drop_zero]
        repeat (quiet_step (fail))
        refine wpQuiet_nil ?_
        intro _ hw'
        obtain ⟨nq, hw''⟩ := hw'
        subst hw''
        go_wp2
        go_roundw
        case rel =>
          refine ⟨k + 1, by omega, by go_num, ?_, ((Qw.drewN (Qw.refl wr) nq).below _ |> hbw.trans).setCell (p := ⟨w.heap.size, J, none⟩) (Nat.le_refl _) _⟩
          show (wr.setCell _ _).heap[_]? = _
          rw [HV.out]
          exact HS.out
        case measure => simp [intOf]; omega
    · obtain rfl : k = n := by omega
      have h5 := HR.out
      go_wp2
      go_ret
      refine RetOwn.of (mk := id) (own_of_row (packRow_bytes ?_ h5) (by simp [Lib.byteCells, packL, HL.out, HN.out]) (Nat.le_refl _) (by simp [maxLen]; omega)) hbw
      rw [HL.out]
      exact ⟨rfl, HN.out⟩
/-- Bit i of bytes. -/
def bitU (p : List Nat) (i : Nat) : Bool := (p.getD (i / 8) 0 / 2 ^ (7 - i % 8)) % 2 == 1
def unL (p : List Nat) (k : Nat) : List Bool := (List.range k).map (bitU p)
def okU (p : List Nat) (n k : Nat) : Bool := (List.range k).all fun i => decide (i < n) || !bitU p i
theorem unL_len (p : List Nat) (k : Nat) : (unL p k).length = k := by simp [unL]
theorem unL_snoc (p : List Nat) (k : Nat) : unL p (k + 1) = unL p k ++ [bitU p k] := by simp [unL, List.range_succ]
/-- The bits of bytes, if there are so many and the rest is false. -/
def unpB (b : List Nat) (n : Nat) : Option (List Bool) := if (n + 7) / 8 = b.length ∧ okU b n (8 * b.length) = true then some (unL b n) else none
def partS (s : Sec) (i j : Nat) : List Nat := (s.drop i).take (j - i)
/-- The record that a sector bears. -/
def bearsR (s : Sec) (n : Nat) : Option Rc :=
  let size := s.getD 9 0
  let kind := s.getD 8 0
  let p := partS s 10 (10 + size)
  let r0 : Rc := ⟨beV (s.take 4), kind, beV (p.take 4), 0, 0, []⟩
  if 46 < size then none
  else if kind ≠ 2 ∧ size < 4 then none
  else
    let r : Option Rc :=
      if kind = 1 then
        (let a := beV (partS p 4 6); let bits := p.drop 6
         if size < 6 ∨ a < 1 ∨ 512 < a ∨ (unpB bits (min a 320)).isNone then none else some { r0 with a := a, bits := bits })
      else if kind = 2 then (if size < 1 ∨ 24 < size then none else some { r0 with id := 0, bits := p })
      else if kind = 3 then (if size ≠ 8 then none else some { r0 with a := beV (partS p 4 6), b := beV (partS p 6 8) })
      else if kind = 4 then some r0
      else if kind = 5 then (if size ≠ 5 ∨ 1 < p.getD 4 0 then none else some { r0 with a := p.getD 4 0 })
      else none
    match r with
    | none => none
    | some r => if (kind ≠ 2 ∧ ((r.id < 1 ∧ kind ≠ 5) ∨ 2147483647 < r.id)) ∨ r.epoch < 1 ∨ secR r n ≠ s then none else some r
/-- A key of a store. -/
structure Ky where
  id : Nat
  bits : List Bool
  used : List Bool
/-- What a journal says. -/
structure Jn where
  keys : List Ky
  last : Nat
  ready : Bool
  age : Nat
  side : Nat
  place : Nat
  tail : Rc
def rc0 : Rc := ⟨0, 0, 0, 0, 0, []⟩
def Jn.zero (place : Nat) : Jn := ⟨[], 0, false, 0, 0, place, rc0⟩
def Jn.add (j : Jn) (id n : Nat) (b : List Nat) : Option Jn := (unpB b n).map fun bits => { j with keys := j.keys ++ [⟨id, bits, List.replicate n false⟩] }
def findK (l : List Ky) (id : Nat) : Option Nat := l.findIdx? fun k => k.id == id
def markU (u : List Bool) (a b : Nat) : List Bool := u.take a ++ List.replicate (b - a) true ++ u.drop b
/-- The state behind a record, if the record can follow; tail and place are not changed yet. -/
def Jn.step (j : Jn) (r : Rc) : Option Jn :=
  if r.kind = 1 then
    (if r.id ≤ j.last then none else if 320 < r.a then some { j with last := r.id } else Jn.add { j with last := r.id } r.id r.a r.bits)
  else if r.kind = 2 then (if j.tail.kind = 1 ∧ 320 < j.tail.a then j.add j.tail.id j.tail.a (j.tail.bits ++ r.bits) else none)
  else if r.kind = 3 then
    (match findK j.keys r.id with
     | none => none
     | some i =>
       let k := j.keys.getD i ⟨0, [], []⟩
       if r.b ≤ r.a ∨ k.used.length < r.b ∨ true ∈ (k.used.drop r.a).take (r.b - r.a) then none
       else some { j with keys := j.keys.set i { k with used := markU k.used r.a r.b } })
  else if r.kind = 4 then (findK j.keys r.id).map fun i => { j with keys := j.keys.eraseIdx i }
  else (if j.ready = true ∨ r.id < j.last then none else some { j with last := r.id, ready := true, age := r.epoch, side := r.a })
/-- The state behind a record. -/
def Jn.follow (j : Jn) (r : Rc) : Option Jn := if r.epoch < j.tail.epoch then none else (j.step r).map fun j' => { j' with tail := r, place := j.place + 1 }
/-- The journal up to a place. -/
def jrn (d : Dk) (lim : Nat) : Nat → Jn → Jn
  | 0, j => j
  | f + 1, j => if lim ≤ j.place then j else match bearsR (d.newest j.place) j.place with
    | none => j
    | some r => match j.follow r with
      | none => j
      | some j' => jrn d lim f j'
def Dk.journal (d : Dk) (area : Nat) : Jn := let h := d.dur.length / 2; jrn d ((area + 1) * h) h (Jn.zero (area * h))
/-- The greatest epoch of the disk. -/
def Dk.greatest (d : Dk) : Nat := ((List.range d.dur.length).map fun i => max (beV ((d.newest i).take 4)) (beV (partS (d.newest i) 56 60))).foldl max 0
theorem Unpack_range (A : Option Addr) (m c : Nat) (n : Int) (w : World) (hm : m ≤ 1000000) (hn1 : n ≤ 9223372036854775807) (h : n < 0 ∨ 8 * (m : Int) < n ∨ (n + 7) / 8 ≠ m) :
    Calls Tryz.prog 130 #[.slice A m c, .int .i64 n] w fun e w' => e = .returned (.tuple #[.slice none 0 0, .int .i64 3]) ∧ w = w' := by
  have h3 : n < 0 ∨ (¬ n < 0 ∧ 8 * (m : Int) < n) ∨ (¬ n < 0 ∧ ¬ 8 * (m : Int) < n ∧ ((n + 7) / 8 != (m : Int)) = true) := by
    rw [bne_iff_ne]; omega
  clear h
  rcases h3 with g1 | ⟨g1, g2⟩ | ⟨g1, g2, g3⟩
  all_goals
    go_enter Tryz.func130, Tryz.ntmps130
    go_wp2
    go_ret2
    exact ⟨rfl, rfl⟩
theorem and_all : ∀ x, x < 256 → ∀ R, R < 8 → (x &&& 2 ^ (7 - R) != 0) = ((x / 2 ^ (7 - R)) % 2 == 1) := by decide +kernel
theorem and_bit (x R : Nat) (hx : x < 256) (hR : R < 8) : (bits .and .u8 (x : Int) (128 / 2 ^ R) != 0) = ((x / 2 ^ (7 - R)) % 2 == 1) := by
  have e : (128 : Int) / 2 ^ R = ((2 ^ (7 - R) : Nat) : Int) := by
    rcases (show R = 0 ∨ R = 1 ∨ R = 2 ∨ R = 3 ∨ R = 4 ∨ R = 5 ∨ R = 6 ∨ R = 7 by omega) with h | h | h | h | h | h | h | h <;> subst h <;> decide
  have hp : 2 ^ (7 - R) < 256 := Nat.lt_of_le_of_lt (Nat.pow_le_pow_right (by decide) (show 7 - R ≤ 7 by omega)) (by decide)
  rw [e, u8_and_nat x (2 ^ (7 - R)) hx hp, ← and_all x hx R hR, Bool.eq_iff_iff, bne_iff_ne, bne_iff_ne]
  omega
/-- A slice expression from a place on, up to the length. -/
theorem slice_tail {P : Program} {t e : TypeId} {sz : Nat} (ht' : P.underlying t = some (.slice e)) (hz' : ∀ w, (sizeOf e).run P w = .ok sz w)
    {w : World} {B n : Nat} {A : Option Addr} {xs : List Value} (h : Rd w B sz A n xs) (lo c : Nat) (hlo : lo ≤ n) (hc : n ≤ c) :
    ∃ A2, (∀ w', (Instr.sliceAt t (.slice A n c) (some (.int .i64 lo)) none none).run P w' = .ok (.slice A2 (n - lo) (c - lo)) w') ∧ Rd w B sz A2 (n - lo) ((xs.drop (lo * sz)).take ((n - lo) * sz)) := by
  have he : P.elem t = e := by simp [Program.elem, ht']
  have ht : P.underlying t = some (.slice (P.elem t)) := by rw [he]; exact ht'
  have hz : ∀ w, (sizeOf (P.elem t)).run P w = .ok sz w := by rw [he]; exact hz'
  refine ⟨_, fun w' => ?_, h.cut hlo (Nat.le_refl n) hc⟩
  rw [run_sliceAt_slice (h := ht), run_slice_l (ht := ht) (h0 := by omega) (h1 := by omega), hz]
  simp [Result.andThen, sliced]
theorem okU_cnt (p : List Nat) (n M : Nat) (hn : n ≤ M) : okU p n M = (cnt ((unL p M).drop n) == 0) := by
  rw [Bool.eq_iff_iff]
  simp only [okU, List.all_eq_true, beq_iff_eq, cnt, List.length_eq_zero_iff, List.filter_eq_nil_iff, List.mem_range]
  constructor
  · intro h x hx hxt
    obtain ⟨i, hi⟩ := List.getElem?_of_mem hx
    rw [List.getElem?_drop] at hi
    have hlt : n + i < M := by
      have := (List.getElem?_eq_some_iff.1 hi).1
      simpa [unL] using this
    have e : bitU p (n + i) = x := by simpa [unL, hlt] using hi
    have h1 := h (n + i) hlt
    have hxt' : x = true := hxt
    rw [e, hxt'] at h1
    have h2 : ¬ n + i < n := by omega
    rw [decide_eq_false h2] at h1
    cases h1
  · intro h i hi
    by_cases hin : i < n
    · simp [hin]
    · have hm : bitU p i ∈ (unL p M).drop n := by
        apply List.mem_of_getElem? (i := i - n)
        rw [List.getElem?_drop, show n + (i - n) = i by omega]
        simp [unL, hi]
      have := h _ hm
      simp only [id] at this
      simp [this]
/-- A record as a journal may hold it. -/
structure RcG (r : Rc) : Prop where
  e1 : 1 ≤ r.epoch
  e2 : r.epoch < 4294967296
  id : r.id ≤ 2147483647
  bits : ∀ x ∈ r.bits, x < 256
  form : (r.kind = 1 ∧ 1 ≤ r.id ∧ 1 ≤ r.a ∧ r.a ≤ 512 ∧ r.b = 0 ∧ r.bits.length ≤ 40 ∧ (unpB r.bits (min r.a 320)).isSome = true) ∨
    (r.kind = 2 ∧ r.id = 0 ∧ r.a = 0 ∧ r.b = 0 ∧ 1 ≤ r.bits.length ∧ r.bits.length ≤ 24) ∨
    (r.kind = 3 ∧ 1 ≤ r.id ∧ r.a < 65536 ∧ r.b < 65536 ∧ r.bits = []) ∨
    (r.kind = 4 ∧ 1 ≤ r.id ∧ r.a = 0 ∧ r.b = 0 ∧ r.bits = []) ∨
    (r.kind = 5 ∧ r.a ≤ 1 ∧ r.b = 0 ∧ r.bits = [])
theorem RcG.kind {r : Rc} (h : RcG r) : 1 ≤ r.kind ∧ r.kind ≤ 5 := by
  rcases h.form with h | h | h | h | h <;> omega
theorem beV_lt4 {l : List Nat} (h : ∀ x ∈ l, x < 256) (k : Nat) (hl : l.length ≤ k) : beV l < 256 ^ k :=
  Nat.lt_of_lt_of_le (beV_lt l h) (Nat.pow_le_pow_right (by omega) hl)
/-- What a sector bears is a record, and the sector is the one of this record. -/
theorem bears_good {s : Sec} {n : Nat} {r : Rc} (hs : SecOK s) (h : bearsR s n = some r) : RcG r ∧ secR r n = s := by
  unfold bearsR at h
  simp only at h
  have hx : ∀ i j, ∀ x ∈ partS s i j, x < 256 := fun i j x hx => hs.2 x (List.mem_of_mem_drop (List.mem_of_mem_take hx))
  have hep := beV_lt4 (l := s.take 4) (fun x hx => hs.2 x (List.mem_of_mem_take hx)) 4 (by rw [List.length_take]; omega)
  have hpl : (partS s 10 (10 + s.getD 9 0)).length = min (s.getD 9 0) 54 := by unfold partS; rw [List.length_take, List.length_drop, hs.1]; omega
  have hp := hx 10 (10 + s.getD 9 0)
  generalize partS s 10 (10 + s.getD 9 0) = p at h hpl hp
  generalize s.getD 9 0 = sz at h hpl
  generalize s.getD 8 0 = kd at h
  generalize beV (s.take 4) = ep at h hep
  have h2 : ∀ i j, beV (partS p i j) < 256 ^ (j - i) := fun i j => beV_lt4 (fun x hx => hp x (by unfold partS at hx; exact List.mem_of_mem_drop (List.mem_of_mem_take hx))) _ (by show ((p.drop i).take (j - i)).length ≤ j - i; rw [List.length_take]; omega)
  have ha := h2 4 6
  have hb := h2 6 8
  generalize beV (partS p 4 6) = pa at h ha
  generalize beV (partS p 6 8) = pb at h hb
  generalize beV (p.take 4) = id at h
  split at h
  · cases h
  · split at h
    · cases h
    · split at h
      · cases h
      · rename_i hs46 hk4 _ r' hr
        split at h
        · cases h
        · rename_i hc
          injection h with h
          subst h
          simp only [not_or, Classical.not_and_iff_not_or_not, Nat.not_lt, Classical.not_not] at hc
          obtain ⟨hc1, hc2, hc3⟩ := hc
          refine ⟨?_, hc3⟩
          clear hc3
          split at hr
          · rename_i hk
            split at hr
            · cases hr
            · rename_i hc
              injection hr with hr
              subst hr
              dsimp only at hc1 hc2
              simp only [not_or, Nat.not_lt] at hc
              obtain ⟨q1, q2, q3, q4⟩ := hc
              have hq4 : (unpB (p.drop 6) (min pa 320)).isSome = true := by
                cases hu : unpB (p.drop 6) (min pa 320) with
                | none => rw [hu] at q4; exact absurd rfl q4
                | some _ => rfl
              refine RcG.mk ?_ ?_ ?_ ?_ ?_ <;> dsimp only
              · exact hc2
              · omega
              · omega
              · exact fun x hx => hp x (List.mem_of_mem_drop hx)
              · exact .inl ⟨hk, by omega, q2, q3, rfl, by rw [List.length_drop]; omega, hq4⟩
          · split at hr
            · rename_i hk
              split at hr
              · cases hr
              · rename_i hc
                injection hr with hr
                subst hr
                dsimp only at hc1 hc2
                refine RcG.mk ?_ ?_ ?_ ?_ ?_ <;> dsimp only
                · exact hc2
                · omega
                · omega
                · exact hp
                · exact .inr (.inl ⟨hk, rfl, rfl, rfl, by omega, by omega⟩)
            · split at hr
              · rename_i hk
                split at hr
                · cases hr
                · rename_i hc
                  injection hr with hr
                  subst hr
                  dsimp only at hc1 hc2
                  refine RcG.mk ?_ ?_ ?_ ?_ ?_ <;> dsimp only
                  · exact hc2
                  · omega
                  · omega
                  · exact fun x hx => by cases hx
                  · exact .inr (.inr (.inl ⟨hk, by omega, by omega, by omega, rfl⟩))
              · split at hr
                · rename_i hk
                  injection hr with hr
                  subst hr
                  dsimp only at hc1 hc2
                  refine RcG.mk ?_ ?_ ?_ ?_ ?_ <;> dsimp only
                  · exact hc2
                  · omega
                  · omega
                  · exact fun x hx => by cases hx
                  · exact .inr (.inr (.inr (.inl ⟨hk, by omega, rfl, rfl, rfl⟩)))
                · split at hr
                  · rename_i hk
                    split at hr
                    · cases hr
                    · rename_i hc
                      injection hr with hr
                      subst hr
                      dsimp only at hc1 hc2
                      refine RcG.mk ?_ ?_ ?_ ?_ ?_ <;> dsimp only
                      · exact hc2
                      · omega
                      · omega
                      · exact fun x hx => by cases hx
                      · exact .inr (.inr (.inr (.inr ⟨hk, by omega, rfl, rfl⟩)))
                  · cases hr
end Go.Proofs.YtdgmjedkhjeadaaGreat
