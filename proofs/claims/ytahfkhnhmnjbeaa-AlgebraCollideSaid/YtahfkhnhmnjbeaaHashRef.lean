/- The contracts of Words and Hash of the reference. Conditions: as each statement says. -/
import Derived.Test.YtahfkhnhmnjbeaaPush
import Derived.Test.YtahfkhnhmnjbeaaHashMath
import Derived.Test.YtahfkhnhmnjbeaaNum
import Derived.Test.YtahfkhnhmnjbeaaTypes
import Derived.Test.YtahfkhnhmnjbeaaRefField
namespace Go.Proofs.Ytahfkhnhmnjbeaa
open Go.RowKit
set_option linter.unusedVariables false
theorem elB_bool : ElemB Try.prog 45 4 1 1 := ElemB.of Try.underlying45 info_bool rfl (by decide)
theorem info_u64 : (Try.prog.info? 40).map (fun i => (i.zero, i.size, i.bytes)) = some (some (.int .u64 0), 1, 8) := by kernel_rfl
theorem elB_u64 : ElemB Try.prog 71 40 1 8 := ElemB.of Try.underlying71 info_u64 rfl (by decide)
def sliceLen : Value → Nat
  | .slice _ n _ => n
  | _ => 0
def u64s (l : List Nat) : List Value := l.map fun x : Nat => Value.int .u64 x
set_option maxRecDepth 100000 in
set_option maxHeartbeats 2000000 in
theorem refWords_any (wd k c : Nat) (A : Option Addr) (bits : List Bool) (w : World) (hw : IsW wd) (hk : k ≤ 65536) (hr : Rd w w.heap.size 1 A k (bits.map Value.bool)) :
    Calls Try.prog 40 #[.int .i64 wd, .slice A k c] w (RetOwn w 40 1 (k / wd + 2) (u64s (wordsL wd bits)) id) := by
  have hl : bits.length = k := by have := hr.1; simpa using this
  have HL := Lib.hid hl; clear hl
  have HR := Lib.hid hr; clear hr
  have hw8 := hw.pos
  have hw32 := hw.le
  have HW := Lib.hid hw; clear hw
  have hkw : k / wd ≤ k := Nat.div_le_self _ _
  obtain ⟨T, hT⟩ : ∃ T, T = (k / wd + 1) * wd := ⟨_, rfl⟩
  have hT1 : k + 1 ≤ T := by
    have h1 := Nat.div_add_mod k wd
    have h2 := Nat.mod_lt k (show 0 < wd by omega)
    rw [hT, Nat.add_mul, Nat.one_mul, Nat.mul_comm]; omega
  have hT2 : T ≤ 65536 + 32 := by
    have h1 := Nat.div_mul_le_self k wd
    rw [hT, Nat.add_mul, Nat.one_mul]; omega
  have hmod : ∀ L, k + 1 ≤ L → L ≤ T → (L % wd = 0 ↔ L = T) := by
    intro L h1 h2
    constructor
    · intro h0
      have h3 := Nat.div_add_mod L wd
      have h4 : k / wd + 1 ≤ L / wd := by
        rcases Nat.lt_or_ge (k / wd) (L / wd) with h | h
        · exact h
        · have h5 : L ≤ k := by
            have h6 : wd * (L / wd) ≤ wd * (k / wd) := Nat.mul_le_mul_left _ h
            have h7 := Nat.div_mul_le_self k wd
            rw [Nat.mul_comm] at h7
            omega
          omega
      have h5 : (k / wd + 1) * wd ≤ L / wd * wd := Nat.mul_le_mul_right _ h4
      rw [Nat.mul_comm (L / wd)] at h5
      omega
    · rintro rfl; rw [hT]; exact Nat.mul_mod_left _ _
  have HM := Lib.hid hmod; clear hmod
  have HT := Lib.hid hT; clear hT
  go_enter Try.func40, Try.ntmps40
  go_wp2_with (first | (at_builtin; refine wpList_put elB_bool (.tmp 8) (.tmp 9) rfl rfl w.heap.size 0 [] rfl (own_new w #[] 4 0 rfl (by omega)) rfl (HR.out.alloc (Nat.le_refl _) _) (oneCell_map fun _ => rfl) (by omega) (by decide) (by simp) ?_; intro v1 w1 hown1 hb1 _; rw [Nat.zero_add, List.nil_append] at hown1) | (at_builtin; refine wpList_push elB_bool (.tmp 10) (.tmp 11) rfl rfl w.heap.size k _ rfl hown1 rfl rfl (one_cell1 rfl) (by omega) (by decide) (by have := hb1.size; simp at this; omega) ?_; intro v2 w2 hown2 hb2 _))
  have B2 : Below w.heap.size w w2 := (((Below.refl _ _).alloc (Nat.le_refl _) _).trans hb1).trans hb2
  have O2 : Hid (w2.ownsRow w.heap.size 4 1 v2 (k + 1) ((bits ++ [true] ++ List.replicate (k + 1 - (k + 1)) false).map Value.bool)) := Lib.hid (by simpa using hown2)
  clear hown1 hown2 hb1 hb2
  go_loopw [5] (fun v wr => ∃ L : Nat, k + 1 ≤ L ∧ L ≤ T ∧ wr.ownsRow w.heap.size 4 1 v L ((bits ++ [true] ++ List.replicate (L - (k + 1)) false).map Value.bool) ∧ Below w.heap.size w wr) (fun v _ => T - sliceLen v)
  case atStart => exact ⟨k + 1, by omega, by omega, O2.out, B2⟩
  case round =>
    obtain ⟨wp, rfl⟩ : ∃ wp : World, wp = wr := ⟨_, rfl⟩
    obtain ⟨L, h1, h2, hown, hbw⟩ := hrel
    obtain ⟨A5, c5, rfl, hc5⟩ := own_form hown
    have hbs := hbw.size
    have O5 := Lib.hid hown; clear hown
    have HML := HM.out L h1 h2
    have hcast : ((L : Int) % (wd : Int)) = ((L % wd : Nat) : Int) := by simp
    by_cases hz : L % wd = 0
    · have ht : (((L : Int) % (wd : Int)) != 0) = false := by rw [hcast, hz]; rfl
      obtain rfl : L = T := HML.1 hz
      have hpad : bits ++ [true] ++ List.replicate (L - (k + 1)) false = padL wd bits := by
        unfold padL
        have h3 := HT.out
        have h4 := Nat.div_add_mod k wd
        have h5 := Nat.mod_lt k (show 0 < wd by omega)
        rw [Nat.add_mul, Nat.one_mul] at h3
        rw [Nat.mul_comm] at h4
        rw [HL.out, show L - (k + 1) = wd - 1 - k % wd by omega]
      rw [hpad] at O5
      have R5 := Lib.hid (Rd.own O5.out)
      clear hpad hz HML hcast
      go_wp2
      obtain ⟨wq, hwq⟩ : ∃ wq, wq = wp.alloc (Obj.cells #[Value.int IntKind.u64 1] 40) := ⟨_, rfl⟩
      have hown6 := own_new wp #[Value.int IntKind.u64 1] 40 1 rfl (by omega)
      have hb6 : Below wp.heap.size wp wq := by rw [hwq]; exact (Below.refl _ _).alloc (Nat.le_refl _) _
      rw [← hwq] at hown6 ⊢
      have hs6 : wq.heap.size = wp.heap.size + 1 := by rw [hwq]; simp
      have O6 := Lib.hid hown6
      clear hown6 hwq ht
      go_loopw [6, 7] (fun v i wr => ∃ q I : Nat, q ≤ k / wd + 1 ∧ I = q * wd ∧ i = .int .i64 I ∧ wr.ownsRow wp.heap.size 40 1 v (q + 1) (u64s (1 :: chunkL wd (padL wd bits) q)) ∧ Below wp.heap.size wp wr) (fun _ i _ => L - (intOf i).toNat)
      case atStart => exact ⟨0, 0, Nat.zero_le _, by simp, rfl, by simpa [chunkL, u64s] using O6.out, hb6⟩
      case round =>
        obtain ⟨q, I, hq, hI, rfl, hown, hb7⟩ := hrel
        have O7 := Lib.hid hown; clear hown
        have hs7 := hb7.size
        have HTT := HT.out
        by_cases hlt : q < k / wd + 1
        · have hJ : I + wd ≤ L := by
            have := Nat.mul_le_mul_right wd (show q + 1 ≤ k / wd + 1 from hlt)
            rw [Nat.add_mul, Nat.one_mul] at this; omega
          have hIL : (I : Int) < (L : Int) := by omega
          obtain ⟨A8, hsl, hrd8⟩ := slice_cut (P := Try.prog) (t := 45) (sz := 1) Try.underlying45 Try.sizeOf4 (R5.out.below hb7) I (I + wd) c5 (by omega) hJ hc5
          rw [show I + wd - I = wd by omega, Int.natCast_add] at hsl
          rw [show I + wd - I = wd by omega, Nat.mul_one, Nat.mul_one, ← List.map_drop, ← List.map_take, hI] at hrd8
          have HRD := Lib.hid hrd8; have HI := Lib.hid hI
          clear hrd8 hI HTT
          go_wp2_with (first | (go_at_call 30; refine (refWord_any _ _ _ _ _ _ (by omega) HRD.out).mono ?_; rintro e w' ⟨rfl, rfl⟩) | (at_builtin; refine wpList_push elB_u64 (.tmp 29) (.tmp 37) rfl rfl wp.heap.size (q + 1) _ rfl O7.out rfl rfl (one_cell1 rfl) (by omega) (by decide) (by omega) ?_; intro v8 w8 hown8 hb8 _; clear hsl))
          go_roundw
          case rel =>
            refine ⟨q + 1, I + wd, by omega, by rw [HI.out, Nat.add_mul, Nat.one_mul], by go_num, ?_, hb7.trans hb8⟩
            have e : u64s (1 :: chunkL wd (padL wd bits) q) ++ [Value.int .u64 (wordV (((padL wd bits).drop (q * wd)).take wd))] = u64s (1 :: chunkL wd (padL wd bits) (q + 1)) := by
              rw [chunkL_snoc, u64s, u64s, ← List.cons_append, List.map_append]; rfl
            rw [← e]
            exact hown8
          case measure => simp [intOf]; omega
        · obtain rfl : q = k / wd + 1 := by omega
          have hIL : ¬ (I : Int) < (L : Int) := by omega
          go_wp2
          go_ret
          have h9 := O7.out
          rw [← HL.out, pad_words (by omega), HL.out] at h9
          exact RetOwn.of (mk := id) (ownsRow_mono h9 (by omega)) (hbw.trans (hb7.mono (by omega)))
    · have ht : (((L : Int) % (wd : Int)) != 0) = true := by rw [hcast]; simp only [bne_iff_ne, ne_eq]; omega
      have hlt : L < T := by omega
      clear hz HML hcast
      go_wp2_with (at_builtin; refine wpList_push elB_bool (.tmp 18) (.tmp 19) rfl rfl w.heap.size L _ rfl O5.out rfl rfl (one_cell1 rfl) (by omega) (by decide) (by omega) ?_; intro v3 w3 hown3 hb3 _; obtain ⟨A6, c6, rfl, hc6⟩ := own_form hown3; clear ht)
      go_roundw
      case rel => exact ⟨L + 1, by omega, by omega, by rw [show L + 1 - (k + 1) = L - (k + 1) + 1 by omega, List.replicate_succ', ← List.append_assoc, List.map_append]; exact hown3, hbw.trans hb3⟩
      case measure => simp [sliceLen]; omega
set_option maxRecDepth 100000 in
set_option maxHeartbeats 2000000 in
theorem refHash_any (wd key k c : Nat) (A : Option Addr) (bits : List Bool) (w : World) (hw : IsW wd) (hkey : key < 2 ^ wd) (hk : k ≤ 65536) (hr : Rd w w.heap.size 1 A k (bits.map Value.bool)) :
    Calls Try.prog 41 #[.int .i64 wd, .int .u64 key, .slice A k c] w fun e w' => (∃ y : Nat, y = sumP wd key (wordsL wd bits).reverse key ∧ e = .returned (.int .u64 y)) ∧ Below w.heap.size w w' := by
  have HR := Lib.hid hr; clear hr
  have hkw : k / wd ≤ k := Nat.div_le_self _ _
  have hpw := hw.pow
  have hwlt := wordsL_lt (w := wd) (by have := hw.pos; omega) bits
  have hlen : (wordsL wd bits).length = k / wd + 2 := by rw [wordsL_len]; have := HR.out.1; simp at this; rw [this]
  have HWL := Lib.hid hwlt; have HLE := Lib.hid hlen
  have HW := Lib.hid hw
  clear hwlt hlen hw
  obtain ⟨n, hn⟩ : ∃ n, n = k / wd + 2 := ⟨_, rfl⟩
  have hn1 : n ≤ 65538 := by omega
  have hn2 : 1 ≤ n := by rw [hn]; exact Nat.succ_le_succ (Nat.zero_le _)
  have hwd : wd = 8 ∨ wd = 16 ∨ wd = 32 := HW.out
  have HWD := Lib.hid hwd
  clear hwd
  go_enter Try.func41, Try.ntmps41
  go_wp2_with fail
  refine (refWords_any wd k c A bits _ HW.out hk HR.out).mono ?_
  rintro e w1 ⟨A1, c1, rfl, hc1, hown1, hb1⟩
  rw [← hn] at hc1 hown1 ⊢
  have R1 := Lib.hid (Rd.own hown1)
  try dsimp only [id]
  have HN := Lib.hid hn
  clear hown1 hn hkw
  go_wp2_with fail
  go_loopw [8, 9, 10] (fun o p i wr => (∃ j a b : Nat, j ≤ n ∧ i = .int .i64 ((j : Int) - 1) ∧ o = .int .u64 a ∧ p = .int .u64 b ∧ a < 2 ^ wd ∧ b < 2 ^ wd ∧ a ^^^ sumP wd key ((wordsL wd bits).take j).reverse b = sumP wd key (wordsL wd bits).reverse key) ∧ Qw w1 wr) (fun _ _ i _ => (intOf i + 1).toNat)
  case atStart => exact ⟨⟨n, 0, key, Nat.le_refl _, rfl, rfl, rfl, Nat.two_pow_pos _, hkey, by rw [Nat.zero_xor, List.take_of_length_le (by rw [HLE.out, HN.out]; exact Nat.le_refl _)]⟩, Qw.refl _⟩
  case round =>
    obtain ⟨⟨j, a, b, hj, rfl, rfl, rfl, ha, hb, he⟩, hq⟩ := hrel
    have HE := Lib.hid he; clear he
    by_cases h0 : j = 0
    · subst h0
      go_wp2
      go_ret
      exact ⟨⟨a, by have := HE.out; simpa [sumP] using this, rfl⟩, hb1.trans (hq.below _)⟩
    · obtain ⟨q, rfl⟩ : ∃ q, j = q + 1 := ⟨j - 1, by omega⟩
      have hql : q < (wordsL wd bits).length := by rw [HLE.out, ← HN.out]; omega
      obtain ⟨bb, off, rfl, hbb, hc⟩ := R1.out.2 (by omega)
      have hcell : wr.cell? ⟨bb, off + q, none⟩ = some (.int .u64 ((wordsL wd bits)[q] : Nat)) := (hq.cell _).trans (hc q _ (by simp [u64s, hql]))
      have hx := HWL.out _ (List.getElem_mem hql)
      have HS : Hid (sumP wd key ((wordsL wd bits).take (q + 1)).reverse b = gm wd (wordsL wd bits)[q] b ^^^ sumP wd key ((wordsL wd bits).take q).reverse (gm wd b key)) := Lib.hid (by rw [take_snoc _ _ hql, List.reverse_append]; rfl)
      clear hc
      generalize (wordsL wd bits)[q] = x at hcell hx HS
      clear hql
      have hg1 : gm wd x b < 2 ^ wd := gm_lt HW.out hx
      have hg2 : gm wd b key < 2 ^ wd := gm_lt HW.out hb
      go_wp2_with fail
      refine (refMul_nat _ _ _ HW.out hx hb _).mono ?_
      rintro e w' ⟨rfl, rfl⟩
      go_wp2_with fail
      refine (refMul_nat _ _ _ HW.out hb hkey _).mono ?_
      rintro e w' ⟨rfl, rfl⟩
      go_wp2_with fail
      go_roundw
      case rel =>
        refine ⟨⟨q, a ^^^ gm wd x b, gm wd b key, by omega, by go_num, ?_, rfl, Nat.xor_lt_two_pow ha hg1, hg2, ?_⟩, hq⟩
        · rw [u64_xor' (by omega) (by omega)]
        · rw [← HE.out, HS.out, Nat.xor_assoc]
      case measure => simp [intOf]
end Go.Proofs.Ytahfkhnhmnjbeaa
