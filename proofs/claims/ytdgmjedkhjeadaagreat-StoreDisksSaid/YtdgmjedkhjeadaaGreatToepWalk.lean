/- The walk of AlgebraToeplitz: it returns true for every seed, bit string and number. -/
import Derived.Test.YtdgmjedkhjeadaaGreatKnown
import Derived.Test.YtdgmjedkhjeadaaGreatToep
import Derived.Test.YtdgmjedkhjeadaaGreatOpen
import Derived.Deep.RegionHeld3
import Derived.Test.YtdgmjedkhjeadaaGreatPack
namespace Go.Proofs.YtdgmjedkhjeadaaGreat
open Go.RowKit
set_option linter.unusedVariables false
/-- A slice expression from the start, within the length. -/
theorem slice_head {P : Program} {t e : TypeId} {sz : Nat} (ht' : P.underlying t = some (.slice e)) (hz' : ∀ w, (sizeOf e).run P w = .ok sz w)
    {w : World} {B n : Nat} {A : Option Addr} {xs : List Value} (h : Rd w B sz A n xs) (E : Int) (hi c : Nat) (hE : E = (hi : Int)) (hhi : hi ≤ n) (hc : n ≤ c) :
    ∃ A2, (∀ w', (Instr.sliceAt t (.slice A n c) none (some (.int .i64 E)) none).run P w' = .ok (.slice A2 hi c) w') ∧ Rd w B sz A2 hi (xs.take (hi * sz)) := by
  subst hE
  have he : P.elem t = e := by simp [Program.elem, ht']
  have ht : P.underlying t = some (.slice (P.elem t)) := by rw [he]; exact ht'
  have hz : ∀ w, (sizeOf (P.elem t)).run P w = .ok sz w := by rw [he]; exact hz'
  have hr := h.cut (Nat.zero_le hi) hhi hc
  simp only [Nat.zero_mul, List.drop_zero, Nat.sub_zero] at hr
  refine ⟨_, fun w' => ?_, hr⟩
  rw [run_sliceAt_slice (h := ht), run_slice_h (ht := ht) (h0 := by omega) (h2 := by omega), hz]
  simp [Result.andThen, sliced]
set_option linter.unusedSimpArgs false
def UnpackPost (p : List Nat) (m n : Nat) (w : World) (e : Ending) (w' : World) : Prop :=
  (okU p n (8 * m) = true ∧ RetOwn w 4 1 n ((unL p n).map Value.bool) (fun v => .tuple #[v, .int .i64 0]) e w') ∨
  (okU p n (8 * m) = false ∧ e = .returned (.tuple #[.slice none 0 0, .int .i64 6]) ∧ Below w.heap.size w w')
set_option maxRecDepth 100000 in
set_option maxHeartbeats 1000000 in
theorem Unpack_any (A : Option Addr) (m c n : Nat) (p : List Nat) (w : World) (hm : m ≤ 1000000) (hn : n ≤ 8 * m) (hnm : (n + 7) / 8 = m) (hp : ∀ x ∈ p, x < 256) (h : Rd w w.heap.size 1 A m (p.map fun x : Nat => Value.int .u8 x)) :
    Calls Tryz.prog 130 #[.slice A m c, .int .i64 n] w (UnpackPost p m n w) := by
  have hl : p.length = m := by have := h.1; simpa using this
  have H := Lib.hid h; clear h
  have HL := Lib.hid hl; clear hl
  have HP := Lib.hid hp
  clear hp
  obtain ⟨M, hM⟩ : ∃ M, M = 8 * m := ⟨_, rfl⟩
  have hMi : 8 * (m : Int) = (M : Int) := by omega
  have hnM : (n : Int) ≤ (M : Int) := by omega
  have hnmi : ((n : Int) + 7) / 8 = (m : Int) := by omega
  have hM8 : M ≤ 8000000 := by omega
  have hdm : decide (M < n) = false := decide_eq_false (by omega)
  have hdm0 : decide ((n : Int) < 0) = false := decide_eq_false (by omega)
  have HM := Lib.hid hM
  rw [← hM] at hn
  unfold UnpackPost
  rw [← hM]
  clear hM hnm
  have hmk := fun w => make_bool w M (by omega)
  go_enter Tryz.func130, Tryz.ntmps130
  go_wp2
  have HNM := Lib.hid hn
  clear hmk hMi hnmi hn hnM
  try simp only [hdm, hdm0, Bool.or_false]
  go_loopw [31] (fun i wr => ∃ k : Nat, k ≤ M ∧ i = .int .i64 k ∧ wr.heap[w.heap.size]? = some (.cells (((unL p k)).map Value.bool ++ List.replicate (M - k) (Value.bool false)).toArray 4 (0, 0)) ∧ Below w.heap.size w wr) (fun i _ => M - (intOf i).toNat)
  case atStart => exact ⟨0, Nat.zero_le _, rfl, by simpa [unL] using heap_alloc_new w _, (Below.refl _ _).alloc (Nat.le_refl _) _⟩
  case round =>
    obtain ⟨k, hk, rfl, hrow, hbw⟩ := hrel
    have HR := Lib.hid hrow; clear hrow
    by_cases hlt : k < M
    · obtain ⟨b, off, rfl, hb, hc⟩ := H.out.2 (by have := HM.out; omega)
      have hkb : k / 8 < p.length := by rw [HL.out]; have := HM.out; omega
      have h1 : wr.cell? ⟨b, off + k / 8, none⟩ = some (.int .u8 (p.getD (k / 8) 0 : Nat)) := (hbw.cell (p := ⟨b, off + k / 8, none⟩) hb).trans (hc (k / 8) _ (by simp [hkb]))
      have hx : p.getD (k / 8) 0 < 256 := by
        rw [List.getD_eq_getElem?_getD, List.getElem?_eq_getElem hkb]; exact HP.out _ (List.getElem_mem hkb)
      have h3 : ∃ u, wr.cell? ⟨w.heap.size, k, none⟩ = some u := ⟨_, (cell_of_row _ _ _ _ _ _ HR.out).trans (Array.getElem?_eq_getElem (by simp [unL]; omega))⟩
      obtain ⟨u, h3⟩ := h3
      have h4 : wr.frozen? ⟨w.heap.size, k, none⟩ = false := by simp [World.frozen?, HR.out]
      have f1 : IntKind.i64.wrap ((k : Int) / 8) = ((k / 8 : Nat) : Int) := by
        rw [show (k : Int) / 8 = ((k / 8 : Nat) : Int) by omega]; exact i64_small (k / 8) (by omega)
      have f2 : (k : Int) % 8 = ((k % 8 : Nat) : Int) := by omega
      have f3 : Int.tmod (k : Int) 8 = ((k % 8 : Nat) : Int) := by rw [Int.tmod_eq_emod_of_nonneg (by omega)]; omega
      have f4 : IntKind.i64.wrap ((k % 8 : Nat) : Int) = ((k % 8 : Nat) : Int) := i64_small (k % 8) (by omega)
      have hJm : k / 8 < m := by rw [← HL.out]; exact hkb
      have hr8 : k % 8 < 8 := Nat.mod_lt _ (by decide)
      have HV : Hid ((bits .and .u8 ((p.getD (k / 8) 0 : Nat) : Int) (128 / 2 ^ (k % 8)) != 0) = bitU p k) := Lib.hid (and_bit _ _ hx hr8)
      clear hc hkb
      generalize p.getD (k / 8) 0 = x at h1 hx HV
      generalize k / 8 = J at h1 f1 hJm
      generalize k % 8 = R at f2 f3 f4 hr8 HV
      go_wp2
      refine wp_region_quiet_tail 13 (by kernel_rfl) (by kernel_rfl) ?_
      simp only [List.take_succ_cons, List.take_zero, List.drop_succ_cons, List.drop_zero]
      repeat (quiet_step (fail))
      refine wpQuiet_nil ?_
      intro _ hw'
      obtain ⟨nq, hw''⟩ := hw'
      subst hw''
      go_wp2
      go_roundw
      case rel =>
        refine ⟨k + 1, by omega, by go_num, ?_, ((Qw.drewN (Qw.refl wr) nq).below _ |> hbw.trans).setCell (p := ⟨w.heap.size, k, none⟩) (Nat.le_refl _) _⟩
        show (wr.setCell _ _).heap[_]? = _
        obtain ⟨d, hd⟩ : ∃ d, M - k = d + 1 := ⟨M - k - 1, by omega⟩
        have h5 := HR.out
        rw [hd] at h5
        rw [HV.out, unL_snoc, show M - (k + 1) = d by omega, row_fill (j := k) h5 (by simp [unL])]
        simp
      case measure => simp [intOf]; omega
    · obtain rfl : k = M := by omega
      have h5 := HR.out
      rw [Nat.sub_self, List.replicate_zero, List.append_nil] at h5
      have ho : wr.ownsRow w.heap.size 4 1 (.slice (some ⟨w.heap.size, 0, none⟩) k k) k ((unL p k).map Value.bool) := own_of_row h5 (by simp [unL]) (Nat.le_refl _) (by simp [maxLen]; omega)
      obtain ⟨A2, hs2, hr2⟩ := slice_tail (P := Tryz.prog) (t := 48) (sz := 1) Tryz.underlying48 Tryz.sizeOf4 (Rd.own ho) n k HNM.out (Nat.le_refl _)
      have hr2' : Rd wr wr.heap.size 1 A2 (k - n) (((unL p k).drop n).map Value.bool) := by
        have h7 := hr2
        rw [Nat.mul_one, Nat.mul_one, List.take_of_length_le (by simp [unL])] at h7
        simpa using h7
      have HC := Lib.hid (okU_cnt p n k HNM.out)
      have R2 := Lib.hid hr2'
      have HOW := Lib.hid ho
      clear h5 ho hr2 hr2'
      go_wp2_with fail
      refine (Count_any _ _ _ _ _ _ (by omega) R2.out).mono ?_
      rintro e w' ⟨rfl, rfl⟩
      cases hz : okU p n k with
      | false =>
        have hcz : cnt ((unL p k).drop n) ≠ 0 := by
          intro h0
          have := HC.out
          rw [hz, h0] at this
          cases this
        have hcl : cnt ((unL p k).drop n) ≤ 8000000 := by
          have := cnt_le ((unL p k).drop n); rw [List.length_drop, unL_len] at this; omega
        generalize cnt ((unL p k).drop n) = z at hcz hcl ⊢
        have HZZ := Lib.hid hz
        clear hz
        go_wp2
        go_ret2
        exact .inr ⟨HZZ.out, rfl, hbw⟩
      | true =>
        have hcz : cnt ((unL p k).drop n) = 0 := by
          have := HC.out
          rw [hz] at this
          exact beq_iff_eq.1 this.symm
        rw [hcz]
        have HZZ := Lib.hid hz
        obtain ⟨A3, hs3, hr3⟩ := slice_head (P := Tryz.prog) (t := 48) (sz := 1) Tryz.underlying48 Tryz.sizeOf4 (Rd.own HOW.out) (n : Int) n k rfl HNM.out (Nat.le_refl _)
        have R3 := Lib.hid hr3
        have hn9 : n ≤ 8000000 := by have := HNM.out; omega
        have hmk0 := fun w => make_bool0 w n (by omega)
        clear hz hcz hr3
        obtain ⟨i0, hi0, hz0, hz1, hz2⟩ := info_parts info_bool
        have HI0 := Lib.hid hi0; have HZ0 := Lib.hid hz0; have HZ1 := Lib.hid hz1; have HZ2 := Lib.hid hz2
        clear hi0 hz0 hz1 hz2
        go_wp2_with fail
        go_region_held3 (fun _ => True) (exact True.intro)
          ((refine step_append_rd _ (by rfl) (.tmp 54) (.tmp 57) _ (by rfl) wr.heap.size 4 i0 _ 1 1 Tryz.underlying48 HI0.out HZ0.out HZ1.out HZ2.out rfl (by omega) _ 0 [] (by rfl) (World.ownsRow_made wr.drew _ n (Nat.le_refl _) (by simp [maxLen]; omega) (by simp)) _ A3 n k _ (by rfl) ((R3.out.drew).alloc (Nat.le_refl _) _) (by intro u hu; have hu2 := List.mem_of_mem_take hu; obtain ⟨_, _, rfl⟩ := List.mem_map.1 hu2; rfl) (by simp [maxLen]; omega) (by omega) (by simp) ?_; intro v1 w1 hown1 hg1))
        go_wp2
        go_ret2
        have e7 : ((unL p k).map Value.bool).take (n * 1) = (unL p n).map Value.bool := by
          rw [Nat.mul_one, ← List.map_take]
          unfold unL
          rw [← List.map_take, List.take_range, Nat.min_eq_left HNM.out]
        rw [e7, Nat.zero_add, List.nil_append] at hown1
        have hs8 := hbw.size
        exact .inl ⟨HZZ.out, RetOwn.of (mk := fun v => .tuple #[v, .int .i64 0]) (ownsRow_base hown1 hs8) ((((Qw.refl wr).drew.below _ |> hbw.trans).alloc hs8 _).grown hg1 (by simp; omega) (fun g hg => by cases hg; exact hs8))⟩
end Go.Proofs.YtdgmjedkhjeadaaGreat
