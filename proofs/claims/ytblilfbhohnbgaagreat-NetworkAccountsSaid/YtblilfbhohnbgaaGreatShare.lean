/- Contracts of the functions of the shares of a secret. Conditions: as each statement says. -/
import Derived.Test.YtblilfbhohnbgaaGreatProg
import Derived.Test.YtblilfbhohnbgaaGreatBase
import Derived.Test.YtblilfbhohnbgaaGreatField
import Derived.Test.YtblilfbhohnbgaaGreatTail
import Derived.Test.YtblilfbhohnbgaaGreatMath
namespace Go.Proofs.YtblilfbhohnbgaaGreat
open Go.RowKit

def u8s (l : List Nat) : List Value := l.map fun x : Nat => Value.int .u8 x
set_option maxHeartbeats 400000 in
theorem value_nat (A : Option Addr) (n c : Nat) (p : List Nat) (x : Nat) (w : World) (B : Nat) (hn : n ≤ 9223372036854775807) (hp : Bytes p) (hx : x ≤ 255) (h : Rd w B 1 A n (u8s p)) :
    Calls Tryz.prog 73 #[.slice A n c, .int .u8 x] w fun e w' => e = .returned (.int .u8 (valF p x)) ∧ Qw w w' := by
  have hl : p.length = n := by have := h.1; simpa [u8s] using this
  have H := Lib.hid h; clear h
  have HL := Lib.hid hl; clear hl
  have HP := Lib.hid hp; clear hp
  go_enter Tryz.func73, Tryz.ntmps73
  go_wp2
  go_loopw [4, 5] (fun t i wr => (∃ j : Nat, j ≤ n ∧ i = .int .i64 ((j : Int) - 1) ∧ t = .int .u8 (valF (p.drop j) x)) ∧ Qw w wr) (fun _ i _ => (intOf i + 1).toNat)
  case atStart => exact ⟨⟨n, Nat.le_refl _, rfl, by rw [List.drop_of_length_le (by rw [HL.out]; omega)]; rfl⟩, Qw.refl w⟩
  case round =>
    obtain ⟨⟨j, hj, rfl, rfl⟩, hq⟩ := hrel
    by_cases hlt : j = 0
    · subst hlt
      go_wp2
      go_ret
      exact ⟨ret_int rfl, hq⟩
    · obtain ⟨q, rfl⟩ : ∃ q, j = q + 1 := ⟨j - 1, by omega⟩
      obtain ⟨b, off, rfl, hb, hc⟩ := H.out.2 (by omega)
      have hlq : q < p.length := by rw [HL.out]; omega
      have hcell : wr.cell? ⟨b, off + q, none⟩ = some (.int .u8 (p[q] : Nat)) := (hq.cell _).trans (hc q _ (by simp [u8s, hlq]))
      have HS := Lib.hid (valF_drop p x q hlq)
      have hy := HP.out p[q] (List.getElem_mem hlq)
      have hv := valF_lt (p := p.drop (q + 1)) (fun y hy => HP.out y (List.mem_of_mem_drop hy)) x
      have hg : gm 8 (valF (p.drop (q + 1)) x) x < 2 ^ 8 := gm_lt (.inl rfl) hv
      clear hc
      generalize p[q] = y at hcell HS hy
      clear hlq
      go_wp2
      go_quiet ((go_at_call 72; exact quiet_e (product_any _ _ (by omega) (by omega) (by omega) (by omega) _)))
      go_wp2
      go_roundw
      case rel => exact ⟨⟨q, by omega, rfl, by rw [HS.out]; rw [u8_xor_nat _ _ (by omega) (by omega)]⟩, hq.drewN _⟩
      case measure => simp [intOf]


theorem value_any (A : Option Addr) (n c : Nat) (p : List Nat) (x : Int) (w : World) (B : Nat) (hn : n ≤ 9223372036854775807) (hp : Bytes p) (hx0 : 0 ≤ x) (hx : x ≤ 255) (h : Rd w B 1 A n (u8s p)) :
    Calls Tryz.prog 73 #[.slice A n c, .int .u8 x] w fun e w' => e = .returned (.int .u8 (valF p x.toNat)) ∧ Qw w w' := by
  have := value_nat A n c p x.toNat w B hn hp (by omega) h
  rw [toNat_cast_eq hx0] at this
  exact this

/-- Byte j of the share of place x. -/
def shareB (sec co : List Nat) (q x j : Nat) : Nat := gm 8 (valF ((co.drop (j * q)).take q) x) x ^^^ sec.getD j 0
def shareY (sec co : List Nat) (q x n : Nat) : List Nat := (List.range n).map (shareB sec co q x)
theorem shareY_snoc (sec co : List Nat) (q x n : Nat) : shareY sec co q x (n + 1) = shareY sec co q x n ++ [shareB sec co q x n] := by simp [shareY, List.range_succ]
theorem shareY_len (sec co : List Nat) (q x n : Nat) : (shareY sec co q x n).length = n := by simp [shareY]
/-- The first i shares lie in memory: the list's cells in block B, the bytes of share t in block B + 1 + t. -/
def ShareAt (w : World) (B n q : Nat) (sec co : List Nat) (cs : Array Value) (t : Nat) : Prop :=
  cs[t * 2]? = some (.int .u8 ((t : Int) + 1)) ∧ cs[t * 2 + 1]? = some (.slice (some ⟨B + 1 + t, 0, none⟩) n n) ∧
  w.heap[B + 1 + t]? = some (.cells (u8s (shareY sec co q (t + 1) n)).toArray 5 (0, 0))
def SharesW (w : World) (B n N q : Nat) (sec co : List Nat) (i : Nat) : Prop :=
  w.heap.size = B + 1 + i ∧ ∃ cs, w.heap[B]? = some (.cells cs 129 (0, 0)) ∧ cs.size = N * 2 ∧ ∀ t, t < i → ShareAt w B n q sec co cs t
def SplitRel (w : World) (n N q : Nat) (sec co : List Nat) (v : Value) (wr : World) : Prop :=
  ∃ i : Nat, i ≤ N ∧ v = .int .i64 i ∧ SharesW wr w.heap.size n N q sec co i ∧ Below w.heap.size w wr
def RowRel (wo : World) (h n q x : Nat) (sec co : List Nat) (v : Value) (wi : World) : Prop :=
  ∃ j : Nat, j ≤ n ∧ v = .int .i64 j ∧ wo.grownBy wi (some h) ∧ wi.heap.size = wo.heap.size ∧
    wi.heap[h]? = some (.cells (u8s (shareY sec co q x j) ++ List.replicate (n - j) (Value.int .u8 0)).toArray 5 (0, 0))

theorem split_row {w wr wo : World} {n N i : Nat} {cs : Array Value} {hb : Nat}
    (hwo : (((wr.setCell { block := w.heap.size, off := i * 2 } (Value.int IntKind.u8 ((i : Int) + 1))).setCell { block := w.heap.size, off := i * 2 + 1 } (Value.slice (some { block := hb, off := 0 }) n n)).alloc (Obj.cells (Array.replicate n (Value.int IntKind.u8 0)) 5)) = wo)
    (hB : wr.heap[w.heap.size]? = some (.cells cs 129 (0, 0))) (hcs : cs.size = N * 2) (hlt : i < N) :
    ∃ cs', wo.heap[w.heap.size]? = some (.cells cs' 129 (0, 0)) ∧ cs'.size = N * 2 ∧ cs'[i * 2]? = some (.int .u8 ((i : Int) + 1)) ∧ cs'[i * 2 + 1]? = some (.slice (some ⟨hb, 0, none⟩) n n) ∧ ∀ t, t < i → cs'[t * 2]? = cs[t * 2]? ∧ cs'[t * 2 + 1]? = cs[t * 2 + 1]? := by
  have hlt' : w.heap.size < wr.heap.size := (Array.getElem?_eq_some_iff.1 hB).1
  refine ⟨(cs.setIfInBounds (i * 2) (Value.int IntKind.u8 ((i : Int) + 1))).setIfInBounds (i * 2 + 1) (Value.slice (some { block := hb, off := 0 }) n n), ?_, by simpa using hcs, ?_, ?_, ?_⟩
  · rw [← hwo, Below.heap_alloc _ _ _ (by simpa [World.setCell] using hlt')]
    simp [World.setCell, Array.getElem?_modify, hB]
  · rw [Array.getElem?_setIfInBounds_ne (by omega), Array.getElem?_setIfInBounds_self_of_lt (by omega)]
  · rw [Array.getElem?_setIfInBounds_self_of_lt (by simp; omega)]
  · intro t ht
    constructor
    · rw [Array.getElem?_setIfInBounds_ne (by omega), Array.getElem?_setIfInBounds_ne (by omega)]
    · rw [Array.getElem?_setIfInBounds_ne (by omega), Array.getElem?_setIfInBounds_ne (by omega)]

set_option maxHeartbeats 800000 in
theorem Split_ok (A A' : Option Addr) (n c m c' N q : Nat) (sec co : List Nat) (w : World) (hn : n ≤ 256) (hN : 1 ≤ N) (hN' : N ≤ 16) (hK' : q + 1 ≤ N) (hm : m = n * q) (hmc : m ≤ c') (hs : Bytes sec) (hco : Bytes co)
    (h : Rd w w.heap.size 1 A n (u8s sec)) (h' : Rd w w.heap.size 1 A' m (u8s co)) :
    Calls Tryz.prog 50 #[.slice A n c, .int .i64 N, .int .i64 ((q : Int) + 1), .slice A' m c'] w
      fun e w' => e = .returned (.tuple #[.slice (some ⟨w.heap.size, 0, none⟩) N N, .int .i64 0]) ∧ SharesW w' w.heap.size n N q sec co N ∧ Below w.heap.size w w' := by
  have H := Lib.hid h; clear h
  have H' := Lib.hid h'; clear h'
  have hmul : (n : Int) * (q : Int) = (m : Int) := by subst hm; simp
  have hmn : m ≤ 256 * 15 := by subst hm; exact Nat.mul_le_mul hn (by omega)
  have hne : ((m : Int) != wrap64 ((n : Int) * (q : Int))) = false := by
    rw [hmul, bne_eq_false_iff_eq]; unfold wrap64; omega
  have HM := Lib.hid hm; clear hm
  have HU := Lib.hid hmul; clear hmul
  have HSec := Lib.hid hs; clear hs
  have HCo := Lib.hid hco; clear hco
  have hmk := fun w => make_share w N (by omega)
  go_enter Tryz.func50, Tryz.ntmps50
  go_wp2
  clear hne hmk
  go_loopw [44] (fun v wr => SplitRel w n N q sec co v wr) (fun v _ => N - (intOf v).toNat)
  case atStart =>
    exact ⟨0, Nat.zero_le _, rfl, ⟨by simp, _, heap_alloc_new w _, by simp [madeCells], fun t ht => absurd ht (by omega)⟩, (Below.refl _ _).alloc (Nat.le_refl _) _⟩
  case round =>
    obtain ⟨wp, rfl⟩ : ∃ wp : World, wp = wr := ⟨_, rfl⟩
    obtain ⟨i, hi, rfl, ⟨hsz, cs, hB, hcs, hsh⟩, hbw⟩ := hrel
    have HSH := Lib.hid hsh; clear hsh
    have HSZ := Lib.hid hsz; clear hsz
    have HCS := Lib.hid hcs; clear hcs
    have HB := Lib.hid hB; clear hB
    by_cases hlt : i < N
    · have hmk2 := fun w => make_u8 w n (by omega)
      obtain ⟨c0, hc0⟩ : ∃ c0, wp.cell? ⟨w.heap.size, i * 2, none⟩ = some c0 := ⟨cs[i * 2]'(by rw [HCS.out]; omega), by rw [cell_of_row _ _ _ _ _ _ HB.out]; exact Array.getElem?_eq_getElem _⟩
      obtain ⟨c1, hc1⟩ : ∃ c1, wp.cell? ⟨w.heap.size, i * 2 + 1, none⟩ = some c1 := ⟨cs[i * 2 + 1]'(by rw [HCS.out]; omega), by rw [cell_of_row _ _ _ _ _ _ HB.out]; exact Array.getElem?_eq_getElem _⟩
      have hf : ∀ o, wp.frozen? ⟨w.heap.size, o, none⟩ = false := fun o => by simp [World.frozen?, HB.out]
      have hlb : w.heap.size < wp.heap.size := by have := HSZ.out; omega
      have hx : ((i : Int) + 1) ≤ 16 := by omega
      go_wp2
      clear hmk2 hc0 hc1 hf
      generalize hwo : (((wp.setCell { block := w.heap.size, off := i * 2 } (Value.int IntKind.u8 ((i : Int) + 1))).setCell
      { block := w.heap.size, off := i * 2 + 1 } (Value.slice (some { block := wp.heap.size, off := 0 }) n n)).alloc
  (Obj.cells (Array.replicate n (Value.int IntKind.u8 0)) 5)) = wo
      have HWO := Lib.hid hwo; clear hwo
      have hwoB : ∃ cs', wo.heap[w.heap.size]? = some (.cells cs' 129 (0, 0)) ∧ cs'.size = N * 2 ∧ cs'[i * 2]? = some (.int .u8 ((i : Int) + 1)) ∧ cs'[i * 2 + 1]? = some (.slice (some ⟨wp.heap.size, 0, none⟩) n n) ∧ ∀ t, t < i → cs'[t * 2]? = cs[t * 2]? ∧ cs'[t * 2 + 1]? = cs[t * 2 + 1]? :=
        split_row HWO.out HB.out HCS.out hlt
      obtain ⟨cs', hB', hcs', hX, hY, hold⟩ := hwoB
      have hwoH : wo.heap[wp.heap.size]? = some (.cells (Array.replicate n (.int .u8 0)) 5 (0, 0)) := by
        rw [← HWO.out]
        have := heap_alloc_new ((wp.setCell { block := w.heap.size, off := i * 2 } (Value.int IntKind.u8 ((i : Int) + 1))).setCell { block := w.heap.size, off := i * 2 + 1 } (Value.slice (some { block := wp.heap.size, off := 0 }) n n)) (.cells (Array.replicate n (.int .u8 0)) 5)
        simpa [World.setCell] using this
      have hwos : wo.heap.size = wp.heap.size + 1 := by rw [← HWO.out]; simp [World.setCell]
      have hwob : Below w.heap.size w wo := by
        rw [← HWO.out]
        exact ((hbw.setCell (p := ⟨w.heap.size, i * 2, none⟩) (Nat.le_refl _) _).setCell (p := ⟨w.heap.size, i * 2 + 1, none⟩) (Nat.le_refl _) _).alloc (by simp [World.setCell]; omega) _
      have hwoo : ∀ b, b ≠ w.heap.size → b < wp.heap.size → wo.heap[b]? = wp.heap[b]? := fun b h1 h2 => by
        rw [← HWO.out, Below.heap_alloc _ _ _ (by simpa [World.setCell] using h2), Below.heap_setCell _ _ _ _ h1, Below.heap_setCell _ _ _ _ h1]
      have HB' := Lib.hid hB'; clear hB'
      have HCS' := Lib.hid hcs'; clear hcs'
      have HX := Lib.hid hX; clear hX
      have HY := Lib.hid hY; clear hY
      have HOLD := Lib.hid hold; clear hold
      have HWH := Lib.hid hwoH; clear hwoH
      have HWS := Lib.hid hwos; clear hwos
      have HWO2 := Lib.hid hwoo; clear hwoo
      clear HWO
      go_loopw [59] (fun v wi => RowRel wo wp.heap.size n q (i + 1) sec co v wi) (fun v _ => n - (intOf v).toNat)
      case atStart =>
        exact ⟨0, Nat.zero_le _, rfl, World.grownBy.refl _ _, rfl, by simp [HWH.out, shareY, u8s]⟩
      case round =>
        obtain ⟨j, hj, rfl, hg, hsz2, hH⟩ := hrel
        have HH := Lib.hid hH; clear hH
        have HS2 := Lib.hid hsz2; clear hsz2
        by_cases hlj : j < n
        · obtain ⟨b, off, rfl, hb, hc⟩ := H.out.2 (by omega)
          have hl : sec.length = n := by have := H.out.1; simpa [u8s] using this
          have hls : j < sec.length := by omega
          have hbw2 : Below w.heap.size w wr := hwob.trans ⟨hg.os, hg.tape, hg.output, hg.size, fun k hk => hg.block k (by have := HWS.out; omega) (by simp; omega)⟩
          have hcell : wr.cell? ⟨b, off + j, none⟩ = some (.int .u8 (sec[j] : Nat)) := (hbw2.cell (p := ⟨b, off + j, none⟩) hb).trans (hc j _ (by simp [u8s, hls]))
          have hBi : wr.heap[w.heap.size]? = some (.cells cs' 129 (0, 0)) := (hg.block _ (by have := HWS.out; omega) (by simp; omega)).trans HB'.out
          have hcx : wr.cell? ⟨w.heap.size, i * 2, none⟩ = some (.int .u8 ((i : Int) + 1)) := by rw [cell_of_row _ _ _ _ _ _ hBi]; exact HX.out
          have hcy : wr.cell? ⟨w.heap.size, i * 2 + 1, none⟩ = some (.slice (some ⟨wp.heap.size, 0, none⟩) n n) := by rw [cell_of_row _ _ _ _ _ _ hBi]; exact HY.out
          have hct : ∃ c2, wr.cell? ⟨wp.heap.size, j, none⟩ = some c2 := by
            refine ⟨_, (cell_of_row _ _ _ _ _ _ HH.out).trans (Array.getElem?_eq_getElem (by simp [u8s, shareY_len]; omega))⟩
          obtain ⟨c2, hct⟩ := hct
          have hft : wr.frozen? ⟨wp.heap.size, j, none⟩ = false := by simp [World.frozen?, HH.out]
          have hjq : j * q ≤ m := by rw [HM.out]; exact Nat.mul_le_mul_right _ (by omega)
          have hjq1 : (j + 1) * q ≤ m := by rw [HM.out]; exact Nat.mul_le_mul_right _ (by omega)
          have hjq2 : (j + 1) * q = j * q + q := by rw [Nat.add_mul, Nat.one_mul]
          obtain ⟨A2, hsl, hrd2⟩ := slice_cut (P := Tryz.prog) (t := 41) (sz := 1) Tryz.underlying41 Tryz.sizeOf5 (H'.out.below hbw2) (j * q) ((j + 1) * q) c' (by omega) hjq1 hmc
          rw [show (j + 1) * q - j * q = q by omega] at hsl hrd2
          have HRD : Hid (Rd wr w.heap.size 1 A2 q (u8s ((co.drop (j * q)).take q))) := Lib.hid (by simpa [u8s, List.map_drop, List.map_take] using hrd2)
          have HBY : Hid (Bytes ((co.drop (j * q)).take q)) := Lib.hid (fun y hy => HCo.out y (List.mem_of_mem_drop (List.mem_of_mem_take hy)))
          have hm0 := i64_small q (by omega)
          have hm3 : IntKind.i64.wrap ((j : Int) + 1) = (j : Int) + 1 := i64_small (j + 1) (by omega)
          have hm1 := i64_mul' j q (by omega)
          have hm2 := i64_mul1 j q (by omega)
          have hv := valF_lt HBY.out (i + 1)
          have hg2 : gm 8 (valF ((co.drop (j * q)).take q) (i + 1)) (i + 1) < 2 ^ 8 := gm_lt (.inl rfl) hv
          have hsb := HSec.out sec[j] (List.getElem_mem hls)
          have HSB : Hid (sec.getD j 0 = sec[j]) := Lib.hid (by simp [hls])
          generalize sec[j] = y at hcell hsb HSB
          clear hBi hc hrd2 hls
          have HJ := Lib.hid hjq; have HJ1 := Lib.hid hjq1; have HJ2 := Lib.hid hjq2
          clear hjq hjq1 hjq2
          have HSB2 : Hid (shareB sec co q (i + 1) j = gm 8 (valF ((co.drop (j * q)).take q) (i + 1)) (i + 1) ^^^ y) := Lib.hid (by unfold shareB; rw [HSB.out])
          generalize (co.drop (j * q)).take q = pl at HRD HBY hv hg2 HSB2
          generalize j * q = P1 at hsl hm1 HJ HJ2
          generalize (j + 1) * q = P2 at hsl hm2 HJ1 HJ2
          go_wp2
          refine wp_region_quiet_tail 32 (by kernel_rfl) (by kernel_rfl) ?_
          simp only [List.take_succ_cons, List.take_zero, List.drop_succ_cons, List.drop_zero]
          repeat (quiet_step ((first | (go_at_call 73; exact quiet_q (value_any _ _ _ _ _ _ _ (by omega) HBY.out (by omega) (by omega) (HRD.out.drewN _))) | (go_at_call 72; exact quiet_e (product_any _ _ (by omega) (by omega) (by omega) (by omega) _)))))
          refine wpQuiet_nil ?_
          intro _ hw'
          obtain ⟨nq, hw''⟩ := hw'
          subst hw''
          clear hm0 hm1 hm2 hm3 hsl
          go_wp2
          refine ⟨⟨j + 1, by omega, by go_num, grown_drewN (grown_set hg _ _) _, (size_setCell _ _ _).trans HS2.out, ?_⟩, by simp [intOf]; omega⟩
          obtain ⟨d, hd⟩ : ∃ d, n - j = d + 1 := ⟨n - j - 1, by omega⟩
          have h1 := HH.out
          rw [hd] at h1
          rw [shareY_snoc, show n - (j + 1) = d by omega, HSB2.out]
          have h2 := row_fill (j := j) h1 (u := .int .u8 ((gm 8 (valF pl (i + 1)) (i + 1) ^^^ y : Nat) : Int)) (by simp [u8s, shareY_len])
          rw [u8_xor_nat _ _ (by omega) (by omega)]
          show (wr.setCell _ _).heap[_]? = _
          rw [h2]
          simp [u8s]
        · go_wp2
          have hjn : j = n := by omega
          subst hjn
          refine ⟨⟨i + 1, by omega, by go_num, ⟨?_, cs', ?_, HCS'.out, ?_⟩, ?_⟩, by simp [intOf]; omega⟩
          · have := HS2.out; have := HWS.out; have := HSZ.out; omega
          · exact (hg.block _ (by have := HWS.out; omega) (by simp; omega)).trans HB'.out
          · intro t ht
            rcases Nat.lt_or_ge t i with hti | hti
            · obtain ⟨g1, g2, g3⟩ := HSH.out t hti
              refine ⟨(HOLD.out t hti).1.trans g1, (HOLD.out t hti).2.trans g2, ?_⟩
              have hsz' := HSZ.out
              rw [hg.block _ (by have := HWS.out; omega) (by simp; omega), HWO2.out _ (by omega) (by omega)]
              exact g3
            · obtain rfl : t = i := by omega
              have hsz' := HSZ.out
              refine ⟨HX.out, ?_, ?_⟩
              · rw [← hsz']; exact HY.out
              · have := HH.out
                rw [Nat.sub_self, List.replicate_zero, List.append_nil] at this
                rw [← hsz']; exact this
          · exact hwob.trans ⟨hg.os, hg.tape, hg.output, hg.size, fun k hk => hg.block k (by have := HWS.out; omega) (by simp; omega)⟩
    · go_wp2
      go_ret2
      obtain rfl : i = N := by omega
      exact ⟨rfl, ⟨HSZ.out, cs, HB.out, HCS.out, HSH.out⟩, hbw⟩
end Go.Proofs.YtblilfbhohnbgaaGreat
