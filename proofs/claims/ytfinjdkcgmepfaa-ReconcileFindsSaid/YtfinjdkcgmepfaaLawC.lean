/- The helpers of the statements about codes: code, fill. Conditions: as each statement says. -/
import Derived.Test.YtfinjdkcgmepfaaCode2
import Derived.Laws.CopyOwn
namespace Go.Proofs.Ytfinjdkcgmepfaa
open Go.RowKit
set_option linter.unusedVariables false
theorem own_blk {w : World} {g base n : Nat} {cs : List Value} {t : TypeId} (h : w.heap[g]? = some (.cells cs.toArray t (0, 0))) (hn : cs.length = n) (hm : n ≤ 1099511627776) (hb : base ≤ g) : w.ownsRow base t 1 (.slice (some ⟨g, 0, none⟩) n n) n cs :=
  ⟨by simp [hn], .inr ⟨g, n, cs.toArray, rfl, hb, h, Nat.le_refl _, by unfold maxLen; omega, by simp [hn], by rw [List.take_of_length_le (by simp [hn])]⟩⟩
/-- What code returns. -/
def CodeR (s : Nat) (w : World) (e : Ending) (w' : World) : Prop := ∃ N C D : Nat, codeE N C D = 0 ∧ N ≤ 64 ∧ C ≤ 40 ∧ e = .returned (codV N C D s) ∧ Below w.heap.size w w'
set_option maxHeartbeats 1000000 in
theorem code_any (b c d s : Nat) (w : World) (hb : b < 256) (hc : c < 256) (hd : d < 256) :
    Calls Try.prog 8 #[.int .u8 b, .int .u8 c, .int .u8 d, .int .u64 s] w (CodeR s w) := by
  obtain ⟨N, hN⟩ : ∃ N, N = 1 + b % 64 := ⟨_, rfl⟩
  obtain ⟨C, hC⟩ : ∃ C, C = 1 + c % 40 := ⟨_, rfl⟩
  obtain ⟨D, hD⟩ : ∃ D, D = 1 + d % min 4 C := ⟨_, rfl⟩
  have e1 : (1 : Int) + (b : Int) % 64 = (N : Int) := by omega
  have e2 : (1 : Int) + (c : Int) % 40 = (C : Int) := by omega
  have hm : 0 < min 4 C := by omega
  have hml : d % min 4 C < min 4 C := Nat.mod_lt _ hm
  have e3 : (1 : Int) + (d : Int) % (min 4 (C : Int)) = (D : Int) := by
    rw [hD, show min (4 : Int) (C : Int) = ((min 4 C : Nat) : Int) by omega, ← Int.natCast_emod]; omega
  have hne : ¬ (min (4 : Int) (C : Int) = 0) := by omega
  have hE : codeE N C D = 0 := codeE_ok.2 ⟨by omega, by omega, by omega, by omega, by omega, by omega, by omega⟩
  have HE := Lib.hid hE
  have hN2 : N ≤ 64 := by omega
  have hC2 : C ≤ 40 := by omega
  have hw : wrap64 (D : Int) = (D : Int) := by unfold wrap64; omega
  clear hN hC hml hE
  have HD := Lib.hid hD
  clear hD
  go_enter Try.func8, Try.ntmps8
  go_wp2_with fail
  refine bodyPost_ret (v := codV N C D s) (by simp [results, Try.results8, go_sem, hw]) rfl ?_
  exact ⟨N, C, D, HE.out, hN2, by omega, rfl, ((Below.refl _ _).alloc (Nat.le_refl _) _).alloc (by simp) _⟩
def fillL (bs : List Bool) (n : Nat) : List Bool := bs.take n ++ List.replicate (n - bs.length) false
theorem fillL_len (bs : List Bool) (n : Nat) : (fillL bs n).length = n := by simp [fillL]; omega
set_option maxHeartbeats 2000000 in
theorem fill_any (A : Option Addr) (m c n : Nat) (bs : List Bool) (w : World) (hn : n ≤ 1000) (h : Rd w w.heap.size 1 A m (bs.map Value.bool)) :
    Calls Try.prog 9 #[.slice A m c, .int .i64 n] w (RetOwn w 4 1 n ((fillL bs n).map Value.bool) id) := by
  have hmk := fun w => make_bool w n (by omega)
  have hbl : bs.length = m := by have := h.1; simpa using this
  have h2 := h.alloc (Nat.le_refl _) (.cells (Array.replicate n (.bool false)) 4)
  obtain ⟨cs, hcs⟩ : ∃ cs, cs = (bs.take n).map Value.bool := ⟨_, rfl⟩
  have hcl : cs.length = Nat.min m n := by rw [hcs, List.length_map, List.length_take, hbl]; exact Nat.min_comm _ _
  have H := Lib.hid h2; have HL := Lib.hid hbl; have HCS := Lib.hid hcs; have HCL := Lib.hid hcl
  clear h h2 hbl hcs hcl
  go_enter Try.func9, Try.ntmps9
  have hpos : 0 < cs.length → ∃ ad, A = some ad ∧ ∀ j v, cs[j]? = some v → (w.alloc (.cells (Array.replicate n (.bool false)) 4)).cell? (ad.add j) = some v := fun h0 => by
    obtain ⟨b, off, hA, _, hcc⟩ := H.out.2 (by have h1 := HCL.out; change _ = min m n at h1; omega)
    refine ⟨_, hA, fun j v hj => ?_⟩
    rw [addr_add]
    refine hcc j v ?_
    rw [HCS.out, List.map_take, List.getElem?_take] at hj
    split at hj
    · exact hj
    · cases hj
  have hfit : 0 + cs.length ≤ (List.replicate n (Value.bool false)).length := by
    have h1 := HCL.out; change _ = min m n at h1; rw [List.length_replicate]; omega
  have hone : ∀ v ∈ cs, v.oneCell' = true := by rw [HCS.out]; exact oneCell_map (fun _ => rfl)
  have HP := Lib.hid hpos; have HF := Lib.hid hfit; have HO := Lib.hid hone
  clear hpos hfit hone
  go_wp2_with (with_reducible refine wpList_copy_splice rfl _ _ _ _ rfl 4 (by kernel_rfl) (by kernel_rfl) _ _ _ _ _ _ rfl rfl w.heap.size 0 (List.replicate n (.bool false)) 4 (by simpa using heap_alloc_new w (.cells (Array.replicate n (.bool false)) 4)) cs HCL.out (fun h0 => ⟨rfl, HP.out h0⟩) HF.out HO.out w.heap.size w ((Below.refl _ _).alloc (Nat.le_refl _) _) (Nat.le_refl _) ?_; intro w2 HG hb2)
  go_ret
  have hg := HG.out
  have e : splice (List.replicate n (Value.bool false)) 0 cs = (fillL bs n).map Value.bool := by
    have := HCL.out
    unfold splice fillL
    rw [List.take_zero, List.nil_append, Nat.zero_add, List.drop_replicate, this, HL.out, HCS.out, List.map_append, List.map_replicate]
    congr 2
    show n - min m n = n - m
    omega
  rw [e] at hg
  exact RetOwn.of (mk := id) (own_blk hg (by rw [List.length_map, fillL_len]) (by omega) (Nat.le_refl _)) hb2
end Go.Proofs.Ytfinjdkcgmepfaa
/- The walk of ReconcileLinear: it returns true for any input. Conditions: none beyond the arguments' types. -/
namespace Go.Proofs.Ytfinjdkcgmepfaa
open Go.RowKit
set_option linter.unusedVariables false
def xorB (a b : List Bool) (k : Nat) : List Bool := (List.range k).map fun i => a.getD i false != b.getD i false
theorem xorB_get {a b : List Bool} {k i : Nat} (h : i < k) : (xorB a b k).getD i false = (a.getD i false != b.getD i false) := by simp [xorB, List.getD_eq_getElem?_getD, h]
theorem xorB_snoc (a b : List Bool) (k : Nat) : xorB a b (k + 1) = xorB a b k ++ [a.getD k false != b.getD k false] := by simp [xorB, List.range_succ]
theorem xorB_len (a b : List Bool) (k : Nat) : (xorB a b k).length = k := by simp [xorB]
/-- A row of n bits, filled up to a place. -/
def padB (l : List Bool) (n : Nat) : List Bool := l ++ List.replicate (n - l.length) false
theorem padB_set (l : List Bool) (n : Nat) (u : Bool) (h : l.length < n) : (padB l n).set l.length u = padB (l ++ [u]) n := by
  unfold padB
  rw [List.set_append_right _ _ (Nat.le_refl _), Nat.sub_self, show n - l.length = (n - (l.length + 1)) + 1 by omega, List.replicate_succ, List.set_cons_zero, List.length_append, List.append_assoc]; rfl
theorem padB_full (l : List Bool) (n : Nat) (h : n ≤ l.length) : padB l n = l := by
  unfold padB; rw [show n - l.length = 0 by omega]; simp
/-- What lies in memory behind the three calls. -/
structure LiI (w0 w : World) (H N C D s : Nat) (A1 A2 A3 : Option Addr) (x y z : List Bool) : Prop where
  bl : Below w0.heap.size w0 w
  cd : CodeAt w H N C D s
  x : Rd w w.heap.size 1 A1 N (x.map Value.bool)
  y : Rd w w.heap.size 1 A2 N (y.map Value.bool)
  z : Rd w w.heap.size 1 A3 N (z.map Value.bool)
theorem LiI.past {w0 w w' : World} {H N C D s : Nat} {A1 A2 A3 : Option Addr} {x y z : List Bool} (h : LiI w0 w H N C D s A1 A2 A3 x y z) (hb : Below w.heap.size w w') : LiI w0 w' H N C D s A1 A2 A3 x y z :=
  ⟨bnext h.bl hb, h.cd.past hb h.cd.lt, h.x.past hb, h.y.past hb, h.z.past hb⟩
theorem Rd.len {w : World} {B n : Nat} {A : Option Addr} {bs : List Bool} (h : Rd w B 1 A n (bs.map Value.bool)) : bs.length = n := by have := h.1; simpa using this
set_option maxRecDepth 100000 in
set_option maxHeartbeats 4000000 in
theorem ReconcileLinear_walk (b c d s : Nat) (v4 : Value) (i4 : BitsArg) (v5 : Value) (i5 : BitsArg) (w : World) (hb : b < 256) (hc : c < 256) (hd : d < 256) (hs : s < 18446744073709551616) (hx4 : IsBits w v4 i4) (hx5 : IsBits w v5 i5) :
    Calls Try.prog 3 #[.int .u8 b, .int .u8 c, .int .u8 d, .int .u64 s, v4, v5] w fun e w' => e = .returned (.bool true) ∧ Below w.heap.size w w' := by
  obtain ⟨A4, n4, c4, a0⟩ := i4
  obtain ⟨A5, n5, c5, b0⟩ := i5
  obtain ⟨rfl, hc4, hm4, hl4, h4⟩ := hx4
  obtain ⟨rfl, hc5, hm5, hl5, h5⟩ := hx5
  have H4 := Lib.hid h4; have H5 := Lib.hid h5
  clear h4 h5 hm4 hm5
  simp only at hl4 hl5 hc4 hc5
  have hs2 : s < two64 := hs
  go_enter Try.func3, Try.ntmps3
  go_wp2_with fail
  refine (code_any b c d s _ hb hc hd).mono ?_
  rintro e w1 ⟨N, C, D, hE, hN, hC, rfl, hb1⟩
  have HB1 : Hid (Below w.heap.size w (w1.alloc (.cells (codC N C D s) 25))) := Lib.hid (hb1.alloc hb1.size _)
  have HCD := Lib.hid (CodeAt.new w1 N C D s)
  obtain ⟨h1, h2, h3, h4, h5, h6, h7⟩ := codeE_ok.1 hE
  have HE := Lib.hid hE
  have c0 := HCD.out.c0
  clear hb1 hE
  go_wp2_with fail
  go_region_held3 (fun w' => w'.cell? ⟨w1.heap.size, 0, none⟩ = some (.int .i64 N)) (first | exact c0 | exact d0 | exact f0)
    ((first
      | (have hsecond := d0
         go_at_call 9
         refine (fill_any A5 n5 c5 N b0 _ (by omega) ((((H5.out.past HB1.out).q (w' := World.drew _) ⟨1, rfl⟩)).past HB2.out)).mono ?_
         rintro e w3 ⟨A2, k2, rfl, hk2, hown2, hb3⟩
         have HCD3 := Lib.hid (HCD2.out.past hb3 HCD2.out.lt)
         have f0 := HCD3.out.c0
         have HB3 := Lib.hid (bnext HB2.out hb3); have HX3 := Lib.hid (HX.out.past hb3); have HY := Lib.hid (Rd.own hown2)
         clear hown2 hb3 hsecond)
      | (go_at_call 9
         refine (fill_any A4 n4 c4 N a0 _ (by omega) (((H4.out.past HB1.out).q (w' := World.drew _) ⟨1, rfl⟩))).mono ?_
         rintro e w2 ⟨A1, k1, rfl, hk1, hown1, hb2⟩
         have HCD2 := Lib.hid ((HCD.out.q (w' := World.drew _) ⟨1, rfl⟩).past hb2 HCD.out.lt)
         have d0 := HCD2.out.c0
         have HB2 := Lib.hid hb2; have HX := Lib.hid (Rd.own hown1)
         clear hown1 hb2)))
  obtain ⟨x, hx⟩ : ∃ x, x = fillL a0 N := ⟨_, rfl⟩
  obtain ⟨y, hy⟩ : ∃ y, y = fillL b0 N := ⟨_, rfl⟩
  rw [← hx] at HX3; rw [← hy] at HY
  have HBL := Lib.hid (bnextQ HB1.out (w1 := World.drew _) ⟨1, rfl⟩ HB3.out)
  clear c0 d0 HB3 HX HCD2 HB2 HB1 HCD hx hy hk1 hk2 H4 H5 hl4 hl5 hc4 hc5
  have hmk := fun w => make_bool w N (by omega)
  go_wp2_with fail
  clear hmk
  have hown := own_new w3 (Array.replicate N (.bool false)) 4 N (by simp) (by omega)
  have HAL : Hid (Below w3.heap.size w3 (w3.alloc (.cells (Array.replicate N (.bool false)) 4))) := Lib.hid ((Below.refl _ _).alloc (Nat.le_refl _) _)
  have HO0 : Hid ((w3.alloc (.cells (Array.replicate N (.bool false)) 4)).ownsRow w3.heap.size 4 1 (.slice (some ⟨w3.heap.size, 0, none⟩) N N) N ((padB (xorB x y 0) N).map Value.bool)) := Lib.hid (by simpa [padB, xorB] using hown)
  clear hown
  obtain ⟨w4, hw4⟩ : ∃ z, z = w3.alloc (.cells (Array.replicate N (.bool false)) 4) := ⟨_, rfl⟩
  rw [← hw4] at HAL HO0 ⊢
  clear hw4 f0
  go_loopw [17] (fun i wr => ∃ k : Nat, k ≤ N ∧ i = .int .i64 k ∧ wr.ownsRow w3.heap.size 4 1 (.slice (some ⟨w3.heap.size, 0, none⟩) N N) N ((padB (xorB x y k) N).map Value.bool) ∧ Below w3.heap.size w3 wr) (fun i _ => N - (intOf i).toNat)
  case atStart => exact ⟨0, Nat.zero_le _, rfl, HO0.out, HAL.out⟩
  case round =>
    obtain ⟨k, hk, rfl, hown, hbw⟩ := hrel
    obtain ⟨wa, rfl⟩ : ∃ z : World, z = wr := ⟨_, rfl⟩
    have c0 := (HCD3.out.past hbw HCD3.out.lt).c0
    have HO := Lib.hid hown; have HBW := Lib.hid hbw
    clear hown hbw HO0 HAL
    by_cases hlt : k < N
    · have hki : (k : Int) < (N : Int) := by omega
      obtain ⟨b2, o2, rfl, hb2, hx⟩ := bool_cell (HX3.out.below HBW.out) hlt
      obtain ⟨b3, o3, rfl, hb3, hy⟩ := bool_cell (HY.out.below HBW.out) hlt
      have e0 : wa.cell? ⟨w3.heap.size, k, none⟩ = some (.bool false) := by
        rw [HO.out.cellAt k (by omega), List.getElem?_map, padB, List.getElem?_append_right (by rw [xorB_len]; exact Nat.le_refl _), xorB_len, Nat.sub_self, List.getElem?_replicate, if_pos (by omega)]; rfl
      have f0 := HO.out.frozenAt k
      have hst := (HO.out.stored k (.bool (x.getD k false != y.getD k false))).1
      have e1 := padB_set (xorB x y k) N (x.getD k false != y.getD k false) (by rw [xorB_len]; exact hlt)
      rw [xorB_len, ← xorB_snoc] at e1
      rw [← List.map_set, e1] at hst
      have HST := Lib.hid hst
      clear hst e1
      generalize x.getD k false = xa at hx HST
      generalize y.getD k false = ya at hy HST
      clear hb2 hb3
      go_wp2_with fail
      go_region
      go_wp2_with fail
      go_roundw
      case rel => exact ⟨k + 1, hlt, by go_num, HST.out, (HBW.out.setCell (p := ⟨w3.heap.size, k, none⟩) (Nat.le_refl _) _).trans (Qw.below (⟨1, rfl⟩ : Qw _ (World.drew _)) _)⟩
      case measure => simp [intOf]; omega
    · have hki : ¬ (k : Int) < (N : Int) := by omega
      obtain rfl : k = N := by omega
      have HI : Hid (LiI w wa w1.heap.size k C D s A1 A2 (some ⟨w3.heap.size, 0, none⟩) x y (xorB x y k)) := Lib.hid ⟨bnext HBL.out HBW.out, HCD3.out.past HBW.out HCD3.out.lt, HX3.out.past HBW.out, HY.out.past HBW.out, by
        have := Rd.own HO.out
        rwa [padB_full _ _ (by rw [xorB_len]; exact Nat.le_refl _)] at this⟩
      have c1 := HI.out.cd.c1; have c2 := HI.out.cd.c2; have c3 := HI.out.cd.c3
      go_wp2_with fail
      refine (Syndrome_ok k C D s A1 k1 x _ HE.out hs2 HI.out.x).mono ?_
      rintro e w5 ⟨S1, q1, rfl, hq1, ho1, hb5⟩
      have HI5 := Lib.hid (HI.out.past hb5)
      have HR1 := Lib.hid (Rd.own ho1)
      have d0 := HI5.out.cd.c0; have d1 := HI5.out.cd.c1; have d2 := HI5.out.cd.c2; have d3 := HI5.out.cd.c3
      clear ho1 hb5 c0 c1 c2 c3
      go_wp2_with fail
      refine (Syndrome_ok k C D s A2 k2 y _ HE.out hs2 HI5.out.y).mono ?_
      rintro e w6 ⟨S2, q2, rfl, hq2, ho2, hb6⟩
      have HI6 := Lib.hid (HI5.out.past hb6)
      have HR1b := Lib.hid (HR1.out.past hb6); have HR2 := Lib.hid (Rd.own ho2)
      have e0 := HI6.out.cd.c0; have e1 := HI6.out.cd.c1; have e2 := HI6.out.cd.c2; have e3 := HI6.out.cd.c3
      clear ho2 hb6 d0 d1 d2 d3
      go_wp2_with fail
      refine (Syndrome_ok k C D s (some ⟨w3.heap.size, 0, none⟩) k (xorB x y k) _ HE.out hs2 HI6.out.z).mono ?_
      rintro e w7 ⟨S3, q3, rfl, hq3, ho3, hb7⟩
      have HI7 := Lib.hid (HI6.out.past hb7)
      have HR1c := Lib.hid (HR1b.out.past hb7); have HR2c := Lib.hid (HR2.out.past hb7); have HR3 := Lib.hid (Rd.own ho3)
      have d0 := HI7.out.cd.c0; have d1 := HI7.out.cd.c1
      have HXOR : Hid (∀ j, j < C → (synL C (xorB x y k) (colsL C D s k)).getD j false = ((synL C x (colsL C D s k)).getD j false != (synL C y (colsL C D s k)).getD j false)) := Lib.hid fun j hj =>
        syn_xor x y _ _ (fun l hl => (colsL_mem (by omega) l hl).2) (fun i hi => xorB_get (by rw [colsL_len] at hi; exact hi)) j hj
      clear ho3 hb7 e0 e1 e2 e3
      generalize synL C (xorB x y k) (colsL C D s k) = s3 at HR3 HXOR
      generalize synL C x (colsL C D s k) = s1 at HR1c HXOR
      generalize synL C y (colsL C D s k) = s2 at HR2c HXOR
      dsimp only
      have hcc : ((C : Int) != (C : Int)) = false := by simp
      go_wp2_with fail
      go_loopw [24] (fun i wr => ∃ j : Nat, j ≤ C ∧ i = .int .i64 j ∧ Below w7.heap.size w7 wr) (fun i _ => C - (intOf i).toNat)
      case atStart => exact ⟨0, Nat.zero_le _, rfl, Below.refl _ _⟩
      case round =>
        obtain ⟨j, hj, rfl, hbw⟩ := hrel
        obtain ⟨wb, rfl⟩ : ∃ z : World, z = wr := ⟨_, rfl⟩
        have HI8 := Lib.hid (HI7.out.past hbw)
        have HB8 := Lib.hid hbw
        have c1 := HI8.out.cd.c1
        clear d0 d1
        by_cases hlj : j < C
        · have hji : (j : Int) < (C : Int) := by omega
          obtain ⟨g1, o1, rfl, hg1, r1⟩ := bool_cell (HR1c.out.past hbw) hlj
          obtain ⟨g2, o2, rfl, hg2, r2⟩ := bool_cell (HR2c.out.past hbw) hlj
          obtain ⟨g3, o3, rfl, hg3, r3⟩ := bool_cell (HR3.out.past hbw) hlj
          rw [HXOR.out j hlj] at r3
          generalize s1.getD j false = ba at r1 r3
          generalize s2.getD j false = bb at r2 r3
          clear hbw hg1 hg2 hg3
          cases ba <;> cases bb
          all_goals
            simp only [bne_self_eq_false, Bool.true_bne, Bool.false_bne, Bool.not_false, Bool.not_true] at r3
            go_wp2_with fail
            go_region
            go_wp2_with fail
            go_roundw
            case rel => exact ⟨j + 1, hlj, by go_num, bnext HB8.out (Qw.below (⟨1, rfl⟩ : Qw _ (World.drew _)) _)⟩
            case measure => simp [intOf]; omega
        · have hji : ¬ (j : Int) < (C : Int) := by omega
          clear hbw
          go_wp2_with fail
          refine (works_any _).mono ?_
          rintro e w9 ⟨rfl, hb9⟩
          go_wp2_with fail
          go_ret
          exact ⟨rfl, bnext HI8.out.bl hb9⟩
#print axioms ReconcileLinear_walk
end Go.Proofs.Ytfinjdkcgmepfaa
