/- The contract of Explain of the program. Conditions: as each statement says. -/
import Derived.Test.YtecndceekgaglaaGreatShareV
import Derived.Test.YtecndceekgaglaaGreatThru
import Derived.Laws.CopyOwn
namespace Go.Proofs.YtecndceekgaglaaGreat
open Go.RowKit
set_option linter.unusedVariables false
theorem slice_tlB {P : Program} {t e : TypeId} (ht' : P.underlying t = some (.slice e)) (hz' : ∀ w, (sizeOf e).run P w = .ok 1 w) (g n c lo : Nat) (hlo : lo ≤ n) (hc : n ≤ c) :
    ∃ A2, (lo < c → A2 = some ⟨g, lo, none⟩) ∧ ∀ w', (Instr.sliceAt t (.slice (some ⟨g, 0, none⟩) n c) (some (.int .i64 lo)) none none).run P w' = .ok (.slice A2 (n - lo) (c - lo)) w' := by
  have he : P.elem t = e := by simp [Program.elem, ht']
  have ht : P.underlying t = some (.slice (P.elem t)) := by rw [he]; exact ht'
  have hz : ∀ w, (sizeOf (P.elem t)).run P w = .ok 1 w := by rw [he]; exact hz'
  refine ⟨if c = lo then some ⟨g, 0, none⟩ else some ⟨g, lo, none⟩, fun h => by rw [if_neg (by omega)], fun w' => ?_⟩
  rw [run_sliceAt_slice (h := ht), run_slice_l (ht := ht) (h0 := by omega) (h1 := by omega), hz]
  simp [Result.andThen, sliced, addr_add]
theorem splice_coins (X cs : List Value) (T d : Nat) {J : Nat} (hX : X.length = J) (hT : cs.length ≤ T) : splice (X ++ List.replicate T (Value.int .u8 0)) J cs = X ++ (cs ++ List.replicate (T - cs.length) (Value.int .u8 0)) := by
  subst hX
  simp [splice, List.take_append, List.drop_append]
set_option maxRecDepth 100000 in
theorem Expl_4 (A A' : Option Addr) (n c m c' : Nat) (k : Int) (w : World) (h : 256 < m) :
    Calls Tryz.prog 17 #[.slice A n c, .int .i64 k, .slice A' m c'] w (RetES w 4 []) := by
  have h1 : (256 : Int) < (m : Int) := by omega
  go_enter Tryz.func17, Tryz.ntmps17
  go_wp2_with fail
  go_ret2
  exact RetES.nil 4 (Below.refl _ _)
set_option maxRecDepth 100000 in
theorem Expl_3 (A A' : Option Addr) (n c m c' : Nat) (k : Int) (w : World) (hm : m ≤ 256) (h : k < 1 ∨ 16 < k) :
    Calls Tryz.prog 17 #[.slice A n c, .int .i64 k, .slice A' m c'] w (RetES w 3 []) := by
  have h0 : (m : Int) ≤ 256 := by omega
  rcases h with h | h
  · go_enter Tryz.func17, Tryz.ntmps17
    go_wp2_with fail
    go_ret2
    exact RetES.nil 3 (Below.refl _ _)
  · have h2 : 1 ≤ k := by omega
    go_enter Tryz.func17, Tryz.ntmps17
    go_wp2_with fail
    go_ret2
    exact RetES.nil 3 (Below.refl _ _)
set_option maxRecDepth 100000 in
theorem Expl_5 (A A' : Option Addr) (n c m c' q : Nat) (w : World) (hm : m ≤ 256) (hq : q ≤ 15) (h : q < n) :
    Calls Tryz.prog 17 #[.slice A n c, .int .i64 ((q : Int) + 1), .slice A' m c'] w (RetES w 5 []) := by
  have h0 : (m : Int) ≤ 256 := by omega
  have h1 : ((q : Int) + 1) ≤ 16 := by omega
  have h2 : ((q : Int) + 1) ≤ (n : Int) := by omega
  go_enter Tryz.func17, Tryz.ntmps17
  go_wp2_with fail
  go_ret2
  exact RetES.nil 5 (Below.refl _ _)
set_option maxRecDepth 100000 in
theorem Expl_chk (A A' : Option Addr) (n c m c' q : Nat) (l : List ShareV) (w : World) (hm : m ≤ 256) (hq : q ≤ 15) (h : n ≤ q) (hl : ShR w w.heap.size A n l) (hE : chkE m [] l ≠ 0) :
    Calls Tryz.prog 17 #[.slice A n c, .int .i64 ((q : Int) + 1), .slice A' m c'] w (RetES w (chkE m [] l) []) := by
  have h0 : (m : Int) ≤ 256 := by omega
  have h1 : ((q : Int) + 1) ≤ 16 := by omega
  have h2 : (n : Int) < ((q : Int) + 1) := by omega
  have HC := Lib.hid (check_any A n c m l w (by omega) (by omega) hl)
  have hE' : (chkE m [] l != 0) = true := by simpa using hE
  generalize chkE m [] l = E at HC hE'
  clear hE
  go_enter Tryz.func17, Tryz.ntmps17
  go_wp2_with fail
  refine HC.out.mono ?_
  rintro e w1 ⟨rfl, hb1⟩
  go_wp2_with fail
  go_ret2
  exact RetES.nil E hb1
set_option maxRecDepth 100000 in
set_option maxHeartbeats 1000000 in
theorem Expl_ok (A A' : Option Addr) (n c m c' q : Nat) (l : List ShareV) (sec : List Nat) (w : World) (hm : m ≤ 256) (hq : q ≤ 15) (h : n ≤ q) (hl : ShR w w.heap.size A n l) (hs : Bytes sec) (hrd : Rd w w.heap.size 1 A' m (u8s sec)) (hE : chkE m [] l = 0) :
    Calls Tryz.prog 17 #[.slice A n c, .int .i64 ((q : Int) + 1), .slice A' m c'] w (RetES w 0 (coinsX l sec q m)) := by
  have h0 : (m : Int) ≤ 256 := by omega
  have h1 : ((q : Int) + 1) ≤ 16 := by omega
  have h2 : (n : Int) < ((q : Int) + 1) := by omega
  have g := (chk_good m l [] hE).1
  have hbs : ShBytes l := fun s hs => ⟨(hl.2.2 s hs).1, (hl.2.2 s hs).2.1⟩
  have HC := Lib.hid (check_any A n c m l w (by omega) (by omega) hl)
  rw [hE] at HC
  have hsl : sec.length = m := by have := hrd.1; simpa [u8s] using this
  have HG := Lib.hid g; have HBS := Lib.hid hbs; have HLL := Lib.hid hl; have HS := Lib.hid hs; have HR := Lib.hid hrd; have HSL := Lib.hid hsl
  obtain ⟨T, hT⟩ : ∃ T, T = m * q := ⟨_, rfl⟩
  have hTm : T ≤ 256 * 15 := by rw [hT]; exact Nat.mul_le_mul hm hq
  have hw64 : wrap64 ((m : Int) * (q : Int)) = (T : Int) := by rw [show (m : Int) * (q : Int) = (T : Int) by rw [hT]; simp]; exact IntWalk.wrap64_in _ ⟨by omega, by omega⟩
  have hmk := fun w => make_u8 w T (by omega)
  have HT := Lib.hid hT
  clear hE g hbs hl hs hrd hsl hT
  go_enter Tryz.func17, Tryz.ntmps17
  go_wp2_with fail
  refine HC.out.mono ?_
  rintro e w1 ⟨rfl, hb1⟩
  have s1 := hb1.size
  go_wp2_with fail
  clear hmk hw64
  obtain ⟨CB, hCB⟩ : ∃ CB, CB = w1.heap.size := ⟨_, rfl⟩
  obtain ⟨w2, hw2⟩ : ∃ w2, w2 = w1.alloc (.cells (Array.replicate T (Value.int .u8 0)) 5) := ⟨_, rfl⟩
  have hb2 : Below w.heap.size w w2 := by rw [hw2]; exact hb1.alloc s1 _
  have hblk2 : w2.heap[CB]? = some (.cells (u8s (coinsX l sec q 0) ++ List.replicate (T - 0) (Value.int .u8 0)).toArray 5 (0, 0)) := by
    rw [hw2, hCB]; simpa [coinsX, u8s] using heap_alloc_new w1 _
  have hCBw : w.heap.size ≤ CB := by omega
  rw [← hCB, ← hw2]
  have HB2 := Lib.hid hblk2
  clear hw2 hblk2 hb1 s1 hCB
  go_loopw [43] (fun v wr => ∃ j J : Nat, j ≤ m ∧ J = j * q ∧ v = .int .i64 j ∧ wr.heap[CB]? = some (.cells (u8s (coinsX l sec q j) ++ List.replicate (T - J) (Value.int .u8 0)).toArray 5 (0, 0)) ∧ Below w.heap.size w wr) (fun v _ => m - (intOf v).toNat)
  case atStart => exact ⟨0, 0, Nat.zero_le _, by simp, rfl, HB2.out, hb2⟩
  case round =>
    obtain ⟨wp, rfl⟩ : ∃ wp : World, wp = wr := ⟨_, rfl⟩
    obtain ⟨j, J, hj, hJ, rfl, hblk, hbw⟩ := hrel
    have HBK := Lib.hid hblk; have HJ := Lib.hid hJ
    have hCB1 : CB < wp.heap.size := (Array.getElem?_eq_some_iff.1 hblk).1
    have hsz := hbw.size
    clear hblk hJ
    by_cases hlt : j < m
    · have hlt' : (j : Int) < (m : Int) := by omega
      have hJT : J + q ≤ T := by rw [HJ.out, HT.out]; have := Nat.mul_le_mul_right q (show j + 1 ≤ m from hlt); rw [Nat.add_mul, Nat.one_mul] at this; exact this
      obtain ⟨sb, so, rfl, hsb, hsc⟩ := HR.out.2 (by omega)
      have hjl : j < sec.length := by rw [HSL.out]; exact hlt
      have cs : wp.cell? ⟨sb, so + j, none⟩ = some (.int .u8 (sec.getD j 0 : Nat)) := (hbw.cell (p := ⟨sb, so + j, none⟩) hsb).trans (hsc j _ (by simp [u8s, List.getD, List.getElem?_eq_getElem hjl]))
      have hbb := getD_byte HS.out j
      have HCX : Hid (coinsX l sec q (j + 1) = coinsX l sec q j ++ coinB l (sec.getD j 0) j q) := Lib.hid rfl
      generalize sec.getD j 0 = bj at cs hbb HCX
      clear hsc hjl
      go_wp2_with fail
      obtain ⟨w0, hw0⟩ : ∃ w0, w0 = wp.alloc (.cells zero35 110) := ⟨_, rfl⟩
      have hP0 := PtsAt.new wp
      have hB0 : Below wp.heap.size wp w0 := by rw [hw0]; exact (Below.refl _ _).alloc (Nat.le_refl _) _
      have hz0 : w0.heap.size = wp.heap.size + 1 := by rw [hw0]; simp
      rw [← hw0] at hP0 ⊢
      obtain ⟨P, hP⟩ : ∃ P, P = wp.heap.size := ⟨_, rfl⟩
      rw [← hP] at hP0 ⊢
      have hP1 : P ≤ wp.heap.size := by omega
      have hP2 : wp.heap.size ≤ P := by omega
      clear hw0 hP
      refine (put_any P 0 bj [] w0 (by decide) hbb hP0 (by simp)).mono ?_
      rintro e w3 ⟨⟨u, rfl⟩, hp3, hg3, hz3⟩
      have HP3 := Lib.hid hp3
      clear hp3 hP0 hz3 cs
      go_wp2_with fail
      go_loopw [55] (fun v wr => ∃ i : Nat, i ≤ n ∧ v = .int .i64 i ∧ PtsAt wr P ((ptsX l bj j).take (i + 1)) ∧ w0.grownBy wr (some P)) (fun v _ => n - (intOf v).toNat)
      case atStart => exact ⟨0, Nat.zero_le _, rfl, by simpa [ptsX] using HP3.out, hg3⟩
      case round =>
        obtain ⟨i, hi, rfl, hpt, hg0⟩ := hrel
        have HPT := Lib.hid hpt
        have hgs := hg0.size
        have bwr : Below w.heap.size w wr := (hbw.trans (hB0.mono hsz)).grown hg0 (by omega) (fun q hq => by have := Option.some.inj hq; omega)
        clear hpt
        by_cases hli : i < n
        · have hli' : (i : Int) < (n : Int) := by omega
          obtain ⟨b2, o2, s, rfl, hls, hb2l, c0, c1, hok⟩ := (HLL.out.below bwr).at hli
          have hsn : s.n = m := HG.out.n s (List.mem_of_getElem? hls)
          obtain ⟨by', oy, hA, hbyl, cy⟩ := hok.at (j := j) (by rw [hsn]; exact hlt)
          have hX := hok.1
          have hy256 := getD_byte hok.2.1 j
          have HPS : Hid ((ptsX l bj j).take (i + 1 + 1) = (ptsX l bj j).take (i + 1) ++ [(s.X, s.Y.getD j 0)]) := Lib.hid (by
            have hil : i + 1 < (ptsX l bj j).length := by rw [ptsX_len, HLL.out.1]; omega
            rw [take_snoc _ _ hil]
            have e2 : (ptsX l bj j)[i + 1]? = some (s.X, s.Y.getD j 0) := by
              unfold ptsX ptsJ
              rw [List.getElem?_cons_succ, List.take_length, List.getElem?_map, hls]; rfl
            rw [List.getElem?_eq_getElem hil] at e2
            rw [Option.some.inj e2])
          obtain ⟨X, As, ns, cs, Ys⟩ := s
          dsimp only at c0 c1 cy hX hA hsn hy256 HPS
          subst hA hsn
          generalize Ys.getD j 0 = y at cy hy256 HPS
          clear hok hls
          have hPlt : P < wr.heap.size := by omega
          have hbyx : by' < wr.heap.size := by omega
          have cy2 : (wr.alloc (.cells #[.int .u8 X, .slice (some ⟨by', oy, none⟩) ns cs] 106)).cell? ⟨by', oy + j, none⟩ = some (.int .u8 (y : Nat)) := (World.cell?_alloc_lt wr _ _ hbyx).trans cy
          have hpl : ((ptsX l bj j).take (i + 1)).length < 17 := by rw [List.length_take]; omega
          go_wp2_with fail
          refine wp_region_quiet_tail 8 (by kernel_rfl) (by kernel_rfl) ?_
          simp only [List.take_succ_cons, List.take_zero, List.drop_succ_cons, List.drop_zero]
          repeat (quiet_step (fail))
          refine wpQuiet_nil ?_
          intro _ hw'
          obtain ⟨nq, hw''⟩ := hw'
          subst hw''
          go_wp2_with fail
          obtain ⟨wx, hwx⟩ : ∃ wx, wx = (wr.alloc (.cells #[.int .u8 X, .slice (some ⟨by', oy, none⟩) ns cs] 106)).drewN nq := ⟨_, rfl⟩
          have hgx : w0.grownBy wx (some P) := by rw [hwx]; exact grown_drewN (grown_trans hg0 (grown_alloc _ _ _)) nq
          have hptx : PtsAt wx P ((ptsX l bj j).take (i + 1)) := HPT.out.keep (by rw [hwx]; exact Below.heap_alloc _ _ _ hPlt)
          rw [← hwx]
          clear hwx cy2 c0 c1 cy
          refine (put_any P X y ((ptsX l bj j).take (i + 1)) wx hX hy256 hptx hpl).mono ?_
          rintro e w4 ⟨⟨u, rfl⟩, hpt4, hg4, hz4⟩
          have HP4 := Lib.hid hpt4; have HG4 := Lib.hid (grown_trans hgx hg4)
          clear hptx hgx hpt4 hg4 hz4 hg0
          go_wp2_with fail
          go_roundw
          case rel => exact ⟨i + 1, hli, by go_num, by rw [HPS.out]; exact HP4.out, HG4.out⟩
          case measure => simp [intOf]; omega
        · have hli' : ¬ (i : Int) < (n : Int) := by omega
          obtain rfl : i = n := by omega
          rw [List.take_of_length_le (by rw [ptsX_len, HLL.out.1]; exact Nat.le_refl _)] at HPT
          have hPlt : P < wr.heap.size := by omega
          have hblk5 : wr.heap[CB]? = some (.cells (u8s (coinsX l sec q j) ++ List.replicate (T - J) (Value.int .u8 0)).toArray 5 (0, 0)) := by
            rw [hg0.block CB (by omega) (by intro e; have := Option.some.inj e; omega), hB0.block CB hCB1]; exact HBK.out
          obtain ⟨A2, hA2, hsl2⟩ := slice_tlB (P := Tryz.prog) (t := 23) Tryz.underlying23 Tryz.sizeOf5 CB T T J (by omega) (Nat.le_refl _)
          have hq1 : IntKind.i64.wrap ((q : Int) + 1 - 1) = (q : Int) := by rw [show (q : Int) + 1 - 1 = (q : Int) by omega]; exact i64_small q (by omega)
          have hq2 : IntKind.i64.wrap (q : Int) = (q : Int) := i64_small q (by omega)
          have hjq : IntKind.i64.wrap ((j : Int) * (q : Int)) = (J : Int) := by rw [i64_mul' j q (by rw [← HJ.out]; omega), ← HJ.out]
          have HA2 := Lib.hid hA2; have HB5 := Lib.hid hblk5
          clear hg0 hblk5 hA2
          go_wp2_with fail
          -- <REGION copy
          refine wp_region_held_drew (S := fun _ => True) (by kernel_rfl) ?_ (fun hHeld => ?_)
          · (try dsimp only); try exact True.intro
          refine wpAnyH_take (i := 0) (oi := ⟨some 69, _, _, _, _, _⟩) (v := ?_) rfl (by kernel_rfl) (by kernel_rfl) (by kernel_rfl) (fun _ _ _ h => h) (Or.inl ⟨by rfl, ?_⟩) (by assumption) ?_
          rotate_left
          · (intro w hSw; (try dsimp only at hSw); go_simp; try with_reducible rfl)
          try simp only [Act.put, List.setIfInBounds_toArray, List.set_cons_zero, List.set_cons_succ]
          refine wpAnyH_take (i := 1) (oi := ⟨some 70, _, _, _, _, _⟩) (v := ?_) rfl (by kernel_rfl) (by kernel_rfl) (by kernel_rfl) (fun _ _ _ h => h) (Or.inl ⟨by rfl, ?_⟩) (by assumption) ?_
          rotate_left
          · (intro w hSw; (try dsimp only at hSw); go_simp; try with_reducible rfl)
          try simp only [Act.put, List.setIfInBounds_toArray, List.set_cons_zero, List.set_cons_succ]
          refine wpAnyH_take (i := 2) (oi := ⟨some 71, _, _, _, _, _⟩) (v := ?_) rfl (by kernel_rfl) (by kernel_rfl) (by kernel_rfl) (fun _ _ _ h => h) (Or.inl ⟨by rfl, ?_⟩) (by assumption) ?_
          rotate_left
          · (intro w hSw; (try dsimp only at hSw); go_simp; try with_reducible rfl)
          try simp only [Act.put, List.setIfInBounds_toArray, List.set_cons_zero, List.set_cons_succ]
          refine wpAnyH_take (i := 3) (oi := ⟨some 72, _, _, _, _, _⟩) (v := .int .i64 (q : Int)) rfl (by kernel_rfl) (by kernel_rfl) (by kernel_rfl) (fun _ _ _ h => h) (Or.inl ⟨by rfl, ?_⟩) (by assumption) ?_
          · (intro w hSw; (try dsimp only at hSw); go_simp)
          try simp only [Act.put, List.setIfInBounds_toArray, List.set_cons_zero, List.set_cons_succ]
          refine wpAnyH_take (i := 4) (oi := ⟨some 73, _, _, _, _, _⟩) (v := .int .i64 (J : Int)) rfl (by kernel_rfl) (by kernel_rfl) (by kernel_rfl) (fun _ _ _ h => h) (Or.inl ⟨by rfl, ?_⟩) (by assumption) ?_
          · (intro w hSw; (try dsimp only at hSw); go_simp)
          try simp only [Act.put, List.setIfInBounds_toArray, List.set_cons_zero, List.set_cons_succ]
          refine wpAnyH_take (i := 5) (oi := ⟨some 74, _, _, _, _, _⟩) (v := .slice A2 (T - J) (T - J)) rfl (by kernel_rfl) (by kernel_rfl) (by kernel_rfl) (fun _ _ _ h => h) (Or.inl ⟨by rfl, ?_⟩) (by assumption) ?_
          · (intro w hSw; (try dsimp only at hSw); go_simp)
          try simp only [Act.put, List.setIfInBounds_toArray, List.set_cons_zero, List.set_cons_succ]
          refine wpAnyH_take (i := 6) (oi := ⟨some 75, _, _, _, _, _⟩) (v := ?_) rfl (by kernel_rfl) (by kernel_rfl) (by kernel_rfl) (fun _ _ _ h => h) (Or.inl ⟨by rfl, ?_⟩) (by assumption) ?_
          rotate_left
          · (intro w hSw; (try dsimp only at hSw); go_simp; try with_reducible rfl)
          try simp only [Act.put, List.setIfInBounds_toArray, List.set_cons_zero, List.set_cons_succ]
          refine wpAnyH_ready (rs := [7]) (by kernel_rfl) (by simp) ?_
          refine AllReadyH.cons (o := ⟨some 76, _, _, _, _, _⟩) rfl (fun K hK => ?_) AllReadyH.nil
          go_simp
          refine (through_any P (ptsX l bj j) _ (by exact hPlt) (HPT.out.keep (by rfl)) (ptsX_b HBS.out hbb j) (ptsX_d HG.out bj j)).mono ?_
          rintro e w5 ⟨A5, c5, rfl, hc5, hown5, hb5⟩
          rw [ptsX_len, HLL.out.1] at hc5 hown5
          rw [ptsX_len, HLL.out.1]
          try dsimp only [id]
          obtain ⟨A6, hsl6, hrd6⟩ := slice_tl (P := Tryz.prog) (t := 23) (sz := 1) Tryz.underlying23 Tryz.sizeOf5 (Rd.own hown5) 1 c5 (by omega) hc5
          have hsl7 : ∀ w' : World, (Instr.sliceAt 23 (.slice A5 (i + 1) c5) (some (.int .i64 1)) none none).run Tryz.prog w' = .ok (.slice A6 i (c5 - 1)) w' := hsl6
          clear hsl6
          have hb5' : Below wr.heap.size wr w5 := ((Qw.refl wr).drew.below _).trans hb5
          have hbw5 := bwr.trans (hb5'.mono bwr.size)
          have HB6 := Lib.hid ((hb5'.block CB (by omega)).trans HB5.out)
          have HPLN := Lib.hid (polyX_len HG.out HBS.out hbb j)
          have HLN2 : Hid ((u8s ((polyX l bj j).drop 1)).length = i) := Lib.hid (by simp [u8s, HPLN.out, HLL.out.1])
          have HLN : Hid ((u8s ((polyX l bj j).drop 1)).length = Nat.min i (T - J)) := Lib.hid (by rw [HLN2.out]; show i = min i (T - J); omega)
          have HCLJ : Hid ((coinsX l sec q j).length = J) := Lib.hid (by rw [coinsX_len HG.out HBS.out HS.out (show l.length ≤ q by rw [HLL.out.1]; exact h) j, HJ.out])
          have HFIT : Hid (J + (u8s ((polyX l bj j).drop 1)).length ≤ (u8s (coinsX l sec q j) ++ List.replicate (T - J) (Value.int .u8 0)).length) := Lib.hid (by rw [HLN2.out, List.length_append, List.length_replicate]; have := HCLJ.out; simp only [u8s, List.length_map]; omega)
          have HSRC : Hid (0 < i → ∃ ad, A6 = some ad ∧ ∀ jj v, (u8s ((polyX l bj j).drop 1))[jj]? = some v → w5.cell? (ad.add jj) = some v) := Lib.hid (fun h0 => by
            obtain ⟨pb, po, hA6, _, hcc⟩ := hrd6.2 (by omega)
            refine ⟨⟨pb, po, none⟩, hA6, fun jj v hv => ?_⟩
            rw [addr_add]
            refine hcc jj v ?_
            have e : ((u8s (throughN (ptsX l bj j))).drop (1 * 1)).take ((i + 1 - 1) * 1) = u8s ((polyX l bj j).drop 1) := by
              rw [Nat.one_mul, Nat.mul_one, List.take_of_length_le (by simp [u8s]; have := HPLN.out; unfold polyX at this; rw [this, HLL.out.1]; omega)]
              unfold polyX; simp [u8s, List.map_drop]
            rw [e]; exact hv)
          go_wp2_with fail
          refine hK.out _ _ ?_ (fun hHeld => ?_)
          · (try dsimp only); try exact True.intro
          clear hK K
          try simp only [Act.put, List.setIfInBounds_toArray, List.set_cons_zero, List.set_cons_succ]
          refine wpAnyH_take (i := 8) (oi := ⟨some 77, _, _, _, _, _⟩) (v := .slice A6 i (c5 - 1)) rfl (by kernel_rfl) (by kernel_rfl) (by kernel_rfl) (fun _ _ _ h => h) (Or.inl ⟨by rfl, ?_⟩) (by assumption) ?_
          · (intro w hSw; (try dsimp only at hSw); go_simp)
          try simp only [Act.put, List.setIfInBounds_toArray, List.set_cons_zero, List.set_cons_succ]
          refine wpAnyH_ready (rs := [9]) (by kernel_rfl) (by simp) ?_
          refine AllReadyH.cons (o := ⟨some 78, _, _, _, _, _⟩) rfl (fun K hK => ?_) AllReadyH.nil
          refine step_copy_splice (by rfl) (.tmp 74) (.tmp 77) 23 23 (by rfl) 5 Tryz.underlying23 (by kernel_rfl) A2 A6 (T - J) (T - J) i (c5 - 1) (by rfl) (by rfl) CB J _ 5 HB6.out (u8s ((polyX l bj j).drop 1)) HLN.out (fun h0 => ⟨HA2.out (by have := HLN2.out; omega), HSRC.out (by have := HLN2.out; omega)⟩) HFIT.out (oneCell_map fun _ => rfl) w.heap.size w (by exact hbw5) hCBw ?_
          intro w8 hsp8 hb8
          refine hK.out _ _ ?_ (fun hHeld => ?_)
          · (try dsimp only); try exact True.intro
          clear hK K
          try simp only [Act.put, List.setIfInBounds_toArray, List.set_cons_zero, List.set_cons_succ]
          refine wpAnyH_done (by kernel_rfl) ?_ _
          go_wp2_with fail
          refine ⟨⟨j + 1, J + q, hlt, by rw [HJ.out, Nat.add_mul, Nat.one_mul], by go_num, ?_, hb8⟩, by simp [intOf]; omega⟩
          have h9 := hsp8.out
          rw [splice_coins (u8s (coinsX l sec q j)) (u8s ((polyX l bj j).drop 1)) (T - J) (q - i) (by simp [u8s, HCLJ.out]) (by rw [HLN2.out]; omega)] at h9
          rw [HCX.out]
          rw [h9]
          have e1 : T - J - (u8s ((polyX l bj j).drop 1)).length = (q - i) + (T - (J + q)) := by rw [HLN2.out]; omega
          rw [e1, ← List.replicate_append_replicate]
          have e2 : u8s (coinsX l sec q j ++ coinB l bj j q) ++ List.replicate (T - (J + q)) (Value.int .u8 0) = u8s (coinsX l sec q j) ++ (u8s ((polyX l bj j).drop 1) ++ (List.replicate (q - i) (Value.int .u8 0) ++ List.replicate (T - (J + q)) (Value.int .u8 0))) := by
            have hc : coinB l bj j q = (polyX l bj j).drop 1 ++ List.replicate (q - i) 0 := by unfold coinB; rw [HLL.out.1]
            rw [hc]; simp [u8s]
          rw [e2]
          -- REGION>
    · have hlt' : ¬ (j : Int) < (m : Int) := by omega
      obtain rfl : j = m := by omega
      have hr := HBK.out
      rw [show J = T by rw [HJ.out, HT.out], Nat.sub_self, List.replicate_zero, List.append_nil] at hr
      have HRR := Lib.hid hr
      have hcl := coinsX_len HG.out HBS.out HS.out (show l.length ≤ q by rw [HLL.out.1]; exact h) j
      have HCL : Hid ((coinsX l sec q j).length = T) := Lib.hid (by rw [hcl, HT.out])
      clear hr hcl
      go_wp2_with fail
      go_ret2
      exact RetES.own (own_of_row HRR.out (by simp [u8s, HCL.out]) hCBw (by unfold maxLen; omega)) hbw
end Go.Proofs.YtecndceekgaglaaGreat
