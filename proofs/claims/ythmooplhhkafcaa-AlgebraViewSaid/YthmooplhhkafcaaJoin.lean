/- The contract of Join of the program. Conditions: as each statement says. -/
import Derived.Test.YthmooplhhkafcaaJoinMath
import Derived.Test.YthmooplhhkafcaaThru2
import Derived.Test.YthmooplhhkafcaaTail
namespace Go.Proofs.Ythmooplhhkafcaa
open Go.RowKit
set_option linter.unusedVariables false
theorem grown_trans {a b c : World} {r : Option Nat} (h : a.grownBy b r) (h' : b.grownBy c r) : a.grownBy c r :=
  ⟨h'.os.trans h.os, h'.tape.trans h.tape, h'.output.trans h.output, Nat.le_trans h.size h'.size, fun k hk hne => (h'.block k (Nat.lt_of_lt_of_le hk h.size) hne).trans (h.block k hk hne)⟩
theorem grown_alloc (w : World) (o : Obj) (r : Option Nat) : w.grownBy (w.alloc o) r := World.grownBy_alloc w o r
set_option maxRecDepth 100000 in
theorem Join_3 (A : Option Addr) (n c : Nat) (k : Int) (w : World) (h : k < 1 ∨ 16 < k) :
    Calls Try.prog 29 #[.slice A n c, .int .i64 k] w (RetES w 3 []) := by
  rcases h with h | h
  · go_enter Try.func29, Try.ntmps29
    go_wp2_with fail
    go_ret2
    exact RetES.nil 3 (Below.refl _ _)
  · have h2 : ¬ k < 1 := by omega
    go_enter Try.func29, Try.ntmps29
    go_wp2_with fail
    go_ret2
    exact RetES.nil 3 (Below.refl _ _)
set_option maxRecDepth 100000 in
theorem Join_14 (A : Option Addr) (n c k : Nat) (w : World) (hk1 : 1 ≤ k) (hk2 : k ≤ 16) (h : n < k) :
    Calls Try.prog 29 #[.slice A n c, .int .i64 k] w (RetES w 14 []) := by
  have h1 : ¬ (k : Int) < 1 := by omega
  have h2 : ¬ (16 : Int) < (k : Int) := by omega
  have h3 : (n : Int) < (k : Int) := by omega
  go_enter Try.func29, Try.ntmps29
  go_wp2_with fail
  go_ret2
  exact RetES.nil 14 (Below.refl _ _)
set_option maxRecDepth 100000 in
theorem Join_chk (b off n c k : Nat) (s : ShareV) (r : List ShareV) (w : World) (hk1 : 1 ≤ k) (hk2 : k ≤ 16) (hn : n ≤ 1073741824) (h : k ≤ n) (hl : ShR w w.heap.size (some ⟨b, off, none⟩) n (s :: r)) (hE : chkE s.n [] (s :: r) ≠ 0) :
    Calls Try.prog 29 #[.slice (some ⟨b, off, none⟩) n c, .int .i64 k] w (RetES w (chkE s.n [] (s :: r)) []) := by
  have h1 : ¬ (k : Int) < 1 := by omega
  have h2 : ¬ (16 : Int) < (k : Int) := by omega
  have h3 : ¬ (n : Int) < (k : Int) := by omega
  have hn0 : (0 : Int) < (n : Int) := by omega
  obtain ⟨b', off', he, hb, hc⟩ := hl.2.1.2 (by omega)
  injection he with he; injection he with he1 he2 _
  subst he1 he2
  have c1 : w.cell? ⟨b, off + 1, none⟩ = some (.slice s.A s.n s.c) := hc 1 _ rfl
  have hsn := (hl.2.2 s (by simp)).2.2.2.1
  have HC := Lib.hid (check_any (some ⟨b, off, none⟩) n c s.n (s :: r) w hn hsn hl)
  have hE' : (chkE s.n [] (s :: r) != 0) = true := by simpa using hE
  generalize chkE s.n [] (s :: r) = E at HC hE'
  clear hc hE
  go_enter Try.func29, Try.ntmps29
  go_wp2_with fail
  refine HC.out.mono ?_
  rintro e w1 ⟨rfl, hb1⟩
  go_wp2_with fail
  go_ret2
  exact RetES.nil E hb1
set_option maxRecDepth 100000 in
set_option maxHeartbeats 4000000 in
theorem Join_ok (b off n c k len : Nat) (l : List ShareV) (w : World) (hk1 : 1 ≤ k) (hk2 : k ≤ 16) (hnc : n ≤ c) (h : k ≤ n) (hl : ShR w w.heap.size (some ⟨b, off, none⟩) n l) (hE : chkE len [] l = 0) :
    Calls Try.prog 29 #[.slice (some ⟨b, off, none⟩) n c, .int .i64 k] w (RetES w (okE (allJ l k len)) (okS (allJ l k len) (secJ l k len))) := by
  have g := (chk_good len l [] hE).1
  have hn16 : n ≤ 16 := by rw [← hl.1]; exact g.few
  have hne : l ≠ [] := by intro e; have := hl.1; rw [e] at this; simp at this; omega
  have hl256 := g.len hne
  have h1 : (1 : Int) ≤ (k : Int) := by omega
  have h2 : (k : Int) ≤ 16 := by omega
  have h3 : (k : Int) ≤ (n : Int) := by omega
  have hn0 : (0 : Int) < (n : Int) := by omega
  have hbs : ShBytes l := fun s hs => ⟨(hl.2.2 s hs).1, (hl.2.2 s hs).2.1⟩
  obtain ⟨b', off', he, hb, hc⟩ := hl.2.1.2 (by omega)
  injection he with he; injection he with he1 he2 _
  subst he1 he2
  have hl0 : 0 < l.length := by rw [hl.1]; omega
  have hs0 : (l[0]).n = len := g.n _ (List.getElem_mem hl0)
  have c1 : w.cell? ⟨b, off + 1, none⟩ = some (.slice (l[0]).A len (l[0]).c) := by rw [← hs0]; exact hc 1 _ (by have := shCells_1 l 0 hl0; simpa using this)
  have HCK := Lib.hid (check_any (some ⟨b, off, none⟩) n c len l w (by omega) (by omega) hl)
  rw [hE] at HCK
  have HG := Lib.hid g; have HBS := Lib.hid hbs; have HLL := Lib.hid hl
  generalize (l[0]).A = A0 at c1
  generalize (l[0]).c = c0 at c1
  have hmk := fun w => make_u8 w len (by omega)
  clear hc hE g hbs hl hs0 hl0 hne
  go_enter Try.func29, Try.ntmps29
  go_wp2_with fail
  refine HCK.out.mono ?_
  rintro e w1 ⟨rfl, hb1⟩
  have c11 := (hb1.cell (p := ⟨b, off + 1, none⟩) hb).trans c1
  have s1 := hb1.size
  clear c1
  go_wp2_with fail
  clear hmk c11
  obtain ⟨SB, hSB⟩ : ∃ SB, SB = w1.heap.size := ⟨_, rfl⟩
  obtain ⟨w2, hw2⟩ : ∃ w2, w2 = w1.alloc (.cells (Array.replicate len (Value.int .u8 0)) 5) := ⟨_, rfl⟩
  have hb2 : Below w.heap.size w w2 := by rw [hw2]; exact hb1.alloc s1 _
  have hblk2 : w2.heap[SB]? = some (.cells (u8s (secJ l k 0) ++ List.replicate (len - 0) (Value.int .u8 0)).toArray 5 (0, 0)) := by
    rw [hw2, hSB]; simpa [secJ, u8s] using heap_alloc_new w1 _
  rw [← hSB, ← hw2]
  have HB2 := Lib.hid hblk2
  have hSBw : w.heap.size ≤ SB := by omega
  clear hw2 hblk2 hb1 s1 hSB
  go_loopw [43] (fun v wr => ∃ j : Nat, j ≤ len ∧ v = .int .i64 j ∧ wr.heap[SB]? = some (.cells (u8s (secJ l k j) ++ List.replicate (len - j) (Value.int .u8 0)).toArray 5 (0, 0)) ∧ Below w.heap.size w wr ∧ allJ l k j = true) (fun v _ => len - (intOf v).toNat)
  case atStart => exact ⟨0, Nat.zero_le _, rfl, HB2.out, hb2, rfl⟩
  case round =>
    obtain ⟨wp, rfl⟩ : ∃ wp : World, wp = wr := ⟨_, rfl⟩
    obtain ⟨j, hj, rfl, hblk, hbw, hall⟩ := hrel
    have HBK := Lib.hid hblk; have HALL := Lib.hid hall
    have hSB1 : SB < wp.heap.size := (Array.getElem?_eq_some_iff.1 hblk).1
    have hsz := hbw.size
    clear hblk hall
    by_cases hlt : j < len
    · have hlt' : (j : Int) < (len : Int) := by omega
      obtain ⟨A2, hsl, hrd2⟩ := slice_hd (P := Try.prog) (t := 38) (sz := 2) Try.underlying38 Try.sizeOf40 HLL.out.2.1 (k : Int) k c rfl h hnc
      have HHD := Lib.hid (HLL.out.head k h hrd2)
      clear hrd2
      go_wp2_with fail
      clear hsl
      obtain ⟨w0, hw0⟩ : ∃ w0, w0 = wp.alloc (.cells zero35 108) := ⟨_, rfl⟩
      have hP0 := PtsAt.new wp
      have hB0 : Below wp.heap.size wp w0 := by rw [hw0]; exact (Below.refl _ _).alloc (Nat.le_refl _) _
      have hz0 : w0.heap.size = wp.heap.size + 1 := by rw [hw0]; simp
      rw [← hw0] at hP0 ⊢
      obtain ⟨P, hP⟩ : ∃ P, P = wp.heap.size := ⟨_, rfl⟩
      rw [← hP] at hP0 ⊢
      have PP0 := Lib.hid hP0
      have hP1 : P ≤ wp.heap.size := by omega
      have hP2 : wp.heap.size ≤ P := by omega
      clear hP0 hw0 hP
      go_loopw [52] (fun v wr => ∃ i : Nat, i ≤ k ∧ v = .int .i64 i ∧ PtsAt wr P ((ptsJ l k j).take i) ∧ w0.grownBy wr (some P)) (fun v _ => k - (intOf v).toNat)
      case atStart => exact ⟨0, Nat.zero_le _, rfl, by simpa using PP0.out, World.grownBy.refl _ _⟩
      case round =>
        obtain ⟨i, hi, rfl, hpt, hg0⟩ := hrel
        have HPT := Lib.hid hpt
        have hgs := hg0.size
        have bwr : Below w.heap.size w wr := (hbw.trans (hB0.mono hsz)).grown hg0 (by omega) (fun q hq => by have := Option.some.inj hq; omega)
        clear hpt
        by_cases hli : i < k
        · have hli' : (i : Int) < (k : Int) := by omega
          obtain ⟨b2, o2, s, rfl, hls, hb2l, c0, c1, hok⟩ := (HHD.out.below bwr).at hli
          obtain ⟨by', oy, hA, hbyl, cy⟩ := hok.at (j := j) (by rw [HG.out.n s (List.mem_of_mem_take (List.mem_of_getElem? hls))]; exact hlt)
          have hX := hok.1
          have hy256 := getD_byte hok.2.1 j
          have hsn : s.n = len := HG.out.n s (List.mem_of_mem_take (List.mem_of_getElem? hls))
          have HPS : Hid ((ptsJ l k j).take (i + 1) = (ptsJ l k j).take i ++ [(s.X, s.Y.getD j 0)]) := Lib.hid (by
            have hil : i < (ptsJ l k j).length := by rw [ptsJ_len l k j (by rw [HLL.out.1]; exact h)]; exact hli
            rw [take_snoc _ _ hil]
            have e2 : (ptsJ l k j)[i]? = some (s.X, s.Y.getD j 0) := by unfold ptsJ; rw [List.getElem?_map, hls]; rfl
            rw [List.getElem?_eq_getElem hil] at e2
            rw [Option.some.inj e2])
          obtain ⟨X, As, ns, cs, Ys⟩ := s
          dsimp only at c0 c1 cy hX hA hsn hy256 HPS
          subst hA hsn
          generalize Ys.getD j 0 = y at cy hy256 HPS
          clear hok hls
          have hPlt : P < wr.heap.size := by omega
          have hbyx : by' < wr.heap.size := by omega
          have cy2 : (wr.alloc (.cells #[.int .u8 X, .slice (some ⟨by', oy, none⟩) ns cs] 40)).cell? ⟨by', oy + j, none⟩ = some (.int .u8 (y : Nat)) := (World.cell?_alloc_lt wr _ _ hbyx).trans cy
          have hpl : ((ptsJ l k j).take i).length < 17 := by rw [List.length_take]; omega
          go_wp2_with fail
          refine wp_region_quiet_tail 8 (by kernel_rfl) (by kernel_rfl) ?_
          simp only [List.take_succ_cons, List.take_zero, List.drop_succ_cons, List.drop_zero]
          repeat (quiet_step (fail))
          refine wpQuiet_nil ?_
          intro _ hw'
          obtain ⟨nq, hw''⟩ := hw'
          subst hw''
          go_wp2_with fail
          obtain ⟨wx, hwx⟩ : ∃ wx, wx = (wr.alloc (.cells #[.int .u8 X, .slice (some ⟨by', oy, none⟩) ns cs] 40)).drewN nq := ⟨_, rfl⟩
          have hgx : w0.grownBy wx (some P) := by rw [hwx]; exact grown_drewN (grown_trans hg0 (grown_alloc _ _ _)) nq
          have hptx : PtsAt wx P ((ptsJ l k j).take i) := HPT.out.keep (by rw [hwx]; exact Below.heap_alloc _ _ _ hPlt)
          rw [← hwx]
          clear hwx cy2 c0 c1 cy
          refine (put_any P X y ((ptsJ l k j).take i) wx hX hy256 hptx hpl).mono ?_
          rintro e w4 ⟨⟨u, rfl⟩, hpt4, hg4, hz4⟩
          have HP4 := Lib.hid hpt4; have HG4 := Lib.hid (grown_trans hgx hg4)
          clear hptx hgx hpt4 hg4 hz4 hg0
          go_wp2_with fail
          go_roundw
          case rel => exact ⟨i + 1, hli, by go_num, by rw [HPS.out]; exact HP4.out, HG4.out⟩
          case measure => simp [intOf]; omega
        · have hli' : ¬ (i : Int) < (k : Int) := by omega
          obtain rfl : i = k := by omega
          rw [List.take_of_length_le (by rw [ptsJ_len l i j (by rw [HLL.out.1]; exact h)]; exact Nat.le_refl _)] at HPT
          have hPlt : P < wr.heap.size := by omega
          have hblk5 : wr.heap[SB]? = some (.cells (u8s (secJ l i j) ++ List.replicate (len - j) (Value.int .u8 0)).toArray 5 (0, 0)) := by
            rw [hg0.block SB (by omega) (by intro e; have := Option.some.inj e; omega), hB0.block SB hSB1]; exact HBK.out
          have HTH := Lib.hid (through_any P (ptsJ l i j) wr hPlt HPT.out (ptsJ_b HBS.out i j) (ptsJ_d HG.out i j))
          rw [ptsJ_len l i j (by rw [HLL.out.1]; exact h)] at HTH
          clear hg0
          go_wp2_with fail
          refine HTH.out.mono ?_
          rintro e w5 ⟨A5, c5, rfl, hc5, hown5, hb5⟩
          have hbk5 := (hb5.block SB (by omega)).trans hblk5
          have s5 := hb5.size
          have bw5 := bwr.trans (hb5.mono bwr.size)
          have O5 := Lib.hid hown5; have HB5 := Lib.hid hbk5
          try dsimp only [id]
          clear hown5 hblk5 hbk5 hb5
          obtain ⟨A6, hsl, hrd6⟩ := slice_tl (P := Try.prog) (t := 38) (sz := 2) Try.underlying38 Try.sizeOf40 HLL.out.2.1 i c h hnc
          have HTL := Lib.hid (HLL.out.tail i h hrd6)
          clear hrd6
          go_wp2_with fail
          clear hsl
          have hPB := Lib.hid (polyJ_bytes HG.out HBS.out i j)
          have hPL := Lib.hid (polyJ_len HG.out HBS.out i j (by rw [HLL.out.1]; exact h))
          obtain ⟨m, hm⟩ : ∃ m, m = n - i := ⟨_, rfl⟩
          have hm1 : m + i = n := by omega
          rw [← hm] at HTL
          rw [← hm]
          clear hm
          go_loopw [72] (fun v wx => ∃ q : Nat, q ≤ m ∧ v = .int .i64 q ∧ Below w5.heap.size w5 wx ∧ ((l.drop i).take q).all (fun s => valF (polyJ l i j) s.X == s.Y.getD j 0) = true) (fun v _ => m - (intOf v).toNat)
          case atStart => exact ⟨0, Nat.zero_le _, rfl, Below.refl _ _, by simp⟩
          case round =>
            obtain ⟨q, hq, rfl, hb6, hal⟩ := hrel
            have s6 := hb6.size
            have bw6 := bw5.trans (hb6.mono (by omega))
            have HAL := Lib.hid hal
            clear hal
            by_cases hlq : q < m
            · have hlq' : (q : Int) < (m : Int) := by omega
              obtain ⟨b2, o2, s, rfl, hls, hb2l, c0, c1, hok⟩ := (HTL.out.below bw6).at hlq
              have hsn : s.n = len := HG.out.n s (List.mem_of_mem_drop (List.mem_of_getElem? hls))
              obtain ⟨by', oy, hA, hbyl, cy⟩ := hok.at (j := j) (by rw [hsn]; exact hlt)
              have hX := hok.1
              have hy256 := getD_byte hok.2.1 j
              have HTK : Hid ((l.drop i).take (q + 1) = (l.drop i).take q ++ [s]) := Lib.hid (by
                have hql : q < (l.drop i).length := by rw [HTL.out.1]; exact hlq
                rw [take_snoc _ _ hql]
                rw [List.getElem?_eq_getElem hql] at hls
                rw [Option.some.inj hls])
              have HMM : Hid (s ∈ l.drop i) := Lib.hid (List.mem_of_getElem? hls)
              have hv := valF_lt hPB.out s.X
              by_cases hvy : valF (polyJ l i j) s.X = s.Y.getD j 0
              · have HSTEP : Hid (((l.drop i).take (q + 1)).all (fun s => valF (polyJ l i j) s.X == s.Y.getD j 0) = true) := Lib.hid (by rw [HTK.out, List.all_append, HAL.out]; simpa using hvy)
                have hvi : ((valF (polyJ l i j) s.X : Int) != (s.Y.getD j 0 : Int)) = false := by rw [hvy]; simp
                obtain ⟨X, As, ns, cs, Ys⟩ := s
                dsimp only at c0 c1 cy hX hA hsn hy256 hv hvi
                subst hA hsn
                generalize Ys.getD j 0 = y at cy hy256 hvi
                have hbyx : by' < wr.heap.size := by omega
                have cy2 : (wr.alloc (.cells #[.int .u8 X, .slice (some ⟨by', oy, none⟩) ns cs] 40)).cell? ⟨by', oy + j, none⟩ = some (.int .u8 (y : Nat)) := (World.cell?_alloc_lt wr _ _ hbyx).trans cy
                have RD : Hid (Rd (wr.alloc (.cells #[.int .u8 X, .slice (some ⟨by', oy, none⟩) ns cs] 40)) w5.heap.size 1 A5 i (u8s (polyJ l i j))) := Lib.hid ((Rd.own O5.out).below (hb6.alloc s6 _))
                clear hok hls hvy
                go_wp2_with fail
                go_quiet ((go_at_call 65; exact quiet_q (value_nat A5 i c5 (polyJ l i j) X _ _ (by omega) hPB.out (by omega) (RD.out.drewN _))))
                go_wp2_with fail
                go_roundw
                case rel => exact ⟨q + 1, hlq, by go_num, (hb6.alloc s6 _).trans ((Qw.drewN (Qw.refl _) _).below _), HSTEP.out⟩
                case measure => simp [intOf]; omega
              · have hvi : ((valF (polyJ l i j) s.X : Int) != (s.Y.getD j 0 : Int)) = true := by simp only [bne_iff_ne, ne_eq]; omega
                have HF : Hid (allJ l i len = false) := Lib.hid (allJ_false hlt (by
                  cases h1 : okJ l i j
                  · rfl
                  · exact absurd (by simpa using List.all_eq_true.1 h1 s HMM.out) hvy))
                obtain ⟨X, As, ns, cs, Ys⟩ := s
                dsimp only at c0 c1 cy hX hA hsn hy256 hv hvi
                subst hA hsn
                generalize Ys.getD j 0 = y at cy hy256 hvi
                have hbyx : by' < wr.heap.size := by omega
                have cy2 : (wr.alloc (.cells #[.int .u8 X, .slice (some ⟨by', oy, none⟩) ns cs] 40)).cell? ⟨by', oy + j, none⟩ = some (.int .u8 (y : Nat)) := (World.cell?_alloc_lt wr _ _ hbyx).trans cy
                have RD : Hid (Rd (wr.alloc (.cells #[.int .u8 X, .slice (some ⟨by', oy, none⟩) ns cs] 40)) w5.heap.size 1 A5 i (u8s (polyJ l i j))) := Lib.hid ((Rd.own O5.out).below (hb6.alloc s6 _))
                clear hok hls hvy
                go_wp2_with fail
                go_quiet ((go_at_call 65; exact quiet_q (value_nat A5 i c5 (polyJ l i j) X _ _ (by omega) hPB.out (by omega) (RD.out.drewN _))))
                go_wp2_with fail
                go_ret2
                rw [HF.out]
                exact RetES.nil 19 ((bw6.alloc (by omega) _).trans ((Qw.drewN (Qw.refl _) _).below _))
            · have hlq' : ¬ (q : Int) < (m : Int) := by omega
              obtain rfl : q = m := by omega
              have hOK : okJ l i j = true := by
                have h1 := HAL.out
                rw [List.take_of_length_le (by rw [HTL.out.1]; exact Nat.le_refl _)] at h1
                exact h1
              have HALL2 : Hid (allJ l i (j + 1) = true) := Lib.hid (by rw [allJ_snoc, HALL.out, hOK]; rfl)
              have hblk6 := (hb6.block SB (by omega)).trans HB5.out
              have hpl0 : 0 < (polyJ l i j).length := by rw [hPL.out]; omega
              obtain ⟨pb, po, rfl, hpb, hpc⟩ := ((Rd.own O5.out).below hb6).2 (by omega)
              have cp : wr.cell? ⟨pb, po, none⟩ = some (.int .u8 ((polyJ l i j).getD 0 0 : Nat)) := by
                have := hpc 0 (.int .u8 ((polyJ l i j)[0] : Nat)) (by show (u8s (polyJ l i j))[0]? = _; rw [u8s, List.getElem?_map, List.getElem?_eq_getElem hpl0]; rfl)
                simpa [List.getD, List.getElem?_eq_getElem hpl0] using this
              have hii : (0 : Int) < (i : Int) := by omega
              have cS : ∃ u, wr.cell? ⟨SB, j, none⟩ = some u := ⟨_, (cell_of_row _ _ _ _ _ _ hblk6).trans (Array.getElem?_eq_getElem (by simp [u8s, secJ_len]; omega))⟩
              obtain ⟨u, cS⟩ := cS
              have fS : wr.frozen? ⟨SB, j, none⟩ = false := by simp [World.frozen?, hblk6]
              have HB6 := Lib.hid hblk6
              have hsbw : w.heap.size ≤ SB := hSBw
              clear hOK hblk6 hpl0 hpc
              go_wp2_with fail
              refine ⟨⟨j + 1, hlt, by go_num, ?_, bw6.setCell (p := ⟨SB, j, none⟩) hsbw _, HALL2.out⟩, by simp [intOf]; omega⟩
              obtain ⟨d, hd⟩ : ∃ d, len - j = d + 1 := ⟨len - j - 1, by omega⟩
              have h9 := HB6.out
              rw [hd] at h9
              rw [secJ_snoc, show len - (j + 1) = d by omega, u8s, List.map_append]
              exact row_fill (j := j) h9 (by simp [u8s, secJ_len])
    · have hlt' : ¬ (j : Int) < (len : Int) := by omega
      obtain rfl : j = len := by omega
      have hr := HBK.out
      rw [Nat.sub_self, List.replicate_zero, List.append_nil] at hr
      have HR := Lib.hid hr
      clear hr
      go_wp2_with fail
      go_ret2
      rw [HALL.out]
      show RetES w 0 (secJ l k j) _ _
      exact RetES.own (own_of_row HR.out (by simp [u8s, secJ_len]) hSBw (by unfold maxLen; omega)) hbw
end Go.Proofs.Ythmooplhhkafcaa
