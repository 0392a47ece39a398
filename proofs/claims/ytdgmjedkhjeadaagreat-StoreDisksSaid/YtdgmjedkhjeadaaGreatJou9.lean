/- The contract of journal: the walk. Conditions: as the statement says. -/
import Derived.Test.YtdgmjedkhjeadaaGreatJou8
import Derived.Test.YtdgmjedkhjeadaaGreatBea8
import Derived.Test.YtdgmjedkhjeadaaGreatTick3
import Derived.Deep.LoopGhost
import Derived.Deep.CutBlock
namespace Go.Proofs.YtdgmjedkhjeadaaGreat
open List (setIfInBounds_toArray set_cons_zero set_cons_succ)
open Go.RowKit
set_option linter.unusedVariables false
theorem half8 (n : Nat) : Int.tdiv (n : Int) 2 = ((n / 2 : Nat) : Int) := by rw [Int.tdiv_eq_ediv_of_nonneg (by omega)]; omega
theorem mul8 (a h : Nat) (ha : a ≤ 2) (hh : h ≤ 1000) : wrap64 ((a : Int) * (h : Int)) = ((a * h : Nat) : Int) := by
  have h1 : a * h ≤ 2 * 1000 := Nat.mul_le_mul ha hh
  have h2 : (a : Int) * (h : Int) = ((a * h : Nat) : Int) := by push_cast; rfl
  rw [h2]
  generalize a * h = x at h1
  unfold wrap64; omega
theorem rc0_ok : RcOK rc0 := ⟨by decide, by decide, by decide, by decide, by decide, by decide, by simp [rc0]⟩
/-- While a journal is read. -/
structure JrS (w0 : World) (d : Dk) (St lim : Nat) (jf : Jn) (f : Nat) (w : World) : Prop where
  x : ∃ jn kv xs tb tc, JnAt w St jn kv xs tb tc ∧ JrI jn ∧ f + jn.place = lim ∧ jrn d lim f jn = jf ∧ (∀ k ∈ fpJ St kv xs, w0.heap.size ≤ k) ∧ ∀ k ∈ obT tb, w0.heap.size ≤ k
  b : Below w0.heap.size w0 w
theorem JrS.end0 {w0 w : World} {d : Dk} {St lim : Nat} {jf : Jn} (h : JrS w0 d St lim jf 0 w) : JouP jf w0 (.returned (.pointer (some ⟨St, 0, none⟩))) w := by
  obtain ⟨⟨jn, kv, xs, tb, tc, h1, h2, h3, h4, h5, h6⟩, h7⟩ := h
  have : jn = jf := h4
  subst this
  exact ⟨St, kv, xs, tb, tc, rfl, h1, h2, h5, h6, h7⟩
theorem wpList_load_rec {ops : Array Oper} {rest : List Oper} {o : Oper} {a : Act} {w : World} {Q : Exit → Act → World → Prop} (x : Operand) (ho : o.op = .load 115 x) (hw : Region.wanted o (yielded ops a.tmps) = true)
    (g : Nat) (hx : a.eval x = .pointer (some ⟨g, 0, none⟩)) (r : Rc) (A : Option Addr) (c : Nat) (hg : Bk w g (recC r A c) 115)
    (h : wpList Tryz.prog ops Q rest (a.put o.dst (recV r A c)) w) : wpList Tryz.prog ops Q (o :: rest) a w :=
  wpList_step fun _ hK => by
    rw [if_pos hw]
    exact wp_load_row 115 x ho g hx 115 (recC r A c) (0, 0) _ hg Tryz.underlying115 rfl (recC_info r A c) (hK _ _ h)
section
variable {w : World} {D : Nat} {d : Dk} {bs bm cp : Nat} {p : Option Addr}
set_option maxRecDepth 100000 in
set_option maxHeartbeats 2000000 in
theorem journal_any (h : DkAt w D d bs bm cp p) (area : Nat) (ha : area ≤ 1) : Calls Tryz.prog 72 #[.pointer (some ⟨D, 0, none⟩), .int .i64 (area : Int)] w (JouP (d.journal area) w) := by
  have H := Lib.hid h
  have c0 := h.c0
  have hn := h.ok.n256
  obtain ⟨hl, hhl⟩ : ∃ n, n = d.dur.length / 2 := ⟨_, rfl⟩
  have q1 : Int.tdiv (d.dur.length : Int) 2 = (hl : Int) := by rw [hhl]; exact half8 _
  have hl1 : hl ≤ 128 := by omega
  have q2 := mul8 area hl (by omega) (by omega)
  have q3 := mul8 (area + 1) hl (by omega) (by omega)
  have q4 : wrap64 ((area : Int) + 1) = ((area + 1 : Nat) : Int) := by unfold wrap64; omega
  have hst : area * hl ≤ 1 * 128 := Nat.mul_le_mul ha hl1
  have hlm : (area + 1) * hl ≤ 2 * 128 := Nat.mul_le_mul (by omega) hl1
  have hsl : hl + area * hl = (area + 1) * hl := by rw [Nat.add_mul]; omega
  have HJ : Hid (d.journal area = jrn d ((area + 1) * hl) hl (Jn.zero (area * hl))) := Lib.hid (by unfold Dk.journal; rw [← hhl])
  have hdl : (area + 1) * hl ≤ d.dur.length := by
    have : (area + 1) * hl ≤ 2 * hl := Nat.mul_le_mul (by omega) (Nat.le_refl _)
    omega
  generalize (area + 1) * hl = lim at *
  generalize area * hl = st at *
  generalize d.journal area = jf at HJ ⊢
  have HA := Lib.hid (And.intro hst (And.intro hlm (And.intro hsl hdl)))
  clear h hhl hst hlm hsl
  go_enter Tryz.func72, Tryz.ntmps72
  go_upto_region 3 with fail
  obtain ⟨St, hSt⟩ : ∃ s, s = w.heap.size := ⟨_, rfl⟩
  have HJS : Hid (JrS w d St lim jf hl (w.alloc (.cells (stC (.slice none 0 0) (Jn.zero st) none 0) 117))) := Lib.hid (by
    obtain ⟨h1, h2, h3, _⟩ := HA.out
    refine ⟨⟨Jn.zero st, .slice none 0 0, [], none, 0, ⟨⟨by simp [Jn.zero], by show st ≤ 1000; omega, rc0_ok, by show 0 < _; omega⟩, by rw [hSt]; exact Bk.new _ _ _, World.ownsRow_nil _ _ _ _, fun i x k hx => by simp at hx, World.ownsRow_nil _ _ _ _, by simp⟩, JrI.zero _, by show hl + st = lim; omega, HJ.out.symm, ?_, ?_⟩, balloc _ _⟩
    · intro k hk
      simp [fpJ, ob, Value.ownBlock] at hk
      omega
    · intro k hk
      simp [obT, ob, Value.ownBlock] at hk)
  have q3' : wrap64 (((area : Int) + 1) * (hl : Int)) = (lim : Int) := by
    have : ((area + 1 : Nat) : Int) = (area : Int) + 1 := by push_cast; rfl
    rw [← this]; exact q3
  have q4' : wrap64 ((area : Int) + 1) = (area : Int) + 1 := by rw [q4]; push_cast; rfl
  have HQ3 := Lib.hid (And.intro q3' q4')
  rw [← hSt]
  clear q2 q3 q4 hSt
  change Code.wp _ _ _ _ (w.alloc (.cells (stC (.slice none 0 0) (Jn.zero st) none 0) 117))
  generalize w.alloc (.cells (stC (.slice none 0 0) (Jn.zero st) none 0) 117) = w1 at HJS ⊢
  go_loopg [7, 8] (hl + 1) (fun gk _ _ wr => ∃ f, f < gk ∧ JrS w d St lim jf f wr)
  case atStart => exact ⟨hl, Nat.lt_succ_self _, HJS.out⟩
  case round =>
    obtain ⟨f, hf, hjs⟩ := hrel
    obtain ⟨wi, rfl⟩ : ∃ z : World, z = wr := ⟨_, rfl⟩
    have HS := Lib.hid hjs
    clear hjs
    cases f with
    | zero =>
      obtain ⟨⟨jn, kv, xs, tb, tc, h1, h2, h3, h4, h5, h6⟩, h7⟩ := HS.out
      have c5 : wi.cell? ⟨St, 5, none⟩ = some (.int .i64 (jn.place : Int)) := h1.cells 5
      have hki : ¬ (jn.place : Int) < (lim : Int) := by omega
      clear h1 h2 h4 h5 h6 h7
      go_wp2_with fail
      go_ret
      exact HS.out.end0
    | succ f =>
      obtain ⟨⟨jn, kv, xs, tb, tc, h1, h2, h3, h4, h5, h6⟩, h7⟩ := HS.out
      obtain ⟨pl, hpl⟩ : ∃ p, p = jn.place := ⟨_, rfl⟩
      have c5 : wi.cell? ⟨St, 5, none⟩ = some (.int .i64 (pl : Int)) := by rw [hpl]; exact h1.cells 5
      have hplt : pl < lim := by omega
      have hki : (pl : Int) < (lim : Int) := by omega
      have HD := Lib.hid (H.out.far h7)
      have hpd : pl < d.dur.length := by have := HA.out; omega
      have HSO := Lib.hid (HD.out.newOK hpd)
      have HNW : Hid (∀ W, Below wi.heap.size wi W → Calls Tryz.prog 86 #[.pointer (some ⟨D, 0, none⟩), .int .i64 (pl : Int)] W (RetV (secV (d.newest pl)) W)) := Lib.hid fun W hW => newest_any (HD.out.far hW) hpd
      have HBE : Hid (∀ W, Calls Tryz.prog 98 #[secV (d.newest pl), .int .i64 (pl : Int)] W (BearP (d.newest pl) pl W)) := Lib.hid fun W => bears_any _ _ W HSO.out (by omega)
      have HCF : Hid (∀ W, Below wi.heap.size wi W → W.cell? ⟨St, 5, none⟩ = some (.int .i64 (pl : Int))) := Lib.hid fun W hW => (hW.cell (p := ⟨St, 5, none⟩) h1.blk.lt).trans c5
      have HH := Lib.hid (And.intro h1 (And.intro h2 (And.intro h3 (And.intro h4 (And.intro h5 h6))))); have H7 := Lib.hid h7; have HPL := Lib.hid hpl
      clear h1 h2 h3 h4 h5 h6 h7 hpl
      obtain ⟨s, hs⟩ : ∃ s, s = d.newest pl := ⟨_, rfl⟩
      rw [← hs] at HNW HBE HSO
      have HSS := Lib.hid hs
      unfold secV at HNW HBE
      clear hs
      go_upto_region 4 with fail
      go_cut [7, 8] from 20 to 50 (fun v7 v8 wc => ∃ bx r A c, v7 = .pointer (some ⟨bx, 0, none⟩) ∧ v8 = .bool (bearsR s pl).isSome ∧ (∀ q, bearsR s pl = some q → q = r) ∧ Bk wc bx (recC r A c) 115 ∧ wc.ownsRow wi.heap.size 5 1 (.slice A r.bits.length c) r.bits.length (secC r.bits) ∧ Below wi.heap.size wi wc)
      case first =>
        have HNOW : Hid (Below wi.heap.size wi wi.drew) := Lib.hid (below_drew8 _ _)
        have HC0 := Lib.hid (HCF.out _ HNOW.out)
        -- <REGION r4
        refine wp_region_held_drew (S := (fun W => W.cell? ⟨St, 5, none⟩ = some (.int .i64 (pl : Int)))) (by kernel_rfl) ?_ (fun hHeld => ?_)
        · (try dsimp only); first | exact HC0.out | exact HCB.out | exact HC2.out | exact HC3.out | exact HC5.out
        refine wpAnyH_take (i := 0) (oi := ⟨some 30, _, _, _, _, _⟩) (v := ?_) rfl (by kernel_rfl) (by kernel_rfl) (by kernel_rfl) (fun _ _ _ h => h) (Or.inl ⟨by rfl, ?_⟩) (by assumption) ?_; rotate_left
        · intro w hSw; (try dsimp only at hSw); go_simp; try with_reducible rfl
        try simp only [Act.put, setIfInBounds_toArray, set_cons_zero, set_cons_succ]
        refine wpAnyH_take (i := 1) (oi := ⟨some 31, _, _, _, _, _⟩) (v := ?_) rfl (by kernel_rfl) (by kernel_rfl) (by kernel_rfl) (fun _ _ _ h => h) (Or.inl ⟨by rfl, ?_⟩) (by assumption) ?_; rotate_left
        · intro w hSw; (try dsimp only at hSw); go_simp; try with_reducible rfl
        try simp only [Act.put, setIfInBounds_toArray, set_cons_zero, set_cons_succ]
        refine wpAnyH_take (i := 2) (oi := ⟨some 32, _, _, _, _, _⟩) (v := ?_) rfl (by kernel_rfl) (by kernel_rfl) (by kernel_rfl) (fun _ _ _ h => h) (Or.inl ⟨by rfl, ?_⟩) (by assumption) ?_; rotate_left
        · intro w hSw; (try dsimp only at hSw); go_simp; try with_reducible rfl
        try simp only [Act.put, setIfInBounds_toArray, set_cons_zero, set_cons_succ]
        refine wpAnyH_take (i := 3) (oi := ⟨some 33, _, _, _, _, _⟩) (v := ?_) rfl (by kernel_rfl) (by kernel_rfl) (by kernel_rfl) (fun _ _ _ h => h) (Or.inl ⟨by rfl, ?_⟩) (by assumption) ?_; rotate_left
        · intro w hSw; (try dsimp only at hSw); go_simp; try with_reducible rfl
        try simp only [Act.put, setIfInBounds_toArray, set_cons_zero, set_cons_succ]
        refine wpAnyH_take (i := 4) (oi := ⟨some 34, _, _, _, _, _⟩) (v := ?_) rfl (by kernel_rfl) (by kernel_rfl) (by kernel_rfl) (fun _ _ _ h => h) (Or.inl ⟨by rfl, ?_⟩) (by assumption) ?_; rotate_left
        · intro w hSw; (try dsimp only at hSw); go_simp; try with_reducible rfl
        try simp only [Act.put, setIfInBounds_toArray, set_cons_zero, set_cons_succ]
        refine wpAnyH_take (i := 6) (oi := ⟨some 36, _, _, _, _, _⟩) (v := ?_) rfl (by kernel_rfl) (by kernel_rfl) (by kernel_rfl) (fun _ _ _ h => h) (Or.inl ⟨by rfl, ?_⟩) (by assumption) ?_; rotate_left
        · intro w hSw; (try dsimp only at hSw); go_simp; try with_reducible rfl
        try simp only [Act.put, setIfInBounds_toArray, set_cons_zero, set_cons_succ]
        refine wpAnyH_take (i := 7) (oi := ⟨some 37, _, _, _, _, _⟩) (v := ?_) rfl (by kernel_rfl) (by kernel_rfl) (by kernel_rfl) (fun _ _ _ h => h) (Or.inl ⟨by rfl, ?_⟩) (by assumption) ?_; rotate_left
        · intro w hSw; (try dsimp only at hSw); go_simp; try with_reducible rfl
        try simp only [Act.put, setIfInBounds_toArray, set_cons_zero, set_cons_succ]
        refine wpAnyH_take (i := 8) (oi := ⟨some 38, _, _, _, _, _⟩) (v := ?_) rfl (by kernel_rfl) (by kernel_rfl) (by kernel_rfl) (fun _ _ _ h => h) (Or.inl ⟨by rfl, ?_⟩) (by assumption) ?_; rotate_left
        · intro w hSw; (try dsimp only at hSw); go_simp; try with_reducible rfl
        try simp only [Act.put, setIfInBounds_toArray, set_cons_zero, set_cons_succ]
        refine wpAnyH_take (i := 9) (oi := ⟨some 39, _, _, _, _, _⟩) (v := ?_) rfl (by kernel_rfl) (by kernel_rfl) (by kernel_rfl) (fun _ _ _ h => h) (Or.inl ⟨by rfl, ?_⟩) (by assumption) ?_; rotate_left
        · intro w hSw; (try dsimp only at hSw); go_simp; try with_reducible rfl
        try simp only [Act.put, setIfInBounds_toArray, set_cons_zero, set_cons_succ]
        refine wpAnyH_ready (rs := [5, 14]) (by kernel_rfl) (by simp) ?_
        refine AllReadyH.cons (o := ⟨some 35, _, _, _, _, _⟩) rfl (fun K hK => ?_) ?_
        · skip
          go_simp
          refine (HNW.out _ HNOW.out).mono ?_
          rintro e' w2 ⟨rfl, hb2⟩
          have HNOW := Lib.hid (bnextK HNOW.out hb2)
          have HC2 := Lib.hid (HCF.out _ HNOW.out)
          clear hb2
          go_wp2_with fail
          refine hK.out _ _ ?_ (fun hHeld => ?_)
          · (try dsimp only); first | exact HC0.out | exact HCB.out | exact HC2.out | exact HC3.out | exact HC5.out
          clear hK K
          try simp only [Act.put, setIfInBounds_toArray, set_cons_zero, set_cons_succ]
          refine wpAnyH_ready (rs := [10, 14]) (by kernel_rfl) (by simp) ?_
          refine AllReadyH.cons (o := ⟨some 40, _, _, _, _, _⟩) rfl (fun K hK => ?_) ?_
          · skip
            go_simp
            refine (HBE.out _).mono ?_
            rintro e' w3 ⟨r, A, c, rfl, hq, hown, hb3⟩
            have HQ := Lib.hid hq
            have HOW := Lib.hid (ownsRow_mono hown HNOW.out.size)
            have HNOW := Lib.hid (bnextK HNOW.out hb3)
            have HC3 := Lib.hid (HCF.out _ HNOW.out)
            clear hq hown hb3
            unfold recV
            go_wp2_with fail
            refine hK.out _ _ ?_ (fun hHeld => ?_)
            · (try dsimp only); first | exact HC0.out | exact HCB.out | exact HC2.out | exact HC3.out | exact HC5.out
            clear hK K
            try simp only [Act.put, setIfInBounds_toArray, set_cons_zero, set_cons_succ]
            refine wpAnyH_take (i := 11) (oi := ⟨some 29, _, _, _, _, _⟩) (v := ?_) rfl (by kernel_rfl) (by kernel_rfl) (by kernel_rfl) (fun _ _ _ h => h) (Or.inl ⟨by rfl, ?_⟩) (by assumption) ?_; rotate_left
            · intro w hSw; (try dsimp only at hSw); go_simp; try with_reducible rfl
            try simp only [Act.put, setIfInBounds_toArray, set_cons_zero, set_cons_succ]
            refine wpAnyH_take (i := 12) (oi := ⟨some 41, _, _, _, _, _⟩) (v := ?_) rfl (by kernel_rfl) (by kernel_rfl) (by kernel_rfl) (fun _ _ _ h => h) (Or.inl ⟨by rfl, ?_⟩) (by assumption) ?_; rotate_left
            · intro w hSw; (try dsimp only at hSw); go_simp; try with_reducible rfl
            try simp only [Act.put, setIfInBounds_toArray, set_cons_zero, set_cons_succ]
            refine wpAnyH_take (i := 13) (oi := ⟨some 42, _, _, _, _, _⟩) (v := ?_) rfl (by kernel_rfl) (by kernel_rfl) (by kernel_rfl) (fun _ _ _ h => h) (Or.inl ⟨by rfl, ?_⟩) (by assumption) ?_; rotate_left
            · intro w hSw; (try dsimp only at hSw); go_simp; try with_reducible rfl
            try simp only [Act.put, setIfInBounds_toArray, set_cons_zero, set_cons_succ]
            refine wpAnyH_ready (rs := [14]) (by kernel_rfl) (by simp) ?_
            refine AllReadyH.cons (o := ⟨some 7, _, _, _, _, _⟩) rfl (fun K hK => ?_) AllReadyH.nil
            go_simp
            have HCB : Hid ((w3.alloc (.cells #[.int .i64 0, .int .i64 0, .int .i64 0, .int .i64 0, .int .i64 0, .slice none 0 0] 115)).cell? ⟨St, 5, none⟩ = some (.int .i64 (pl : Int))) := Lib.hid (HCF.out _ (bnextK HNOW.out (balloc _ _)))
            refine hK.out _ _ ?_ (fun hHeld => ?_)
            · (try dsimp only); first | exact HC0.out | exact HCB.out | exact HC2.out | exact HC3.out | exact HC5.out
            clear hK K
            try simp only [Act.put, setIfInBounds_toArray, set_cons_zero, set_cons_succ]
            obtain ⟨wb, hwb⟩ : ∃ z, z = w3.alloc (.cells #[.int .i64 0, .int .i64 0, .int .i64 0, .int .i64 0, .int .i64 0, .slice none 0 0] 115) := ⟨_, rfl⟩
            have HBX : Hid (Bk wb w3.heap.size (recC rc0 none 0) 115) := Lib.hid (by rw [hwb]; exact Bk.new w3 _ _)
            obtain ⟨bx, hbx⟩ : ∃ b, b = w3.heap.size := ⟨_, rfl⟩
            have HBI : Hid (wi.heap.size ≤ bx) := Lib.hid (by rw [hbx]; exact HNOW.out.size)
            have HOW : Hid (wb.ownsRow wi.heap.size 5 1 (.slice A r.bits.length c) r.bits.length (secC r.bits)) := Lib.hid (by rw [hwb]; exact ownsRow_keepB (L := []) HOW.out (.of_below (balloc w3 _)) (by simp))
            have HNOW : Hid (Below wi.heap.size wi wb) := Lib.hid (by rw [hwb]; exact bnextK HNOW.out (balloc _ _))
            rw [← hbx] at HBX
            rw [← hwb, ← hbx]
            have HCB := Lib.hid (HCF.out _ HNOW.out)
            clear hwb hbx
            refine wpAnyH_ready (rs := [15]) (by kernel_rfl) (by simp) ?_
            refine AllReadyH.cons (o := ⟨none, _, _, _, _, _⟩) rfl (fun K hK => ?_) AllReadyH.nil
            refine step_store_bk 115 _ _ rfl rfl bx (recC r A c) rfl rfl _ _ HBX.out (recC_info _ _ _) rfl (recC_all _ _ _) ?_
            have HBY := Lib.hid (Bk.put HBX.out (recC r A c))
            have HOW5 : Hid ((wb.setRow bx (recC r A c)).ownsRow wi.heap.size 5 1 (.slice A r.bits.length c) r.bits.length (secC r.bits)) := Lib.hid (own_keepT HOW.out (keepL_put wb bx (recC r A c)) fun b hb => by
              rw [List.mem_singleton] at hb; subst hb
              exact ⟨_, _, HBX.out, by decide⟩)
            have HNOW5 := Lib.hid (HNOW.out.trans (below_put8 (w := wb) (recC r A c) HBI.out))
            have HC5 := Lib.hid (HCF.out _ HNOW5.out)
            generalize wb.setRow bx (recC r A c) = w5 at HBY HOW5 HNOW5 HC5 ⊢
            refine hK.out _ _ ?_ (fun hHeld => ?_)
            · (try dsimp only); first | exact HC0.out | exact HCB.out | exact HC2.out | exact HC3.out | exact HC5.out
            clear hK K
            try simp only [Act.put]
            refine wpAnyH_take (i := 16) (oi := ⟨some 8, _, _, _, _, _⟩) (v := ?_) rfl (by kernel_rfl) (by kernel_rfl) (by kernel_rfl) (fun _ _ _ h => h) (Or.inl ⟨by rfl, ?_⟩) (by assumption) ?_; rotate_left
            · intro w hSw; (try dsimp only at hSw); go_simp; try with_reducible rfl
            try simp only [Act.put, setIfInBounds_toArray, set_cons_zero, set_cons_succ]
            refine wpAnyH_done (by kernel_rfl) ?_ _
            go_wp2_with fail
            go_meet
            exact ⟨bx, r, A, c, rfl, rfl, HQ.out, HBY.out, HOW5.out, HNOW5.out⟩
          refine AllReadyH.cons (o := ⟨some 7, _, _, _, _, _⟩) rfl (fun K hK => ?_) AllReadyH.nil
          go_simp
          have HCB : Hid ((w2.alloc (.cells #[.int .i64 0, .int .i64 0, .int .i64 0, .int .i64 0, .int .i64 0, .slice none 0 0] 115)).cell? ⟨St, 5, none⟩ = some (.int .i64 (pl : Int))) := Lib.hid (HCF.out _ (bnextK HNOW.out (balloc _ _)))
          refine hK.out _ _ ?_ (fun hHeld => ?_)
          · (try dsimp only); first | exact HC0.out | exact HCB.out | exact HC2.out | exact HC3.out | exact HC5.out
          clear hK K
          try simp only [Act.put, setIfInBounds_toArray, set_cons_zero, set_cons_succ]
          obtain ⟨wb, hwb⟩ : ∃ z, z = w2.alloc (.cells #[.int .i64 0, .int .i64 0, .int .i64 0, .int .i64 0, .int .i64 0, .slice none 0 0] 115) := ⟨_, rfl⟩
          have HBX : Hid (Bk wb w2.heap.size (recC rc0 none 0) 115) := Lib.hid (by rw [hwb]; exact Bk.new w2 _ _)
          obtain ⟨bx, hbx⟩ : ∃ b, b = w2.heap.size := ⟨_, rfl⟩
          have HBI : Hid (wi.heap.size ≤ bx) := Lib.hid (by rw [hbx]; exact HNOW.out.size)
          have HNOW : Hid (Below wi.heap.size wi wb) := Lib.hid (by rw [hwb]; exact bnextK HNOW.out (balloc _ _))
          rw [← hbx] at HBX
          rw [← hwb, ← hbx]
          have HCB := Lib.hid (HCF.out _ HNOW.out)
          clear hwb hbx
          refine wpAnyH_ready (rs := [10]) (by kernel_rfl) (by simp) ?_
          refine AllReadyH.cons (o := ⟨some 40, _, _, _, _, _⟩) rfl (fun K hK => ?_) AllReadyH.nil
          go_simp
          refine (HBE.out _).mono ?_
          rintro e' w3 ⟨r, A, c, rfl, hq, hown, hb3⟩
          have HQ := Lib.hid hq
          have HOW := Lib.hid (ownsRow_mono hown HNOW.out.size)
          have HNOW := Lib.hid (bnextK HNOW.out hb3)
          have HC3 := Lib.hid (HCF.out _ HNOW.out)
          have HBX := Lib.hid (Bk.past HBX.out hb3 HBX.out.lt)
          clear hq hown hb3
          unfold recV
          go_wp2_with fail
          refine hK.out _ _ ?_ (fun hHeld => ?_)
          · (try dsimp only); first | exact HC0.out | exact HCB.out | exact HC2.out | exact HC3.out | exact HC5.out
          clear hK K
          try simp only [Act.put, setIfInBounds_toArray, set_cons_zero, set_cons_succ]
          refine wpAnyH_take (i := 11) (oi := ⟨some 29, _, _, _, _, _⟩) (v := ?_) rfl (by kernel_rfl) (by kernel_rfl) (by kernel_rfl) (fun _ _ _ h => h) (Or.inl ⟨by rfl, ?_⟩) (by assumption) ?_; rotate_left
          · intro w hSw; (try dsimp only at hSw); go_simp; try with_reducible rfl
          try simp only [Act.put, setIfInBounds_toArray, set_cons_zero, set_cons_succ]
          refine wpAnyH_take (i := 12) (oi := ⟨some 41, _, _, _, _, _⟩) (v := ?_) rfl (by kernel_rfl) (by kernel_rfl) (by kernel_rfl) (fun _ _ _ h => h) (Or.inl ⟨by rfl, ?_⟩) (by assumption) ?_; rotate_left
          · intro w hSw; (try dsimp only at hSw); go_simp; try with_reducible rfl
          try simp only [Act.put, setIfInBounds_toArray, set_cons_zero, set_cons_succ]
          refine wpAnyH_take (i := 13) (oi := ⟨some 42, _, _, _, _, _⟩) (v := ?_) rfl (by kernel_rfl) (by kernel_rfl) (by kernel_rfl) (fun _ _ _ h => h) (Or.inl ⟨by rfl, ?_⟩) (by assumption) ?_; rotate_left
          · intro w hSw; (try dsimp only at hSw); go_simp; try with_reducible rfl
          try simp only [Act.put, setIfInBounds_toArray, set_cons_zero, set_cons_succ]
          refine wpAnyH_ready (rs := [15]) (by kernel_rfl) (by simp) ?_
          refine AllReadyH.cons (o := ⟨none, _, _, _, _, _⟩) rfl (fun K hK => ?_) AllReadyH.nil
          refine step_store_bk 115 _ _ rfl rfl bx (recC r A c) rfl rfl _ _ HBX.out (recC_info _ _ _) rfl (recC_all _ _ _) ?_
          have HBY := Lib.hid (Bk.put HBX.out (recC r A c))
          have HOW5 : Hid ((w3.setRow bx (recC r A c)).ownsRow wi.heap.size 5 1 (.slice A r.bits.length c) r.bits.length (secC r.bits)) := Lib.hid (own_keepT HOW.out (keepL_put w3 bx (recC r A c)) fun b hb => by
            rw [List.mem_singleton] at hb; subst hb
            exact ⟨_, _, HBX.out, by decide⟩)
          have HNOW5 := Lib.hid (HNOW.out.trans (below_put8 (w := w3) (recC r A c) HBI.out))
          have HC5 := Lib.hid (HCF.out _ HNOW5.out)
          generalize w3.setRow bx (recC r A c) = w5 at HBY HOW5 HNOW5 HC5 ⊢
          refine hK.out _ _ ?_ (fun hHeld => ?_)
          · (try dsimp only); first | exact HC0.out | exact HCB.out | exact HC2.out | exact HC3.out | exact HC5.out
          clear hK K
          try simp only [Act.put]
          refine wpAnyH_take (i := 16) (oi := ⟨some 8, _, _, _, _, _⟩) (v := ?_) rfl (by kernel_rfl) (by kernel_rfl) (by kernel_rfl) (fun _ _ _ h => h) (Or.inl ⟨by rfl, ?_⟩) (by assumption) ?_; rotate_left
          · intro w hSw; (try dsimp only at hSw); go_simp; try with_reducible rfl
          try simp only [Act.put, setIfInBounds_toArray, set_cons_zero, set_cons_succ]
          refine wpAnyH_done (by kernel_rfl) ?_ _
          go_wp2_with fail
          go_meet
          exact ⟨bx, r, A, c, rfl, rfl, HQ.out, HBY.out, HOW5.out, HNOW5.out⟩
        refine AllReadyH.cons (o := ⟨some 7, _, _, _, _, _⟩) rfl (fun K hK => ?_) AllReadyH.nil
        go_simp
        have HCB : Hid ((wi.alloc (.cells #[.int .i64 0, .int .i64 0, .int .i64 0, .int .i64 0, .int .i64 0, .slice none 0 0] 115)).drew.cell? ⟨St, 5, none⟩ = some (.int .i64 (pl : Int))) := Lib.hid (HCF.out _ (bnextK (balloc _ _) (below_drew8 _ _)))
        refine hK.out _ _ ?_ (fun hHeld => ?_)
        · (try dsimp only); first | exact HC0.out | exact HCB.out | exact HC2.out | exact HC3.out | exact HC5.out
        clear hK K
        try simp only [Act.put, setIfInBounds_toArray, set_cons_zero, set_cons_succ]
        obtain ⟨wb, hwb⟩ : ∃ z, z = (wi.alloc (.cells #[.int .i64 0, .int .i64 0, .int .i64 0, .int .i64 0, .int .i64 0, .slice none 0 0] 115)).drew := ⟨_, rfl⟩
        have HBX : Hid (Bk wb wi.heap.size (recC rc0 none 0) 115) := Lib.hid (by rw [hwb]; exact Bk.new wi _ _)
        obtain ⟨bx, hbx⟩ : ∃ b, b = wi.heap.size := ⟨_, rfl⟩
        have HBI : Hid (wi.heap.size ≤ bx) := Lib.hid (by rw [hbx]; exact Nat.le_refl _)
        have HNOW : Hid (Below wi.heap.size wi wb) := Lib.hid (by rw [hwb]; exact bnextK (balloc _ _) (below_drew8 _ _))
        rw [← hbx] at HBX
        rw [← hwb, ← hbx]
        have HCB := Lib.hid (HCF.out _ HNOW.out)
        clear hwb hbx
        refine wpAnyH_ready (rs := [5]) (by kernel_rfl) (by simp) ?_
        refine AllReadyH.cons (o := ⟨some 35, _, _, _, _, _⟩) rfl (fun K hK => ?_) AllReadyH.nil
        go_simp
        refine (HNW.out _ HNOW.out).mono ?_
        rintro e' w2 ⟨rfl, hb2⟩
        have HNOW := Lib.hid (bnextK HNOW.out hb2)
        have HC2 := Lib.hid (HCF.out _ HNOW.out)
        have HBX := Lib.hid (Bk.past HBX.out hb2 HBX.out.lt)
        clear hb2
        go_wp2_with fail
        refine hK.out _ _ ?_ (fun hHeld => ?_)
        · (try dsimp only); first | exact HC0.out | exact HCB.out | exact HC2.out | exact HC3.out | exact HC5.out
        clear hK K
        try simp only [Act.put, setIfInBounds_toArray, set_cons_zero, set_cons_succ]
        refine wpAnyH_ready (rs := [10]) (by kernel_rfl) (by simp) ?_
        refine AllReadyH.cons (o := ⟨some 40, _, _, _, _, _⟩) rfl (fun K hK => ?_) AllReadyH.nil
        go_simp
        refine (HBE.out _).mono ?_
        rintro e' w3 ⟨r, A, c, rfl, hq, hown, hb3⟩
        have HQ := Lib.hid hq
        have HOW := Lib.hid (ownsRow_mono hown HNOW.out.size)
        have HNOW := Lib.hid (bnextK HNOW.out hb3)
        have HC3 := Lib.hid (HCF.out _ HNOW.out)
        have HBX := Lib.hid (Bk.past HBX.out hb3 HBX.out.lt)
        clear hq hown hb3
        unfold recV
        go_wp2_with fail
        refine hK.out _ _ ?_ (fun hHeld => ?_)
        · (try dsimp only); first | exact HC0.out | exact HCB.out | exact HC2.out | exact HC3.out | exact HC5.out
        clear hK K
        try simp only [Act.put, setIfInBounds_toArray, set_cons_zero, set_cons_succ]
        refine wpAnyH_take (i := 11) (oi := ⟨some 29, _, _, _, _, _⟩) (v := ?_) rfl (by kernel_rfl) (by kernel_rfl) (by kernel_rfl) (fun _ _ _ h => h) (Or.inl ⟨by rfl, ?_⟩) (by assumption) ?_; rotate_left
        · intro w hSw; (try dsimp only at hSw); go_simp; try with_reducible rfl
        try simp only [Act.put, setIfInBounds_toArray, set_cons_zero, set_cons_succ]
        refine wpAnyH_take (i := 12) (oi := ⟨some 41, _, _, _, _, _⟩) (v := ?_) rfl (by kernel_rfl) (by kernel_rfl) (by kernel_rfl) (fun _ _ _ h => h) (Or.inl ⟨by rfl, ?_⟩) (by assumption) ?_; rotate_left
        · intro w hSw; (try dsimp only at hSw); go_simp; try with_reducible rfl
        try simp only [Act.put, setIfInBounds_toArray, set_cons_zero, set_cons_succ]
        refine wpAnyH_take (i := 13) (oi := ⟨some 42, _, _, _, _, _⟩) (v := ?_) rfl (by kernel_rfl) (by kernel_rfl) (by kernel_rfl) (fun _ _ _ h => h) (Or.inl ⟨by rfl, ?_⟩) (by assumption) ?_; rotate_left
        · intro w hSw; (try dsimp only at hSw); go_simp; try with_reducible rfl
        try simp only [Act.put, setIfInBounds_toArray, set_cons_zero, set_cons_succ]
        refine wpAnyH_ready (rs := [15]) (by kernel_rfl) (by simp) ?_
        refine AllReadyH.cons (o := ⟨none, _, _, _, _, _⟩) rfl (fun K hK => ?_) AllReadyH.nil
        refine step_store_bk 115 _ _ rfl rfl bx (recC r A c) rfl rfl _ _ HBX.out (recC_info _ _ _) rfl (recC_all _ _ _) ?_
        have HBY := Lib.hid (Bk.put HBX.out (recC r A c))
        have HOW5 : Hid ((w3.setRow bx (recC r A c)).ownsRow wi.heap.size 5 1 (.slice A r.bits.length c) r.bits.length (secC r.bits)) := Lib.hid (own_keepT HOW.out (keepL_put w3 bx (recC r A c)) fun b hb => by
          rw [List.mem_singleton] at hb; subst hb
          exact ⟨_, _, HBX.out, by decide⟩)
        have HNOW5 := Lib.hid (HNOW.out.trans (below_put8 (w := w3) (recC r A c) HBI.out))
        have HC5 := Lib.hid (HCF.out _ HNOW5.out)
        generalize w3.setRow bx (recC r A c) = w5 at HBY HOW5 HNOW5 HC5 ⊢
        refine hK.out _ _ ?_ (fun hHeld => ?_)
        · (try dsimp only); first | exact HC0.out | exact HCB.out | exact HC2.out | exact HC3.out | exact HC5.out
        clear hK K
        try simp only [Act.put]
        refine wpAnyH_take (i := 16) (oi := ⟨some 8, _, _, _, _, _⟩) (v := ?_) rfl (by kernel_rfl) (by kernel_rfl) (by kernel_rfl) (fun _ _ _ h => h) (Or.inl ⟨by rfl, ?_⟩) (by assumption) ?_; rotate_left
        · intro w hSw; (try dsimp only at hSw); go_simp; try with_reducible rfl
        try simp only [Act.put, setIfInBounds_toArray, set_cons_zero, set_cons_succ]
        refine wpAnyH_done (by kernel_rfl) ?_ _
        go_wp2_with fail
        go_meet
        exact ⟨bx, r, A, c, rfl, rfl, HQ.out, HBY.out, HOW5.out, HNOW5.out⟩
        -- REGION>
      case rest =>
        obtain ⟨w5, rfl⟩ : ∃ z : World, z = wc := ⟨_, rfl⟩
        obtain ⟨bx, r, A, c, rfl, rfl, hq, hbx, how, hb5⟩ := hcut
        have HBX := Lib.hid hbx; have HOW := Lib.hid how; have HB5 := Lib.hid hb5
        obtain ⟨h1, h2, h3, h4, h5, h6⟩ := HH.out
        have HNB : Hid (d.newest jn.place = s) := Lib.hid (by rw [HSS.out, HPL.out])
        have HLT : Hid (¬ lim ≤ jn.place) := Lib.hid (by have := HPL.out; omega)
        have HJ0 := Lib.hid h4; have HJR := Lib.hid h2; have HFP := Lib.hid (And.intro h5 h6)
        have HJN := Lib.hid (h1.far hb5)
        have HF3 := Lib.hid h3
        have HBW := Lib.hid (bnextK H7.out hb5)
        have HSZ := Lib.hid hb5.size
        clear HNW HBE HCF HH hbx how h1 h2 h3 h4 h5 h6 hb5 c5
        have HDONE : Hid (bearsR s pl = none → JouP jf w (.returned (.pointer (some ⟨St, 0, none⟩))) w5) := Lib.hid fun hn => by
          have e : jn = jf := by
            have := HJ0.out
            rw [jrn, if_neg HLT.out, HNB.out, ← HPL.out, hn] at this
            exact this
          subst e
          exact ⟨St, kv, xs, tb, tc, rfl, HJN.out, HJR.out, HFP.out.1, HFP.out.2, HBW.out⟩
        cases hbr : bearsR s pl with
        | none =>
          have HD0 := Lib.hid (HDONE.out hbr)
          clear HDONE hq
          have e1 : (none : Option Rc).isSome = false := rfl
          go_wp2_with fail
          go_ret
          exact HD0.out
        | some q =>
          obtain rfl := hq q hbr
          have hg := (bears_good HSO.out hbr).1
          have HFO := Lib.hid (HJR.out.fol hg (by have := HPL.out; have := HA.out; omega))
          have HJX : Hid (jf = match jn.follow q with | none => jn | some j' => jrn d lim f j') := Lib.hid (by
            have := HJ0.out
            rw [jrn, if_neg HLT.out, HNB.out, ← HPL.out, hbr] at this
            exact this.symm)
          have HGD := Lib.hid hg
          have HFW := Lib.hid (follow_any HJN.out q A c (obT A) (fun k hk => hk) HFO.out (ownsRow_mono HOW.out (Nat.zero_le _)))
          have hob : ∀ k ∈ obT A, w.heap.size ≤ k := fun k hk => by
            have h1 : k ∈ ob (.slice A q.bits.length c) := by rw [ob_tb]; exact hk
            rw [mem_ob] at h1
            have := (HOW.out.lt k h1).1
            have := H7.out.size
            omega
          have HOB := Lib.hid hob
          clear hbr hg hq hob HDONE
          have e1 : (some q : Option Rc).isSome = true := rfl
          go_wp2_with (first
            | (refine wpList_load_rec _ rfl (by rfl) bx rfl q A c HBX.out ?_)
            | fail)
          refine HFW.out.mono ?_
          rintro e w6 (⟨j', hj', rfl, ⟨⟨kv', xs', tb', tc', h1, h2, h3⟩, h4⟩⟩ | ⟨hj', rfl, hb⟩)
          · have hnx := HJR.out.next HGD.out hj'
            have HFIN : Hid (JrS w d St lim jf f w6) := Lib.hid (by
              refine ⟨⟨j', kv', xs', tb', tc', h1, hnx.1, by have := HF3.out; omega, ?_, fun k hk => ?_, fun k hk => ?_⟩, ?_⟩
              · rw [HJX.out, hj']
              · rcases h2 k hk with h | h
                · exact HFP.out.1 k h
                · have := HBW.out.size; omega
              · rcases h3 k hk with h | h | h
                · exact HFP.out.2 k h
                · exact HOB.out k h
                · have := HBW.out.size; omega
              · exact HBW.out.trans (h4.below HBW.out.size fun k hk => HFP.out.1 k hk))
            clear hj' h1 h2 h3 h4 hnx
            go_wp2_with fail
            go_roundg (f + 1)
            case measure => omega
            case rel => exact ⟨f, Nat.lt_succ_self _, HFIN.out⟩
          · have HFIN : Hid (JouP jf w (.returned (.pointer (some ⟨St, 0, none⟩))) w6) := Lib.hid (by
              have e : jf = jn := by rw [HJX.out, hj']
              rw [e]
              exact ⟨St, kv, xs, tb, tc, rfl, HJN.out.far hb, HJR.out, HFP.out.1, HFP.out.2, bnextK HBW.out hb⟩)
            clear hj' hb
            go_wp2_with fail
            go_ret
            exact HFIN.out
end
end Go.Proofs.YtdgmjedkhjeadaaGreat
namespace Go.Proofs.YtdgmjedkhjeadaaGreat
open List (setIfInBounds_toArray set_cons_zero set_cons_succ)
open Go.RowKit
set_option linter.unusedVariables false
section
variable {w w' : World} {S D : Nat} {d : Dk} {s : StM} {bs bm cp : Nat} {p : Option Addr} {F B : List Nat}
set_option maxRecDepth 100000 in
theorem last_any (hd : DkAt w D d bs bm cp p) (hs : StIn w S D s F B) : Calls Tryz.prog 23 #[.pointer (some ⟨S, 0, none⟩)] w fun e w' => e = .returned (.int .i64 (s.last d : Nat)) ∧ Qw w w' := by
  have HC := Lib.hid (check_any hd hs)
  obtain ⟨T, kv, xs, tb, tc, h1, _, _⟩ := hs
  have c4 : w.cell? ⟨S, 4, none⟩ = some (.pointer (some ⟨T, 0, none⟩)) := h1.blk.cell 4
  have c1 : w.cell? ⟨T, 1, none⟩ = some (.int .i64 (s.j.last : Int)) := h1.js.blk.cell 1
  clear h1 hd
  by_cases he : s.age = d.age
  · have HE : Hid (s.last d = s.j.last) := Lib.hid (by unfold StM.last; rw [if_pos he])
    rw [if_pos he] at HC
    clear he
    go_enter Tryz.func23, Tryz.ntmps23
    go_wp2_with fail
    refine HC.out.mono ?_
    rintro e w1 ⟨rfl, n, rfl⟩
    go_wp2_with fail
    go_ret
    exact ⟨by rw [HE.out]; rfl, ⟨n, rfl⟩⟩
  · have HE : Hid (s.last d = 0) := Lib.hid (by unfold StM.last; rw [if_neg he])
    rw [if_neg he] at HC
    clear he
    go_enter Tryz.func23, Tryz.ntmps23
    go_wp2_with fail
    refine HC.out.mono ?_
    rintro e w1 ⟨rfl, n, rfl⟩
    go_wp2_with fail
    go_ret
    exact ⟨by rw [HE.out]; rfl, ⟨n, rfl⟩⟩
set_option maxRecDepth 100000 in
theorem room_any (hd : DkAt w D d bs bm cp p) (hs : StIn w S D s F B) (hp : s.age = d.age → s.j.place ≤ s.lim d) : Calls Tryz.prog 28 #[.pointer (some ⟨S, 0, none⟩)] w fun e w' => e = .returned (.int .i64 (s.room d : Nat)) ∧ Qw w w' := by
  have HC := Lib.hid (check_any hd hs)
  have hok := hs.ok
  obtain ⟨T, kv, xs, tb, tc, h1, _, _⟩ := hs
  have c4 : w.cell? ⟨S, 4, none⟩ = some (.pointer (some ⟨T, 0, none⟩)) := h1.blk.cell 4
  have c2 : w.cell? ⟨S, 2, none⟩ = some (.int .i64 (s.area : Int)) := h1.blk.cell 2
  have c0 : w.cell? ⟨S, 0, none⟩ = some (.pointer (some ⟨D, 0, none⟩)) := h1.blk.cell 0
  have c5 : w.cell? ⟨T, 5, none⟩ = some (.int .i64 (s.j.place : Int)) := h1.js.blk.cell 5
  have d0 := hd.c0
  have hn := hd.ok.n256
  obtain ⟨hl, hhl⟩ : ∃ n, n = d.dur.length / 2 := ⟨_, rfl⟩
  have q1 : Int.tdiv (d.dur.length : Int) 2 = (hl : Int) := by rw [hhl]; exact half8 _
  have hl1 : hl ≤ 128 := by omega
  have ha := hok.area
  have q3 := mul8 (s.area + 1) hl (by omega) (by omega)
  have q4 : wrap64 ((s.area : Int) + 1) = (s.area : Int) + 1 := by unfold wrap64; omega
  have q3' : wrap64 (((s.area : Int) + 1) * (hl : Int)) = (((s.area + 1) * hl : Nat) : Int) := by
    have : ((s.area + 1 : Nat) : Int) = (s.area : Int) + 1 := by push_cast; rfl
    rw [← this]; exact q3
  have hlm : (s.area + 1) * hl ≤ 2 * 128 := Nat.mul_le_mul (by omega) hl1
  have HL : Hid (s.lim d = (s.area + 1) * hl) := Lib.hid (by unfold StM.lim; rw [hhl])
  by_cases he : s.age = d.age
  · have hpl := hp he
    have HE : Hid (s.room d = s.lim d - s.j.place) := Lib.hid (by unfold StM.room; rw [if_pos he])
    rw [if_pos he] at HC
    rw [HL.out] at HE hpl
    clear q3 HL
    generalize (s.area + 1) * hl = lim at *
    have q5 : wrap64 ((lim : Int) - (s.j.place : Int)) = (lim : Int) - (s.j.place : Int) := by unfold wrap64; omega
    have HQ : Hid ((lim : Int) - (s.j.place : Int) = ((lim - s.j.place : Nat) : Int)) := Lib.hid (by omega)
    clear he h1 hd hhl hok hpl hlm hp
    go_enter Tryz.func28, Tryz.ntmps28
    go_wp2_with fail
    refine HC.out.mono ?_
    rintro e w1 ⟨rfl, n, rfl⟩
    go_upto_region 3 with fail
    go_quiet (fail)
    go_wp2_with fail
    go_ret
    exact ⟨by rw [HE.out, ← HQ.out]; exact congrArg (fun z => Ending.returned (.int .i64 z)) q5, Qw.trans ⟨n, rfl⟩ ⟨nq, rfl⟩⟩
  · have HE : Hid (s.room d = 0) := Lib.hid (by unfold StM.room; rw [if_neg he])
    rw [if_neg he] at HC
    clear he h1 hd hhl hok q3 q3' q4 HL
    go_enter Tryz.func28, Tryz.ntmps28
    go_wp2_with fail
    refine HC.out.mono ?_
    rintro e w1 ⟨rfl, n, rfl⟩
    go_wp2_with fail
    go_ret
    exact ⟨by rw [HE.out]; rfl, ⟨n, rfl⟩⟩
end
end Go.Proofs.YtdgmjedkhjeadaaGreat
