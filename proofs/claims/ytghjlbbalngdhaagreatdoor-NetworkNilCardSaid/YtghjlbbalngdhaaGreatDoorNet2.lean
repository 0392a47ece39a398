/- Places of the search in memory, and the contract of apply. Conditions: as each statement says. -/
import Derived.Test.YtghjlbbalngdhaaGreatDoorNet1
import Derived.Test.YtghjlbbalngdhaaGreatDoorKeepL
import Derived.Test.YtghjlbbalngdhaaGreatDoorPush2
import Derived.Deep.LoopGhost
import Derived.BigQuiet
namespace Go.Proofs.YtghjlbbalngdhaaGreatDoor
open Go.RowKit
open Go.Maps (Keyed)
set_option linter.unusedVariables false
theorem net_laidOut : laidOutB Tryz.prog = true := by kernel_rfl
theorem pl_keyed : Keyed Tryz.prog 222 := Keyed.of_law (deep_law_laid (m := 5) net_laidOut (by decide) (of_decide_eq_true (by kernel_rfl)) (by kernel_rfl) (by kernel_rfl))
abbrev plV (x : Pl) : Value := .agg #[.int .i64 (x.1 : Int), .bool x.2]
theorem keyOf_pl (x : Pl) (h : x.1 ≤ 1000000) : ∃ kl, keyOf Tryz.prog 222 (plV x) = some kl := by
  obtain ⟨p, f⟩ := x
  dsimp only at h
  have w1 : (Lit.int .i64 (p : Int)).wf = true := WalkArith.wf_i64 (by omega)
  have kt : Tryz.prog.keyType 222 = true := by kernel_rfl
  have c1 : Tryz.prog.cellsOf 222 = 2 := by kernel_rfl
  have c2 : Tryz.prog.cellsOf 3 = 1 := by kernel_rfl
  have c3 : Tryz.prog.cellsOf 4 = 1 := by kernel_rfl
  have hsz : 0 < Tryz.prog.types.size := of_decide_eq_true (by kernel_rfl)
  obtain ⟨d, hd⟩ : ∃ d, Tryz.prog.types.size + 1 = d + 1 + 1 := ⟨Tryz.prog.types.size - 1, by omega⟩
  have hf : (plV ⟨p, f⟩).formed Tryz.prog 222 = true := by simp [Value.formed, Tryz.underlying222, c1]
  unfold keyOf
  rw [Tryz.underlying222, hd]
  simp only [kt, hf, Bool.and_self, if_true]
  have h0 : Tryz.prog.keyLits (d + 1 + 1) 222 (plV ⟨p, f⟩).cells.toList = some [.int .i64 p, .bool f] := by
    simp [Program.keyLits, Tryz.underlying222, Tryz.underlying3, Tryz.underlying4, Value.cells, c1, c2, c3, w1]
  rw [h0]
  exact ⟨_, rfl⟩
def plK : KeyT 222 Pl where
  kv := plV
  ok x := x.1 ≤ 1000000
  law := pl_keyed
  key := keyOf_pl
  inj x y h := by
    obtain ⟨a, b⟩ := x; obtain ⟨c, d⟩ := y
    simp only [plV, Value.agg.injEq, Array.mk.injEq, List.cons.injEq, Value.int.injEq, Value.bool.injEq, and_true, true_and] at h
    rw [show a = c by omega, h.2]
theorem zero_pl (w : World) : (zeroValue 222).run Tryz.prog w = .ok (plV (0, false)) w := by kernel_rfl
/-- How each place was come to, as the map says it. -/
def cameF (came : List (Pl × Pl)) (x : Pl) : Option Value := (came.find? fun c => c.1 == x).map fun c => plV c.2
theorem cameF_was (came : List (Pl × Pl)) (x : Pl) : (cameF came x).getD (plV (0, false)) = plV (wasOf came x) := by
  unfold cameF wasOf
  cases came.find? fun c => c.1 == x <;> rfl
/-- So many steps back lead to the beginning. -/
def Back (came : List (Pl × Pl)) (s n : Nat) : Nat → Pl → Prop
  | 0, _ => False
  | f + 1, x => x.1 < n ∧ (x.1 = s ∨ Back came s n f (wasOf came x))
abbrev pairC (l : List (Nat × Nat)) : List Value := l.flatMap fun c => [Value.int .i64 (c.1 : Int), Value.int .i64 (c.2 : Int)]
theorem info_change : (Tryz.prog.info? 240).map (fun i => (i.zero, i.size, i.bytes)) = some (some (.agg #[.int .i64 0, .int .i64 0]), 2, 16) := by kernel_rfl
theorem elB_change : ElemB Tryz.prog 238 240 2 16 := ElemB.of Tryz.underlying238 info_change rfl (by decide)
theorem pairC_snoc (l : List (Nat × Nat)) (a b : Nat) : pairC (l ++ [(a, b)]) = pairC l ++ (#[Value.int .i64 (a : Int), Value.int .i64 (b : Int)] : Array Value).toList := by simp [pairC]
theorem pairC_at : ∀ (l : List (Nat × Nat)) (i : Nat) (h : i < l.length), (pairC l)[i * 2]? = some (.int .i64 (l[i].1 : Int)) ∧ (pairC l)[i * 2 + 1]? = some (.int .i64 (l[i].2 : Int))
  | [], _, h => by simp at h
  | a :: l, 0, _ => by simp [pairC]
  | a :: l, i + 1, h => by
    have := pairC_at l i (by simpa using h)
    simp only [pairC, List.flatMap_cons, List.getElem_cons_succ, show (i + 1) * 2 = i * 2 + 2 by omega, List.cons_append, List.nil_append] at this ⊢
    simpa using this
/-- Two slices that do not share a block. -/
def Apart2 (v u : Value) : Prop := ∀ k, v.ownBlock = some k → u.ownBlock ≠ some k
/-- Where the way back stands. -/
structure AppI (wr w : World) (came : List (Pl × Pl)) (s n F g : Nat) (x : Pl) (y1 : Nat) (y2 : Bool) (A C : List (Nat × Nat)) (av cv : Value) : Prop where
  back : Back came s n g (y1, y2)
  way : backW came s F x = (C ++ (backW came s g (y1, y2)).1, A ++ (backW came s g (y1, y2)).2)
  box : Bk wr w.heap.size #[.int .i64 (y1 : Int), .bool y2] 222
  add : wr.ownsRow (w.heap.size + 1) 240 2 av A.length (pairC A)
  cut : wr.ownsRow (w.heap.size + 1) 240 2 cv C.length (pairC C)
  apart : Apart2 av cv
  len : A.length + C.length + g ≤ F
  bel : Below w.heap.size w wr
  ok : ∀ c ∈ A, c.1 < n ∧ c.2 < n
  ok2 : ∀ c ∈ C, c.1 < n ∧ c.2 < n
theorem Back.lt {came : List (Pl × Pl)} {s n f : Nat} {x : Pl} (h : Back came s n f x) : x.1 < n := by
  cases f with
  | zero => exact h.elim
  | succ f => exact h.1
theorem cutAll_snoc : ∀ (l : List (Nat × Nat)) (nx pv : List Int) (c : Nat × Nat), cutAll nx pv (l ++ [c]) = cut1 (cutAll nx pv l).1 (cutAll nx pv l).2 c
  | [], _, _, _ => rfl
  | a :: l, nx, pv, c => cutAll_snoc l _ _ c
theorem addAll_snoc (s : Nat) : ∀ (l : List (Nat × Nat)) (nx pv : List Int) (c : Nat × Nat), addAll s nx pv (l ++ [c]) = add1 s (addAll s nx pv l).1 (addAll s nx pv l).2 c
  | [], _, _, _ => rfl
  | a :: l, nx, pv, c => addAll_snoc s l _ _ c
theorem cut1_len (nx pv : List Int) (c : Nat × Nat) : (cut1 nx pv c).1.length = nx.length ∧ (cut1 nx pv c).2.length = pv.length := by
  unfold cut1; constructor <;> (dsimp only; split <;> simp)
theorem add1_len (s : Nat) (nx pv : List Int) (c : Nat × Nat) : (add1 s nx pv c).1.length = nx.length ∧ (add1 s nx pv c).2.length = pv.length := by
  unfold add1; constructor
  · dsimp only; split <;> simp
  · simp
/-- Where the changes stand. -/
structure ChgI (wr w : World) (n hn hp : Nat) (N P : List Int) (A C : List (Nat × Nat)) (av cv : Value) : Prop where
  nl : N.length = n ∧ P.length = n
  n1 : IRow wr hn N
  p1 : IRow wr hp P
  add : wr.ownsRow (w.heap.size + 1) 240 2 av A.length (pairC A)
  cut : wr.ownsRow (w.heap.size + 1) 240 2 cv C.length (pairC C)
  kp : KeepL [hn, hp] w wr
theorem ChgI.alloc {wr w : World} {n hn hp : Nat} {N P : List Int} {A C : List (Nat × Nat)} {av cv : Value} (h : ChgI wr w n hn hp N P A C av cv) (o : Obj) : ChgI (wr.alloc o) w n hn hp N P A C av cv :=
  ⟨h.nl, h.n1.keepL (KeepL.alloc [] _ _) (by simp), h.p1.keepL (KeepL.alloc [] _ _) (by simp), h.add.alloc _, h.cut.alloc _, h.kp.trans (KeepL.alloc _ _ _)⟩
theorem ChgI.q {wr wr' w : World} {n hn hp : Nat} {N P : List Int} {A C : List (Nat × Nat)} {av cv : Value} (h : ChgI wr w n hn hp N P A C av cv) (hq : Qw wr wr') : ChgI wr' w n hn hp N P A C av cv :=
  ⟨h.nl, h.n1.keepL (KeepL.q (L := []) hq) (by simp), h.p1.keepL (KeepL.q (L := []) hq) (by simp), ownsRow_keepL h.add (KeepL.q (L := []) hq) (by simp), ownsRow_keepL h.cut (KeepL.q (L := []) hq) (by simp), h.kp.trans (KeepL.q hq)⟩
theorem ChgI.setN {wr w : World} {n hn hp : Nat} {N P : List Int} {A C : List (Nat × Nat)} {av cv : Value} (h : ChgI wr w n hn hp N P A C av cv) (hne : hn ≠ hp) (hlt : hn < w.heap.size) (i : Nat) (x : Int) : ChgI (wr.setCell ⟨hn, i, none⟩ (.int .i64 x)) w n hn hp (N.set i x) P A C av cv :=
  ⟨⟨by rw [List.length_set]; exact h.nl.1, h.nl.2⟩, h.n1.set i x, h.p1.keepL (KeepL.set _ _ _ _) (by simp; omega), ownsRow_keepL h.add (KeepL.set _ _ _ _) (by simp; omega), ownsRow_keepL h.cut (KeepL.set _ _ _ _) (by simp; omega), h.kp.trans ((KeepL.set _ _ _ _).sub (by simp))⟩
theorem ChgI.setP {wr w : World} {n hn hp : Nat} {N P : List Int} {A C : List (Nat × Nat)} {av cv : Value} (h : ChgI wr w n hn hp N P A C av cv) (hne : hn ≠ hp) (hlt : hp < w.heap.size) (i : Nat) (x : Int) : ChgI (wr.setCell ⟨hp, i, none⟩ (.int .i64 x)) w n hn hp N (P.set i x) A C av cv :=
  ⟨⟨h.nl.1, by rw [List.length_set]; exact h.nl.2⟩, h.n1.keepL (KeepL.set _ _ _ _) (by simp; omega), h.p1.set i x, ownsRow_keepL h.add (KeepL.set _ _ _ _) (by simp; omega), ownsRow_keepL h.cut (KeepL.set _ _ _ _) (by simp; omega), h.kp.trans ((KeepL.set _ _ _ _).sub (by simp))⟩
def ApplyP (came : List (Pl × Pl)) (s hn hp : Nat) (nx pv : List Int) (x : Pl) (f : Nat) (w : World) (e : Ending) (w' : World) : Prop :=
  ∃ r, r = backW came s f x ∧ e = .returned (.tuple #[]) ∧ IRow w' hn (addAll s (cutAll nx pv r.1).1 (cutAll nx pv r.1).2 r.2).1 ∧ IRow w' hp (addAll s (cutAll nx pv r.1).1 (cutAll nx pv r.1).2 r.2).2 ∧ KeepL [hn, hp] w w'
set_option maxRecDepth 100000 in
set_option maxHeartbeats 1000000 in
theorem apply_any (gv : Value) (km nn : Nat) (came : List (Pl × Pl)) (s n hn hp F : Nat) (nx pv : List Int) (x : Pl) (w : World) (hne : hn ≠ hp) (hn9 : n ≤ 1000) (hF : F ≤ 1000) (hl : nx.length = n ∧ pv.length = n)
    (hm : MapAt plK w km nn (cameF came)) (h1 : IRow w hn nx) (h2 : IRow w hp pv) (hB : Back came s n F x) :
    Calls Tryz.prog 167 #[gv, plV x, .int .i64 (s : Int), .map (some km), .slice (some ⟨hn, 0, none⟩) n n, .slice (some ⟨hp, 0, none⟩) n n] w (ApplyP came s hn hp nx pv x F w) := by
  have HM := Lib.hid hm; have H1 := Lib.hid h1; have H2 := Lib.hid h2; have HB := Lib.hid hB
  have hkm : km < w.heap.size := hm.lt
  have hk1 : hn < w.heap.size := h1.lt
  have hk2 : hp < w.heap.size := h2.lt
  clear hm h1 h2 hB
  go_enter Tryz.func167, Tryz.ntmps167
  go_wp2_with fail
  have HI0 : Hid (AppI (w.alloc (.cells #[.int .i64 (x.1 : Int), .bool x.2] 222)) w came s n F F x x.1 x.2 [] [] (.slice none 0 0) (.slice none 0 0)) := Lib.hid
    ⟨HB.out, by simp, Bk.new _ _ _, World.ownsRow_nil _ _ _ _, World.ownsRow_nil _ _ _ _, (fun k hk => by cases hk), by simp, (Below.refl _ _).alloc (Nat.le_refl _) _, by simp, by simp⟩
  generalize w.alloc (.cells #[.int .i64 (x.1 : Int), .bool x.2] 222) = W at HI0 ⊢
  go_loopg [12, 13] F (fun g av cv wr => ∃ (y1 : Nat) (y2 : Bool) (A C : List (Nat × Nat)), AppI wr w came s n F g x y1 y2 A C av cv)
  case atStart => exact ⟨_, _, _, _, HI0.out⟩
  case round =>
    obtain ⟨y1, y2, A, C, hi⟩ := hrel
    obtain ⟨wa, rfl⟩ : ∃ z : World, z = wr := ⟨_, rfl⟩
    have HI := Lib.hid hi
    have b0 : wa.cell? ⟨w.heap.size, 0, none⟩ = some (.int .i64 (y1 : Int)) := hi.box.cell 0
    have b1 : wa.cell? ⟨w.heap.size, 1, none⟩ = some (.bool y2) := hi.box.cell 1
    have hylt : y1 < n := hi.back.lt
    clear hi HI0 HB
    by_cases hys : y1 = s
    · subst hys
      have hw : Hid (backW came y1 F x = (C, A)) := Lib.hid (by
        have h1 := HI.out.way
        have h2 := HI.out.back
        cases gk with
        | zero => exact h2.elim
        | succ g => rw [backW, if_pos rfl] at h1; simpa using h1)
      have HC0 : Hid (ChgI wa w n hn hp nx pv A C u12 u13) := Lib.hid ⟨hl, H1.out.keepL (KeepL.of_below (L := []) HI.out.bel) (by simp), H2.out.keepL (KeepL.of_below (L := []) HI.out.bel) (by simp), HI.out.add, HI.out.cut, .of_below HI.out.bel⟩
      have hok := HI.out.ok
      have hok2 := HI.out.ok2
      have HOK := Lib.hid hok; have HOK2 := Lib.hid hok2
      obtain ⟨Aa, ca, rfl, hca⟩ := own_form HI.out.add
      obtain ⟨Ac, cc, rfl, hcc⟩ := own_form HI.out.cut
      have hlenA : A.length ≤ 1000 := by have := HI.out.len; omega
      have hlenC : C.length ≤ 1000 := by have := HI.out.len; omega
      clear hok hok2 HI H1 H2 HM
      go_wp2_with fail
      clear b0 b1
      go_loopw [47] (fun i wr => ∃ k : Nat, k ≤ C.length ∧ i = .int .i64 k ∧ ChgI wr w n hn hp (cutAll nx pv (C.take k)).1 (cutAll nx pv (C.take k)).2 A C (.slice Aa A.length ca) (.slice Ac C.length cc)) (fun i _ => C.length - (intOf i).toNat)
      case atStart => exact ⟨0, Nat.zero_le _, rfl, HC0.out⟩
      case round =>
        obtain ⟨k, hk, rfl, hc⟩ := hrel
        obtain ⟨wb, rfl⟩ : ∃ z : World, z = wr := ⟨_, rfl⟩
        have HC := Lib.hid hc
        clear hc HC0
        by_cases hlt : k < C.length
        · have hki : (k : Int) < (C.length : Int) := by omega
          obtain ⟨b, off, hAc, hbb, hcell⟩ := (Rd.own HC.out.cut).2 (by omega)
          have q0 := hcell _ _ (pairC_at C k hlt).1
          have q1 := hcell _ _ (pairC_at C k hlt).2
          have HT : Hid (C.take (k + 1) = C.take k ++ [C[k]]) := Lib.hid (take_snoc _ _ hlt)
          have hlt2 := HOK2.out C[k] (List.getElem_mem hlt)
          subst hAc
          rw [← Nat.add_assoc] at q1
          have hST := Lib.hid (cutAll_snoc (C.take k) nx pv C[k])
          generalize C[k] = c at q0 q1 HT hlt2 hST
          obtain ⟨x1, x2⟩ := c
          dsimp only at q0 q1 hlt2
          obtain ⟨N, P, hNP⟩ : ∃ N P, (N, P) = cutAll nx pv (C.take k) := ⟨_, _, rfl⟩
          have HC' : Hid (ChgI wb w n hn hp N P A C (.slice Aa A.length ca) (.slice (some ⟨b, off, none⟩) C.length cc)) := Lib.hid (by have := HC.out; rw [← hNP] at this; exact this)
          have HNP : Hid (cutAll nx pv (C.take (k + 1)) = cut1 N P (x1, x2)) := Lib.hid (by rw [HT.out, hST.out, ← hNP])
          have l1 := HC'.out.nl.1
          have l2 := HC'.out.nl.2
          have hbx : Bk (wb.alloc (.cells #[.int .i64 (x1 : Int), .int .i64 (x2 : Int)] 240)) wb.heap.size #[.int .i64 (x1 : Int), .int .i64 (x2 : Int)] 240 := Bk.new _ _ _
          have HA := Lib.hid (HC'.out.alloc (.cells #[.int .i64 (x1 : Int), .int .i64 (x2 : Int)] 240))
          have hsw : w.heap.size ≤ wb.heap.size := HC'.out.kp.size
          clear HC HT hST hNP HC'
          obtain ⟨n1, hn1⟩ : ∃ z : Int, z = N.getD x1 0 := ⟨_, rfl⟩
          obtain ⟨p1, hp1⟩ : ∃ z : Int, z = P.getD x2 0 := ⟨_, rfl⟩
          have cn : (wb.alloc (.cells #[.int .i64 (x1 : Int), .int .i64 (x2 : Int)] 240)).cell? ⟨hn, x1, none⟩ = some (.int .i64 n1) := by rw [hn1]; exact HA.out.n1.cell (by omega)
          have cp : (wb.alloc (.cells #[.int .i64 (x1 : Int), .int .i64 (x2 : Int)] 240)).cell? ⟨hp, x2, none⟩ = some (.int .i64 p1) := by rw [hp1]; exact HA.out.p1.cell (by omega)
          have x1n : (x1 : Int) < (n : Int) := by omega
          have x2n : (x2 : Int) < (n : Int) := by omega
          have HN1 := Lib.hid hn1; have HP1 := Lib.hid hp1
          clear hn1 hp1
          go_wp2_with fail
          have HBX := Lib.hid hbx
          have d0 : (wb.alloc (.cells #[.int .i64 (x1 : Int), .int .i64 (x2 : Int)] 240)).cell? ⟨wb.heap.size, 0, none⟩ = some (.int .i64 (x1 : Int)) := hbx.cell 0
          have d1 : (wb.alloc (.cells #[.int .i64 (x1 : Int), .int .i64 (x2 : Int)] 240)).cell? ⟨wb.heap.size, 1, none⟩ = some (.int .i64 (x2 : Int)) := hbx.cell 1
          clear hbx q0 q1 hcell
          generalize wb.alloc (.cells #[.int .i64 (x1 : Int), .int .i64 (x2 : Int)] 240) = wc at HA cn cp HBX d0 d1 ⊢
          by_cases e1 : n1 = (x2 : Int)
          · have g1 : (n1 == (x2 : Int)) = true := by simp [e1]
            have HE1 := Lib.hid (HN1.out.symm.trans e1)
            clear e1
            go_quiet (fail)
            have hq1 : Qw wc (wc.drewN nq) := ⟨_, rfl⟩
            have HD0 := Lib.hid (HA.out.q hq1); have HBD0 := Lib.hid (Bk.keepL HBX.out (KeepL.q (L := []) hq1) (by simp))
            clear hq1 cn cp d0 d1 HA HBX
            generalize wc.drewN nq = wf at HD0 HBD0 ⊢
            have d0 : wf.cell? ⟨wb.heap.size, 0, none⟩ = some (.int .i64 (x1 : Int)) := HBD0.out.cell 0
            have d1 : wf.cell? ⟨wb.heap.size, 1, none⟩ = some (.int .i64 (x2 : Int)) := HBD0.out.cell 1
            have cn : wf.cell? ⟨hn, x1, none⟩ = some (.int .i64 (N.getD x1 0)) := HD0.out.n1.cell (by omega)
            have fn := HD0.out.n1.froz x1
            go_wp2_with fail
            have HD := Lib.hid (HD0.out.setN hne hk1 x1 (-1)); have HBD := Lib.hid (Bk.keepL HBD0.out (KeepL.set wf hn x1 (.int .i64 (-1))) (by simp; omega))
            clear d0 d1 cn fn HD0 HBD0
            generalize wf.setCell ⟨hn, x1, none⟩ (.int .i64 (-1)) = wd at HD HBD ⊢
            have d0 : wd.cell? ⟨wb.heap.size, 0, none⟩ = some (.int .i64 (x1 : Int)) := HBD.out.cell 0
            have d1 : wd.cell? ⟨wb.heap.size, 1, none⟩ = some (.int .i64 (x2 : Int)) := HBD.out.cell 1
            have cp : wd.cell? ⟨hp, x2, none⟩ = some (.int .i64 p1) := by rw [HP1.out]; exact HD.out.p1.cell (by omega)
            by_cases e2 : p1 = (x1 : Int)
            · have g2 : (p1 == (x1 : Int)) = true := by simp [e2]
              have HE2 := Lib.hid e2
              clear e2
              go_quiet (fail)
              have hq2 : Qw wd (wd.drewN nq) := ⟨_, rfl⟩
              have HD2 := Lib.hid (HD.out.q hq2); have HBD2 := Lib.hid (Bk.keepL HBD.out (KeepL.q (L := []) hq2) (by simp))
              clear hq2 cp d0 d1
              generalize wd.drewN nq = we at HD2 HBD2 ⊢
              have d0 : we.cell? ⟨wb.heap.size, 0, none⟩ = some (.int .i64 (x1 : Int)) := HBD2.out.cell 0
              have d1 : we.cell? ⟨wb.heap.size, 1, none⟩ = some (.int .i64 (x2 : Int)) := HBD2.out.cell 1
              have cq : we.cell? ⟨hp, x2, none⟩ = some (.int .i64 (P.getD x2 0)) := HD2.out.p1.cell (by omega)
              have fq := HD2.out.p1.froz x2
              go_wp2_with fail
              go_roundw
              case rel => exact ⟨k + 1, by omega, by go_num, by rw [HNP.out]; unfold cut1; dsimp only; rw [if_pos HE1.out, if_pos (HP1.out.symm.trans HE2.out)]; exact HD2.out.setP hne hk2 x2 (-1)⟩
              case measure => simp [intOf]; omega
            · have g2 : (p1 == (x1 : Int)) = false := by simp [e2]
              have HE2 := Lib.hid e2
              clear e2
              go_quiet (fail)
              have hq2 : Qw wd (wd.drewN nq) := ⟨_, rfl⟩
              have HD2 := Lib.hid (HD.out.q hq2); have HBD2 := Lib.hid (Bk.keepL HBD.out (KeepL.q (L := []) hq2) (by simp))
              clear hq2 cp d0 d1
              generalize wd.drewN nq = we at HD2 HBD2 ⊢
              have d0 : we.cell? ⟨wb.heap.size, 0, none⟩ = some (.int .i64 (x1 : Int)) := HBD2.out.cell 0
              have d1 : we.cell? ⟨wb.heap.size, 1, none⟩ = some (.int .i64 (x2 : Int)) := HBD2.out.cell 1
              go_wp2_with fail
              go_roundw
              case rel => exact ⟨k + 1, by omega, by go_num, by rw [HNP.out]; unfold cut1; dsimp only; rw [if_pos HE1.out, if_neg (fun h => HE2.out (HP1.out.trans h))]; exact HD2.out⟩
              case measure => simp [intOf]; omega
          · have g1 : (n1 == (x2 : Int)) = false := by simp [e1]
            have HE1 : Hid (¬ N.getD x1 0 = (x2 : Int)) := Lib.hid (fun h => e1 (HN1.out.trans h))
            clear e1
            go_quiet (fail)
            have hq1 : Qw wc (wc.drewN nq) := ⟨_, rfl⟩
            have HD := Lib.hid (HA.out.q hq1); have HBD := Lib.hid (Bk.keepL HBX.out (KeepL.q (L := []) hq1) (by simp))
            clear hq1 cn cp d0 d1 HA HBX
            generalize wc.drewN nq = wd at HD HBD ⊢
            have d0 : wd.cell? ⟨wb.heap.size, 0, none⟩ = some (.int .i64 (x1 : Int)) := HBD.out.cell 0
            have d1 : wd.cell? ⟨wb.heap.size, 1, none⟩ = some (.int .i64 (x2 : Int)) := HBD.out.cell 1
            have cp : wd.cell? ⟨hp, x2, none⟩ = some (.int .i64 p1) := by rw [HP1.out]; exact HD.out.p1.cell (by omega)
            go_wp2_with fail
            by_cases e2 : p1 = (x1 : Int)
            · have g2 : (p1 == (x1 : Int)) = true := by simp [e2]
              have HE2 := Lib.hid e2
              clear e2
              go_quiet (fail)
              have hq2 : Qw wd (wd.drewN nq) := ⟨_, rfl⟩
              have HD2 := Lib.hid (HD.out.q hq2); have HBD2 := Lib.hid (Bk.keepL HBD.out (KeepL.q (L := []) hq2) (by simp))
              clear hq2 cp d0 d1
              generalize wd.drewN nq = we at HD2 HBD2 ⊢
              have d0 : we.cell? ⟨wb.heap.size, 0, none⟩ = some (.int .i64 (x1 : Int)) := HBD2.out.cell 0
              have d1 : we.cell? ⟨wb.heap.size, 1, none⟩ = some (.int .i64 (x2 : Int)) := HBD2.out.cell 1
              have cq : we.cell? ⟨hp, x2, none⟩ = some (.int .i64 (P.getD x2 0)) := HD2.out.p1.cell (by omega)
              have fq := HD2.out.p1.froz x2
              go_wp2_with fail
              go_roundw
              case rel => exact ⟨k + 1, by omega, by go_num, by rw [HNP.out]; unfold cut1; dsimp only; rw [if_neg HE1.out, if_pos (HP1.out.symm.trans HE2.out)]; exact HD2.out.setP hne hk2 x2 (-1)⟩
              case measure => simp [intOf]; omega
            · have g2 : (p1 == (x1 : Int)) = false := by simp [e2]
              have HE2 := Lib.hid e2
              clear e2
              go_quiet (fail)
              have hq2 : Qw wd (wd.drewN nq) := ⟨_, rfl⟩
              have HD2 := Lib.hid (HD.out.q hq2); have HBD2 := Lib.hid (Bk.keepL HBD.out (KeepL.q (L := []) hq2) (by simp))
              clear hq2 cp d0 d1
              generalize wd.drewN nq = we at HD2 HBD2 ⊢
              have d0 : we.cell? ⟨wb.heap.size, 0, none⟩ = some (.int .i64 (x1 : Int)) := HBD2.out.cell 0
              have d1 : we.cell? ⟨wb.heap.size, 1, none⟩ = some (.int .i64 (x2 : Int)) := HBD2.out.cell 1
              go_wp2_with fail
              go_roundw
              case rel => exact ⟨k + 1, by omega, by go_num, by rw [HNP.out]; unfold cut1; dsimp only; rw [if_neg HE1.out, if_neg (fun h => HE2.out (HP1.out.trans h))]; exact HD2.out⟩
              case measure => simp [intOf]; omega
        · have hki : ¬ (k : Int) < (C.length : Int) := by omega
          obtain rfl : k = C.length := by omega
          have HC1 : Hid (ChgI wb w n hn hp (cutAll nx pv C).1 (cutAll nx pv C).2 A C (.slice Aa A.length ca) (.slice Ac C.length cc)) := Lib.hid (by have := HC.out; rwa [List.take_of_length_le (Nat.le_refl _)] at this)
          clear HC
          go_wp2_with fail
          go_loopw [78] (fun i wr => ∃ k : Nat, k ≤ A.length ∧ i = .int .i64 k ∧ ChgI wr w n hn hp (addAll y1 (cutAll nx pv C).1 (cutAll nx pv C).2 (A.take k)).1 (addAll y1 (cutAll nx pv C).1 (cutAll nx pv C).2 (A.take k)).2 A C (.slice Aa A.length ca) (.slice Ac C.length cc)) (fun i _ => A.length - (intOf i).toNat)
          case atStart => exact ⟨0, Nat.zero_le _, rfl, HC1.out⟩
          case round =>
            obtain ⟨j, hj, rfl, hc⟩ := hrel
            obtain ⟨wc, rfl⟩ : ∃ z : World, z = wr := ⟨_, rfl⟩
            have HC := Lib.hid hc
            clear hc HC1
            by_cases hlt2 : j < A.length
            · have hki : (j : Int) < (A.length : Int) := by omega
              obtain ⟨b, off, hAa, hbb, hcell⟩ := (Rd.own HC.out.add).2 (by omega)
              have q0 := hcell _ _ (pairC_at A j hlt2).1
              have q1 := hcell _ _ (pairC_at A j hlt2).2
              have HT : Hid (A.take (j + 1) = A.take j ++ [A[j]]) := Lib.hid (take_snoc _ _ hlt2)
              have hlt3 := HOK.out A[j] (List.getElem_mem hlt2)
              subst hAa
              rw [← Nat.add_assoc] at q1
              have hST := Lib.hid (addAll_snoc y1 (A.take j) (cutAll nx pv C).1 (cutAll nx pv C).2 A[j])
              generalize A[j] = c at q0 q1 HT hlt3 hST
              obtain ⟨x1, x2⟩ := c
              dsimp only at q0 q1 hlt3
              obtain ⟨N, P, hNP⟩ : ∃ N P, (N, P) = addAll y1 (cutAll nx pv C).1 (cutAll nx pv C).2 (A.take j) := ⟨_, _, rfl⟩
              have HC' : Hid (ChgI wc w n hn hp N P A C (.slice (some ⟨b, off, none⟩) A.length ca) (.slice Ac C.length cc)) := Lib.hid (by have := HC.out; rw [← hNP] at this; exact this)
              have HNP : Hid (addAll y1 (cutAll nx pv C).1 (cutAll nx pv C).2 (A.take (j + 1)) = add1 y1 N P (x1, x2)) := Lib.hid (by rw [HT.out, hST.out, ← hNP])
              have l1 := HC'.out.nl.1
              have l2 := HC'.out.nl.2
              have hbx : Bk (wc.alloc (.cells #[.int .i64 (x1 : Int), .int .i64 (x2 : Int)] 240)) wc.heap.size #[.int .i64 (x1 : Int), .int .i64 (x2 : Int)] 240 := Bk.new _ _ _
              have HA := Lib.hid (HC'.out.alloc (.cells #[.int .i64 (x1 : Int), .int .i64 (x2 : Int)] 240))
              have hsw : w.heap.size ≤ wc.heap.size := HC'.out.kp.size
              clear HC HT hST hNP HC'
              have x1n : (x1 : Int) < (n : Int) := by omega
              have x2n : (x2 : Int) < (n : Int) := by omega
              have HBX := Lib.hid hbx
              have fn := HA.out.n1.froz x1
              have fp := HA.out.p1.froz x2
              have cn : (wc.alloc (.cells #[.int .i64 (x1 : Int), .int .i64 (x2 : Int)] 240)).cell? ⟨hn, x1, none⟩ = some (.int .i64 (N.getD x1 0)) := HA.out.n1.cell (by omega)
              have cp : (wc.alloc (.cells #[.int .i64 (x1 : Int), .int .i64 (x2 : Int)] 240)).cell? ⟨hp, x2, none⟩ = some (.int .i64 (P.getD x2 0)) := HA.out.p1.cell (by omega)
              have d0 : (wc.alloc (.cells #[.int .i64 (x1 : Int), .int .i64 (x2 : Int)] 240)).cell? ⟨wc.heap.size, 0, none⟩ = some (.int .i64 (x1 : Int)) := hbx.cell 0
              have d1 : (wc.alloc (.cells #[.int .i64 (x1 : Int), .int .i64 (x2 : Int)] 240)).cell? ⟨wc.heap.size, 1, none⟩ = some (.int .i64 (x2 : Int)) := hbx.cell 1
              clear hbx hcell
              by_cases e1 : x1 = y1
              · have g1 : ((x1 : Int) != (y1 : Int)) = false := by simp; omega
                have HE1 := Lib.hid e1
                clear e1
                go_wp2_with fail
                go_roundw
                case rel => exact ⟨j + 1, by omega, by go_num, by rw [HNP.out]; unfold add1; dsimp only; rw [if_neg (fun h => h HE1.out)]; exact HA.out.setP hne hk2 x2 (x1 : Int)⟩
                case measure => simp [intOf]; omega
              · have g1 : ((x1 : Int) != (y1 : Int)) = true := by simp; omega
                have HE1 := Lib.hid e1
                have HA2 := Lib.hid (HA.out.setN hne hk1 x1 (x2 : Int))
                have HB2 := Bk.keepL HBX.out (KeepL.set (wc.alloc (.cells #[.int .i64 (x1 : Int), .int .i64 (x2 : Int)] 240)) hn x1 (.int .i64 (x2 : Int))) (by simp; omega)
                have d2 : ((wc.alloc (.cells #[.int .i64 (x1 : Int), .int .i64 (x2 : Int)] 240)).setCell ⟨hn, x1, none⟩ (.int .i64 (x2 : Int))).cell? ⟨wc.heap.size, 0, none⟩ = some (.int .i64 (x1 : Int)) := HB2.cell 0
                have d3 : ((wc.alloc (.cells #[.int .i64 (x1 : Int), .int .i64 (x2 : Int)] 240)).setCell ⟨hn, x1, none⟩ (.int .i64 (x2 : Int))).cell? ⟨wc.heap.size, 1, none⟩ = some (.int .i64 (x2 : Int)) := HB2.cell 1
                have cp2 : ((wc.alloc (.cells #[.int .i64 (x1 : Int), .int .i64 (x2 : Int)] 240)).setCell ⟨hn, x1, none⟩ (.int .i64 (x2 : Int))).cell? ⟨hp, x2, none⟩ = some (.int .i64 (P.getD x2 0)) := HA2.out.p1.cell (by have := HA2.out.nl.2; omega)
                clear e1 HB2
                go_wp2_with fail
                go_roundw
                case rel => exact ⟨j + 1, by omega, by go_num, by rw [HNP.out]; unfold add1; dsimp only; rw [if_pos HE1.out]; exact HA2.out.setP hne hk2 x2 (x1 : Int)⟩
                case measure => simp [intOf]; omega
            · have hki : ¬ (j : Int) < (A.length : Int) := by omega
              obtain rfl : j = A.length := by omega
              have HC2 : Hid (ChgI wc w n hn hp (addAll y1 (cutAll nx pv C).1 (cutAll nx pv C).2 A).1 (addAll y1 (cutAll nx pv C).1 (cutAll nx pv C).2 A).2 A C (.slice Aa A.length ca) (.slice Ac C.length cc)) := Lib.hid (by have := HC.out; rwa [List.take_of_length_le (Nat.le_refl _)] at this)
              clear HC
              go_wp2_with fail
              go_end0
              exact ⟨(C, A), hw.out.symm, rfl, HC2.out.n1, HC2.out.p1, HC2.out.kp⟩
    · have hyi : ¬ (y1 : Int) = (s : Int) := by omega
      have hyb : ((y1 : Int) != (s : Int)) = true := by simp; omega
      obtain ⟨g', rfl⟩ : ∃ g', gk = g' + 1 := ⟨gk - 1, by
        have := HI.out.back
        cases gk with
        | zero => exact this.elim
        | succ g => omega⟩
      obtain ⟨z, hz⟩ : ∃ z, z = wasOf came (y1, y2) := ⟨_, rfl⟩
      have HZ := Lib.hid hz
      have hlk : (Instr.lookup 220 (.map (some km)) (.agg #[.int .i64 (y1 : Int), .bool y2]) false).run Tryz.prog wa = .ok (.agg #[.int .i64 (z.1 : Int), .bool z.2]) wa := by
        have h := (HM.out.below HI.out.bel hkm).look Tryz.underlying220 zero_pl (x := (y1, y2)) (by show y1 ≤ 1000000; omega)
        rw [cameF_was, ← hz] at h
        exact h
      obtain ⟨z1, z2⟩ := z
      dsimp only at hlk
      have hbk : Back came s n g' (z1, z2) := by
        have h := HI.out.back
        rcases h.2 with h2 | h2
        · exact absurd h2 hys
        · rw [← hz] at h2; exact h2
      have hzlt := hbk.lt
      have HBK := Lib.hid hbk
      have HW : Hid (backW came s (g' + 1) (y1, y2) = if y2 then ((y1, z1) :: (backW came s g' (z1, z2)).1, (backW came s g' (z1, z2)).2) else ((backW came s g' (z1, z2)).1, (z1, y1) :: (backW came s g' (z1, z2)).2)) := Lib.hid (by
        rw [backW, if_neg hys]; dsimp only; rw [← hz])
      have hsz : w.heap.size < wa.heap.size := HI.out.box.lt
      clear hz hbk
      cases y2
      · go_wp2_with
          (at_builtin
           refine wpList_pushG elB_change (.tmp 36) (.tmp 42) rfl rfl (w.heap.size + 1) A.length _ rfl (HI.out.add.alloc (.cells #[.int .i64 (z1 : Int), .bool z2] 222)) (World.size_alloc _ _) rfl rfl (by intro u hu; simp at hu; rcases hu with rfl | rfl <;> rfl) (by have := HI.out.len; omega) (by decide) (by omega) ?_
           intro v8 w8 hown8 hb8 hg8 hL8
           have hgb : (wa.alloc (.cells #[.int .i64 (z1 : Int), .bool z2] 222)).grownBy w8 u12.ownBlock := hg8
           have hlw : ∀ k, u12.ownBlock = some k → w.heap.size + 1 ≤ k ∧ k < wa.heap.size := fun k hk => HI.out.add.lt k hk
           have hk8 : Bk w8 w.heap.size #[.int .i64 (y1 : Int), .bool false] 222 := (hgb.block _ (by simp; omega) (fun e => by have := hlw _ e.symm; omega)).trans ((Below.heap_alloc _ _ _ hsz).trans HI.out.box)
           have hwas : Bk w8 wa.heap.size #[.int .i64 (z1 : Int), .bool z2] 222 := (hgb.block _ (by simp) (fun e => by have := hlw _ e.symm; omega)).trans (Bk.new wa _ _)
           have ho8 : w8.ownsRow (w.heap.size + 1) 240 2 u13 C.length (pairC C) := ownsRow_grown (HI.out.cut.alloc _) hgb (fun k hk e => HI.out.apart k e.symm hk)
           have hb9 : Below w.heap.size w w8 := HI.out.bel.trans (((Below.refl _ _).alloc HI.out.bel.size _).trans (hb8.mono (by omega)))
           have hsz8 : wa.heap.size ≤ w8.heap.size := Nat.le_trans (by simp) hgb.size
           have hap8 : Apart2 v8 u13 := fun k hk e => by
             rcases hL8 with h | h
             · rw [h] at hk; exact HI.out.apart k hk e
             · rw [h] at hk; cases hk; have := HI.out.cut.lt _ e; simp at this; omega
           have d0 : w8.cell? ⟨w.heap.size, 0, none⟩ = some (.int .i64 (y1 : Int)) := hk8.cell 0
           have d1 : w8.cell? ⟨w.heap.size, 1, none⟩ = some (.bool false) := hk8.cell 1
           have e0 := hk8.froz 0
           have e1 := hk8.froz 1
           have d2 : w8.cell? ⟨wa.heap.size, 0, none⟩ = some (.int .i64 (z1 : Int)) := hwas.cell 0
           have d3 : w8.cell? ⟨wa.heap.size, 1, none⟩ = some (.bool z2) := hwas.cell 1
           have HK8 := Lib.hid hk8; have HO8 := Lib.hid ho8; have HW8 := Lib.hid hown8; have HB9 := Lib.hid hb9; have HAP := Lib.hid hap8
           clear hgb hlw hk8 hwas ho8 hb9 hown8 hb8 hg8 hL8 hap8 b0 b1 hlk)
        go_roundg g'
        case measure => omega
        case rel =>
          have hkk := KeepL.trans (KeepL.set w8 w.heap.size 0 (.int .i64 (z1 : Int))) (KeepL.set _ w.heap.size 1 (.bool z2))
          refine ⟨z1, z2, A ++ [(z1, y1)], C, HBK.out, ?_, (HK8.out.set 0 _).set 1 _, ownsRow_keepL (by rw [pairC_snoc, List.length_append]; exact HW8.out) hkk (by simp), ownsRow_keepL HO8.out hkk (by simp), HAP.out, by have := HI.out.len; simp; omega, HB9.out.trans (hkk.below (by have := HB9.out.size; omega) (by simp)), fun c hc => by rcases List.mem_append.1 hc with h | h; exact HI.out.ok c h; simp at h; subst h; exact ⟨hzlt, hylt⟩, HI.out.ok2⟩
          rw [HI.out.way, HW.out]; simp
      · go_wp2_with
          (at_builtin
           refine wpList_pushG elB_change (.tmp 28) (.tmp 34) rfl rfl (w.heap.size + 1) C.length _ rfl (HI.out.cut.alloc (.cells #[.int .i64 (z1 : Int), .bool z2] 222)) (World.size_alloc _ _) rfl rfl (by intro u hu; simp at hu; rcases hu with rfl | rfl <;> rfl) (by have := HI.out.len; omega) (by decide) (by omega) ?_
           intro v8 w8 hown8 hb8 hg8 hL8
           have hgb : (wa.alloc (.cells #[.int .i64 (z1 : Int), .bool z2] 222)).grownBy w8 u13.ownBlock := hg8
           have hlw : ∀ k, u13.ownBlock = some k → w.heap.size + 1 ≤ k ∧ k < wa.heap.size := fun k hk => HI.out.cut.lt k hk
           have hk8 : Bk w8 w.heap.size #[.int .i64 (y1 : Int), .bool true] 222 := (hgb.block _ (by simp; omega) (fun e => by have := hlw _ e.symm; omega)).trans ((Below.heap_alloc _ _ _ hsz).trans HI.out.box)
           have hwas : Bk w8 wa.heap.size #[.int .i64 (z1 : Int), .bool z2] 222 := (hgb.block _ (by simp) (fun e => by have := hlw _ e.symm; omega)).trans (Bk.new wa _ _)
           have ho8 : w8.ownsRow (w.heap.size + 1) 240 2 u12 A.length (pairC A) := ownsRow_grown (HI.out.add.alloc _) hgb (fun k hk e => HI.out.apart k hk e.symm)
           have hb9 : Below w.heap.size w w8 := HI.out.bel.trans (((Below.refl _ _).alloc HI.out.bel.size _).trans (hb8.mono (by omega)))
           have hsz8 : wa.heap.size ≤ w8.heap.size := Nat.le_trans (by simp) hgb.size
           have hap8 : Apart2 u12 v8 := fun k hk e => by
             rcases hL8 with h | h
             · rw [h] at e; exact HI.out.apart k hk e
             · rw [h] at e; cases e; have := HI.out.add.lt _ hk; simp at this; omega
           have d0 : w8.cell? ⟨w.heap.size, 0, none⟩ = some (.int .i64 (y1 : Int)) := hk8.cell 0
           have d1 : w8.cell? ⟨w.heap.size, 1, none⟩ = some (.bool true) := hk8.cell 1
           have e0 := hk8.froz 0
           have e1 := hk8.froz 1
           have d2 : w8.cell? ⟨wa.heap.size, 0, none⟩ = some (.int .i64 (z1 : Int)) := hwas.cell 0
           have d3 : w8.cell? ⟨wa.heap.size, 1, none⟩ = some (.bool z2) := hwas.cell 1
           have HK8 := Lib.hid hk8; have HO8 := Lib.hid ho8; have HW8 := Lib.hid hown8; have HB9 := Lib.hid hb9; have HAP := Lib.hid hap8
           clear hgb hlw hk8 hwas ho8 hb9 hown8 hb8 hg8 hL8 hap8 b0 b1 hlk)
        go_roundg g'
        case measure => omega
        case rel =>
          have hkk := KeepL.trans (KeepL.set w8 w.heap.size 0 (.int .i64 (z1 : Int))) (KeepL.set _ w.heap.size 1 (.bool z2))
          refine ⟨z1, z2, A, C ++ [(y1, z1)], HBK.out, ?_, (HK8.out.set 0 _).set 1 _, ownsRow_keepL HO8.out hkk (by simp), ownsRow_keepL (by rw [pairC_snoc, List.length_append]; exact HW8.out) hkk (by simp), HAP.out, by have := HI.out.len; simp; omega, HB9.out.trans (hkk.below (by have := HB9.out.size; omega) (by simp)), HI.out.ok, fun c hc => by rcases List.mem_append.1 hc with h | h; exact HI.out.ok2 c h; simp at h; subst h; exact ⟨hylt, hzlt⟩⟩
          rw [HI.out.way, HW.out]; simp
#print axioms apply_any
end Go.Proofs.YtghjlbbalngdhaaGreatDoor
