/- The contract of reduced at 3 and 6. Conditions: as each statement says. -/
import Derived.Test.YtncjmndiafgaaaaNat21
import Derived.Laws.EntriesVeiled
import Derived.Test.YtncjmndiafgaaaaDraw
import Derived.BigQuiet
namespace Go.Proofs.Ytncjmndiafgaaaa
open Go.RowKit
set_option linter.unusedVariables false
theorem grown_of {w w1 : World} (hb : Below w.heap.size w w1) (o : Nat) : w.grownBy w1 (some o) := ⟨hb.os, hb.tape, hb.output, hb.size, fun k hk _ => hb.block k hk⟩
theorem BlkN.grown {w w' : World} {h o : Nat} {cs : Array Value} {t : TypeId} (k : BlkN w h cs t) (hg : w.grownBy w' (some o)) (hne : h ≠ o) : BlkN w' h cs t := (hg.block h k.lt (fun e => hne (by injection e))).trans k
def RedP (v o : Nat) (x : Value → Array Value) (t : TypeId) (w : World) (e : Ending) (w' : World) : Prop := e = .returned (.int .i64 0) ∧ ∃ A n c, NumR w' w'.heap.size A n c v ∧ BlkN w' o (x (.slice A n c)) t ∧ w.grownBy w' (some o)
set_option maxRecDepth 100000 in
set_option maxHeartbeats 1000000 in
theorem red_1 (p o v : Nat) (A A1 A2 : Option Addr) (n c n1 c1 n2 c2 : Nat) (w : World) (hp : BoxN w p (.slice A n c)) (ho : BlkN w o #[.slice A1 n1 c1, .slice A2 n2 c2] 29) (hv : NumR w w.heap.size A n c v) :
    Calls Try.prog 48 #[.pointer (some ⟨p, 0, none⟩), .pointer (some ⟨o, 0, none⟩)] w (RedP v o (fun x => #[x, .slice A2 n2 c2]) 29 w) := by
  have c0 := hp.cell
  have HO := Lib.hid ho; have HV := Lib.hid hv
  clear hp ho hv
  go_enter Try.func48, Try.ntmps48
  go_wp2_with fail
  refine (fit_num HV.out).mono ?_
  rintro e w1 ⟨A', n', c', rfl, hr, hb⟩
  have hk := BlkN.past HO.out hb HO.out.lt
  have c1 := hk.cell 0
  have f1 := hk.froz 0
  have HK := Lib.hid hk; have HB := Lib.hid hb; have HR := Lib.hid hr
  clear hk hb hr
  simp only [List.getElem?_toArray, List.getElem?_cons_zero] at c1
  go_wp2_with fail
  go_ret
  exact ⟨rfl, A', n', c', by rw [size_setCell]; exact num_set HR.out c1, HK.out.set 0 _, grown_set (grown_of HB.out o) _ _⟩
set_option maxRecDepth 100000 in
set_option maxHeartbeats 1000000 in
theorem red_2 (p o v : Nat) (A A1 A2 : Option Addr) (n c n1 c1 n2 c2 : Nat) (w : World) (hp : BoxN w p (.slice A n c)) (ho : BlkN w o #[.slice A1 n1 c1, .slice A2 n2 c2] 29) (hv : NumR w w.heap.size A n c v) :
    Calls Try.prog 50 #[.pointer (some ⟨p, 0, none⟩), .pointer (some ⟨o, 0, none⟩)] w (RedP v o (fun x => #[.slice A1 n1 c1, x]) 29 w) := by
  have c0 := hp.cell
  have HO := Lib.hid ho; have HV := Lib.hid hv
  clear hp ho hv
  go_enter Try.func50, Try.ntmps50
  go_wp2_with fail
  refine (fit_num HV.out).mono ?_
  rintro e w1 ⟨A', n', c', rfl, hr, hb⟩
  have hk := BlkN.past HO.out hb HO.out.lt
  have c1 := hk.cell 1
  have f1 := hk.froz 1
  have HK := Lib.hid hk; have HB := Lib.hid hb; have HR := Lib.hid hr
  clear hk hb hr
  simp only [List.getElem?_toArray, List.getElem?_cons_succ, List.getElem?_cons_zero] at c1
  go_wp2_with fail
  go_ret
  exact ⟨rfl, A', n', c', by rw [size_setCell]; exact num_set HR.out c1, HK.out.set 1 _, grown_set (grown_of HB.out o) _ _⟩
/-- A call that returns a new fraction. -/
def RetFrac (v u : Nat) (w : World) (e : Ending) (w' : World) : Prop := ∃ f : FV, e = .returned (.tuple #[.agg #[.slice f.A f.n f.c, .slice f.B f.m f.d], .int .i64 0]) ∧ f.ok w' w'.heap.size ∧ f.v = v ∧ f.u = u ∧ Below w.heap.size w w'
abbrev redF1 (p o : Nat) : Value := .func (.func 48) #[] #[.pointer (some ⟨p, 0, none⟩), .pointer (some ⟨o, 0, none⟩)]
abbrev redF2 (p o : Nat) : Value := .func (.func 50) #[] #[.pointer (some ⟨p, 0, none⟩), .pointer (some ⟨o, 0, none⟩)]
theorem NumR.grownBlk {w w' : World} {B n c v o : Nat} {A A1 A2 : Option Addr} {n1 c1 n2 c2 : Nat} {t : TypeId} (h : NumR w B A n c v) (k : BlkN w o #[.slice A1 n1 c1, .slice A2 n2 c2] t) (hg : w.grownBy w' (some o)) (hB : B ≤ w.heap.size) : NumR w' B A n c v := by
  obtain ⟨l, h1, h2, h3⟩ := h.ex
  refine ⟨⟨l, h1, h2, h3.1, fun h0 => ?_⟩, h.n2, h.nc⟩
  obtain ⟨b, off, rfl, hb, hcell⟩ := h3.2 h0
  have hbo : b ≠ o := by
    intro e
    subst e
    have h4 := hcell 0
    rw [List.getElem?_eq_getElem (by have := h3.1; simp at this ⊢; omega)] at h4
    have h5 := h4 _ rfl
    rw [k.cell] at h5
    have h6 : (limC l)[0]'(by have := h3.1; simp at this ⊢; omega) ∈ limC l := List.getElem_mem _
    obtain ⟨y, _, hy⟩ := List.mem_map.1 h6
    rw [← hy] at h5
    have h7 := Array.mem_of_getElem? h5
    simp at h7
  exact ⟨b, off, rfl, hb, fun j x hx => (World.cell?_of_block (w' := w') (a := ⟨b, off + j, none⟩) (w := w) (hg.block b (by omega) (fun e => hbo (by injection e)))).trans (hcell j x hx)⟩
theorem BoxN.grown {w w' : World} {h o : Nat} {v : Value} (k : BoxN w h v) (hg : w.grownBy w' (some o)) (hne : h ≠ o) : BoxN w' h v :=
  have e := hg.block h k.lt (fun e => hne (by injection e))
  ⟨Nat.lt_of_lt_of_le k.lt hg.size, (World.cell?_of_block (w' := w') (a := ⟨h, 0, none⟩) (w := w) e).trans k.cell, (World.frozen?_of_block (w' := w') (a := ⟨h, 0, none⟩) (w := w) e).trans k.froz⟩
/-- Where the loop of reduced stands. -/
structure RedS (wr w : World) (ip iq io ih ik : Nat) (A1 : Option Addr) (n1 c1 : Nat) (A3 : Option Addr) (n3 c3 : Nat) : Prop where
  p : BoxN wr ip (.slice A1 n1 c1)
  q : BoxN wr iq (.slice A3 n3 c3)
  fs : BlkN wr ih #[redF1 ip io, redF2 iq io] 101
  res : BlkN wr ik #[.slice none 0 0, .slice none 0 0] 29
  n : NumR wr wr.heap.size A1 n1 c1 1
  m : NumR wr wr.heap.size A3 n3 c3 2
  b : Below w.heap.size w wr
def RedI (i : Value) (wr w : World) (ip iq io ih ik : Nat) (A1 : Option Addr) (n1 c1 : Nat) (A3 : Option Addr) (n3 c3 : Nat) : Prop :=
  RedS wr w ip iq io ih ik A1 n1 c1 A3 n3 c3 ∧ ((i = .int .i64 0 ∧ BlkN wr io #[.slice none 0 0, .slice none 0 0] 29) ∨
    (∃ A n c, i = .int .i64 1 ∧ BlkN wr io #[.slice A n c, .slice none 0 0] 29 ∧ NumR wr wr.heap.size A n c 1) ∨
    (∃ A n c A' n' c', i = .int .i64 2 ∧ BlkN wr io #[.slice A n c, .slice A' n' c'] 29 ∧ NumR wr wr.heap.size A n c 1 ∧ NumR wr wr.heap.size A' n' c' 2))
set_option maxRecDepth 100000 in
set_option maxHeartbeats 2000000 in
theorem reduced_36 {A A' : Option Addr} {n c n' c' : Nat} {w : World} (h : NumR w w.heap.size A n c 3) (h' : NumR w w.heap.size A' n' c' 6) :
    Calls Try.prog 34 #[.slice A n c, .slice A' n' c'] w (RetFrac 1 2 w) := by
  have H := Lib.hid h; have H' := Lib.hid h'
  clear h h'
  go_enter Try.func34, Try.ntmps34
  go_wp2_with fail
  have HK0 := Lib.hid (BlkN.new w #[.slice none 0 0, .slice none 0 0] 29)
  have HB0 : Hid (Below w.heap.size w (w.alloc (.cells #[.slice none 0 0, .slice none 0 0] 29))) := Lib.hid ((Below.refl _ _).alloc (Nat.le_refl _) _)
  have H1 := Lib.hid (H.out.next HB0.out); have H2 := Lib.hid (H'.out.next HB0.out)
  generalize w.alloc (.cells #[.slice none 0 0, .slice none 0 0] 29) = W at HK0 HB0 H1 H2 ⊢
  refine (common_36 H1.out H2.out).mono ?_
  rintro e w1 ⟨Ag, ng, cg, rfl, hr, hb⟩
  have HG := Lib.hid hr; have HK1 := Lib.hid (BlkN.past HK0.out hb HK0.out.lt); have HB1 := Lib.hid (bnextN HB0.out hb)
  have H3 := Lib.hid (H1.out.next hb); have H4 := Lib.hid (H2.out.next hb)
  clear hr hb H1 H2 HK0 HB0 H H'
  go_wp2_with fail
  refine (split_num H3.out HG.out (by omega) (by omega) (by omega)).mono ?_
  rintro e w2 ⟨A1, n1, c1, A2, n2, c2, rfl, hr1, hr2, hb⟩
  have HR1 := Lib.hid (show NumR w2 w2.heap.size A1 n1 c1 1 from hr1)
  have HK2 := Lib.hid (BlkN.past HK1.out hb HK1.out.lt); have HB2 := Lib.hid (bnextN HB1.out hb)
  have HG2 := Lib.hid (HG.out.next hb); have H5 := Lib.hid (H4.out.next hb)
  clear hr1 hr2 hb HG HK1 HB1 H3 H4
  go_wp2_with fail
  have hba : Below w2.heap.size w2 (w2.alloc (.cells #[.slice A1 n1 c1] 25)) := (Below.refl _ _).alloc (Nat.le_refl _) _
  have HP1 := Lib.hid (BoxN.new w2 (.slice A1 n1 c1) 25)
  have HR1' := Lib.hid (HR1.out.next hba); have HK3 := Lib.hid (BlkN.past HK2.out hba HK2.out.lt); have HB3 := Lib.hid (bnextN HB2.out hba)
  have HG3 := Lib.hid (HG2.out.next hba); have H6 := Lib.hid (H5.out.next hba)
  have hlt0 : w.heap.size < w2.heap.size := HK2.out.lt
  clear hba HR1 HK2 HG2 H5
  generalize w2.alloc (.cells #[.slice A1 n1 c1] 25) = w3 at HP1 HR1' HK3 HB3 HG3 H6 ⊢
  refine (split_num H6.out HG3.out (by omega) (by omega) (by omega)).mono ?_
  rintro e w4 ⟨A3, n3, c3, A4, n4, c4, rfl, hr1, hr2, hb⟩
  have HR2 := Lib.hid (show NumR w4 w4.heap.size A3 n3 c3 2 from hr1)
  have HK4 := Lib.hid (BlkN.past HK3.out hb HK3.out.lt); have HB4 := Lib.hid (bnextN HB3.out hb)
  have HP1' := Lib.hid (HP1.out.past hb); have HR1 := Lib.hid (HR1'.out.next hb)
  have hlt1 : w2.heap.size < w4.heap.size := HP1'.out.lt
  clear hr1 hr2 hb HG3 HK3 HB3 H6 HR1' HP1
  go_wp2_with fail
  have HE : Hid (Below w.heap.size w w4) := HB4
  have hs4 : w.heap.size < w2.heap.size := hlt0
  have HX0 := Lib.hid (BoxN.new w4 (.slice A3 n3 c3) 25)
  have hbc : Below w4.heap.size w4 (((w4.alloc (.cells #[.slice A3 n3 c3] 25)).alloc (.cells #[.slice none 0 0, .slice none 0 0] 29)).alloc (.cells #[redF1 w2.heap.size (w4.heap.size + 1), redF2 w4.heap.size (w4.heap.size + 1)] 101)) := (((Below.refl _ _).alloc (Nat.le_refl _) _).alloc (by simp) _).alloc (by simp only [World.size_alloc]; omega) _
  have HBX : Hid (BoxN (((w4.alloc (.cells #[.slice A3 n3 c3] 25)).alloc (.cells #[.slice none 0 0, .slice none 0 0] 29)).alloc (.cells #[redF1 w2.heap.size (w4.heap.size + 1), redF2 w4.heap.size (w4.heap.size + 1)] 101)) w4.heap.size (.slice A3 n3 c3)) :=
    Lib.hid ((HX0.out.past ((Below.refl _ _).alloc (Nat.le_refl _) _)).past ((Below.refl _ _).alloc (Nat.le_refl _) _))
  have HBO : Hid (BlkN (((w4.alloc (.cells #[.slice A3 n3 c3] 25)).alloc (.cells #[.slice none 0 0, .slice none 0 0] 29)).alloc (.cells #[redF1 w2.heap.size (w4.heap.size + 1), redF2 w4.heap.size (w4.heap.size + 1)] 101)) (w4.heap.size + 1) #[.slice none 0 0, .slice none 0 0] 29) := Lib.hid (by
    have h := BlkN.new (w4.alloc (.cells #[.slice A3 n3 c3] 25)) #[.slice none 0 0, .slice none 0 0] 29
    have h2 := BlkN.past h ((Below.refl _ _).alloc (Nat.le_refl _) (.cells #[redF1 w2.heap.size (w4.heap.size + 1), redF2 w4.heap.size (w4.heap.size + 1)] 101)) h.lt
    rwa [World.size_alloc] at h2)
  have HBF : Hid (BlkN (((w4.alloc (.cells #[.slice A3 n3 c3] 25)).alloc (.cells #[.slice none 0 0, .slice none 0 0] 29)).alloc (.cells #[redF1 w2.heap.size (w4.heap.size + 1), redF2 w4.heap.size (w4.heap.size + 1)] 101)) (w4.heap.size + 1 + 1) #[redF1 w2.heap.size (w4.heap.size + 1), redF2 w4.heap.size (w4.heap.size + 1)] 101) := Lib.hid (by
    have h := BlkN.new ((w4.alloc (.cells #[.slice A3 n3 c3] 25)).alloc (.cells #[.slice none 0 0, .slice none 0 0] 29)) #[redF1 w2.heap.size (w4.heap.size + 1), redF2 w4.heap.size (w4.heap.size + 1)] 101
    rwa [World.size_alloc, World.size_alloc] at h)
  have HN1 := Lib.hid (HR1.out.next hbc); have HN2 := Lib.hid (HR2.out.next hbc); have HP2 := Lib.hid (HP1'.out.past hbc); have HK5 := Lib.hid (BlkN.past HK4.out hbc HK4.out.lt)
  have HB5 := Lib.hid (bnextN HB4.out hbc)
  clear hbc HX0 HR1 HR2 HP1' HK4 HB4 HE
  generalize ((w4.alloc (.cells #[.slice A3 n3 c3] 25)).alloc (.cells #[.slice none 0 0, .slice none 0 0] 29)).alloc (.cells #[redF1 w2.heap.size (w4.heap.size + 1), redF2 w4.heap.size (w4.heap.size + 1)] 101) = w5 at HBX HBO HBF HN1 HN2 HP2 HK5 HB5 ⊢
  have hp2 := HP2.out.lt; have hpx := HBX.out.lt; have hpo := HBO.out.lt; have hpf := HBF.out.lt
  obtain ⟨ip, hip⟩ : ∃ x, x = w2.heap.size := ⟨_, rfl⟩
  obtain ⟨iq, hiq⟩ : ∃ x, x = w4.heap.size := ⟨_, rfl⟩
  obtain ⟨io, hio⟩ : ∃ x, x = w4.heap.size + 1 := ⟨_, rfl⟩
  obtain ⟨ih, hih⟩ : ∃ x, x = w4.heap.size + 1 + 1 := ⟨_, rfl⟩
  have d1 : ip ≠ io := by omega
  have d2 : iq ≠ io := by omega
  have d3 : ih ≠ io := by omega
  have d4 : w.heap.size ≠ io := by omega
  have HIK : Hid (w.heap.size ≤ io) := Lib.hid (by omega)
  rw [← hih, ← hio, ← hip, ← hiq] at HBF
  rw [← hio] at HBO
  rw [← hip] at HP2
  rw [← hiq] at HBX
  rw [← hih, ← hio, ← hip, ← hiq]
  clear hih hio hip hiq hs4 hlt0 hlt1 hp2 hpx hpo hpf
  go_loopw [34] (fun i wr => RedI i wr w ip iq io ih w.heap.size A1 n1 c1 A3 n3 c3) (fun i _ => 2 - (intOf i).toNat)
  case atStart => exact ⟨⟨HP2.out, HBX.out, HBF.out, HK5.out, HN1.out, HN2.out, HB5.out⟩, .inl ⟨rfl, HBO.out⟩⟩
  case round =>
    obtain ⟨hS, hr⟩ := hrel
    obtain ⟨wa, rfl⟩ : ∃ z : World, z = wr := ⟨_, rfl⟩
    have HS := Lib.hid hS
    clear hS HBX HBO HBF HN1 HN2 HP2 HK5 HB5
    have k0 : wa.cell? ⟨ih, 0, none⟩ = some (redF1 ip io) := HS.out.fs.cell 0
    have k1 : wa.cell? ⟨ih, 1, none⟩ = some (redF2 iq io) := HS.out.fs.cell 1
    rcases hr with ⟨rfl, ho⟩ | ⟨A, n, c, rfl, ho, hn⟩ | ⟨A, n, c, A', n', c', rfl, ho, hn, hm⟩
    · have HO := Lib.hid ho
      clear ho
      go_wp2_with fail
      refine (red_1 ip io 1 A1 none none n1 c1 0 0 0 0 wa HS.out.p HO.out HS.out.n).mono ?_
      rintro e wb ⟨rfl, A, n, c, hr, hk, hg⟩
      have HS2 : Hid (RedS wb w ip iq io ih w.heap.size A1 n1 c1 A3 n3 c3) := Lib.hid ⟨HS.out.p.grown hg d1, HS.out.q.grown hg d2, BlkN.grown HS.out.fs hg d3, BlkN.grown HS.out.res hg d4, (HS.out.n.grownBlk HO.out hg (Nat.le_refl _)).mono hg.size, (HS.out.m.grownBlk HO.out hg (Nat.le_refl _)).mono hg.size, HS.out.b.grown hg HS.out.b.size (fun k hk => by cases hk; exact HIK.out)⟩
      have HR := Lib.hid hr; have HK := Lib.hid hk
      clear hr hk hg
      go_wp2_with fail
      go_roundw
      case rel => exact ⟨HS2.out, .inr (.inl ⟨A, n, c, by go_num, HK.out, HR.out⟩)⟩
      case measure => simp [intOf]
    · have HO := Lib.hid ho; have HN := Lib.hid hn
      clear ho hn
      go_wp2_with fail
      refine (red_2 iq io 2 A3 A none n3 c3 n c 0 0 wa HS.out.q HO.out HS.out.m).mono ?_
      rintro e wb ⟨rfl, A', n', c', hr, hk, hg⟩
      have HS2 : Hid (RedS wb w ip iq io ih w.heap.size A1 n1 c1 A3 n3 c3) := Lib.hid ⟨HS.out.p.grown hg d1, HS.out.q.grown hg d2, BlkN.grown HS.out.fs hg d3, BlkN.grown HS.out.res hg d4, (HS.out.n.grownBlk HO.out hg (Nat.le_refl _)).mono hg.size, (HS.out.m.grownBlk HO.out hg (Nat.le_refl _)).mono hg.size, HS.out.b.grown hg HS.out.b.size (fun k hk => by cases hk; exact HIK.out)⟩
      have HR := Lib.hid hr; have HK := Lib.hid hk; have HN2 := Lib.hid ((HN.out.grownBlk HO.out hg (Nat.le_refl _)).mono hg.size)
      clear hr hk hg
      go_wp2_with fail
      go_roundw
      case rel => exact ⟨HS2.out, .inr (.inr ⟨A, n, c, A', n', c', by go_num, HK.out, HN2.out, HR.out⟩)⟩
      case measure => simp [intOf]
    · have HO := Lib.hid ho; have HN := Lib.hid hn; have HM := Lib.hid hm
      clear ho hn hm
      have q0 : wa.cell? ⟨io, 0, none⟩ = some (.slice A n c) := HO.out.cell 0
      have q1 : wa.cell? ⟨io, 1, none⟩ = some (.slice A' n' c') := HO.out.cell 1
      have s0 : wa.cell? ⟨w.heap.size, 0, none⟩ = some (.slice none 0 0) := HS.out.res.cell 0
      have s1 : wa.cell? ⟨w.heap.size, 1, none⟩ = some (.slice none 0 0) := HS.out.res.cell 1
      have f0 := HS.out.res.froz 0
      have f1 := HS.out.res.froz 1
      go_wp2_with fail
      have hk5 := (HS.out.res.set 0 (.slice A n c)).set 1 (.slice A' n' c')
      have hk4 := HS.out.res.set 0 (.slice A n c)
      have hb5 : Below w.heap.size w ((wa.setCell ⟨w.heap.size, 0, none⟩ (.slice A n c)).setCell ⟨w.heap.size, 1, none⟩ (.slice A' n' c')) := ((HS.out.b.setCell (p := ⟨w.heap.size, 0, none⟩) (Nat.le_refl _) _).setCell (p := ⟨w.heap.size, 1, none⟩) (Nat.le_refl _) _)
      have hn5 : NumR ((wa.setCell ⟨w.heap.size, 0, none⟩ (.slice A n c)).setCell ⟨w.heap.size, 1, none⟩ (.slice A' n' c')) ((wa.setCell ⟨w.heap.size, 0, none⟩ (.slice A n c)).setCell ⟨w.heap.size, 1, none⟩ (.slice A' n' c')).heap.size A n c 1 := by
        rw [size_setCell, size_setCell]; exact num_set (num_set HN.out s0) (hk4.cell 1)
      have hm5 : NumR ((wa.setCell ⟨w.heap.size, 0, none⟩ (.slice A n c)).setCell ⟨w.heap.size, 1, none⟩ (.slice A' n' c')) ((wa.setCell ⟨w.heap.size, 0, none⟩ (.slice A n c)).setCell ⟨w.heap.size, 1, none⟩ (.slice A' n' c')).heap.size A' n' c' 2 := by
        rw [size_setCell, size_setCell]; exact num_set (num_set HM.out s0) (hk4.cell 1)
      generalize (wa.setCell ⟨w.heap.size, 0, none⟩ (.slice A n c)).setCell ⟨w.heap.size, 1, none⟩ (.slice A' n' c') = wf at hk5 hb5 hn5 hm5 ⊢
      have e0 : wf.cell? ⟨w.heap.size, 0, none⟩ = some (.slice A n c) := hk5.cell 0
      have e1 : wf.cell? ⟨w.heap.size, 1, none⟩ = some (.slice A' n' c') := hk5.cell 1
      refine bodyPost_ret (v := .tuple #[.agg #[.slice A n c, .slice A' n' c'], .int .i64 0]) (by simp [results, Try.results34, go_sem, e0, e1]) rfl ?_
      exact ⟨⟨A, n, c, 1, A', n', c', 2⟩, rfl, ⟨hn5, hm5, by show 0 < 2; decide⟩, rfl, rfl, hb5⟩
#print axioms red_1
#print axioms red_2
#print axioms reduced_36
end Go.Proofs.Ytncjmndiafgaaaa
/- The contract of Tail at its example. Conditions: as the statement says. -/
namespace Go.Proofs.Ytncjmndiafgaaaa
open Go.RowKit
set_option linter.unusedVariables false
set_option maxRecDepth 100000 in
set_option maxHeartbeats 2000000 in
theorem tail_ex (w : World) : Calls Try.prog 19 #[.int .i64 4, .int .i64 1, .int .i64 2, .int .i64 0] w (RetFrac 1 2 w) := by
  go_enter Try.func19, Try.ntmps19
  go_wp2_with fail
  have HK0 := Lib.hid (BlkN.new w #[.slice none 0 0, .slice none 0 0] 29)
  have HB0 : Hid (Below w.heap.size w (w.alloc (.cells #[.slice none 0 0, .slice none 0 0] 29))) := Lib.hid ((Below.refl _ _).alloc (Nat.le_refl _) _)
  generalize w.alloc (.cells #[.slice none 0 0, .slice none 0 0] 29) = W at HK0 HB0 ⊢
  refine (sane_yes 4 1 W (by omega) (by omega) (by omega)).mono ?_
  rintro e w1 ⟨rfl, rfl⟩
  go_wp2_with fail
  refine (sane_yes 4 2 W (by omega) (by omega) (by omega)).mono ?_
  rintro e w1 ⟨rfl, rfl⟩
  go_wp2_with fail
  refine (ways_num 4 1 2 0 4 1 2 0 rfl rfl rfl rfl (by omega) (by omega) (by omega) (by omega)).mono ?_
  rintro e w1 ⟨A1, n1, c1, rfl, hr1, hb1⟩
  have HR1 := Lib.hid (show NumR w1 w1.heap.size A1 n1 c1 3 from hr1)
  have HK1 := Lib.hid (BlkN.past HK0.out hb1 HK0.out.lt); have HB1 := Lib.hid (bnextN HB0.out hb1)
  clear hr1 hb1 HK0 HB0
  go_wp2_with fail
  refine (choose_num 4 2 4 2 rfl rfl (by omega) (by omega)).mono ?_
  rintro e w2 ⟨A2, n2, c2, rfl, hr2, hb2⟩
  have HR2 := Lib.hid (show NumR w2 w2.heap.size A2 n2 c2 6 from hr2)
  have HR1' := Lib.hid (HR1.out.next hb2)
  have HK2 := Lib.hid (BlkN.past HK1.out hb2 HK1.out.lt); have HB2 := Lib.hid (bnextN HB1.out hb2)
  clear hr2 hb2 HK1 HB1 HR1
  go_wp2_with fail
  refine (reduced_36 HR1'.out HR2.out).mono ?_
  rintro e w3 ⟨f, rfl, hf, hv, hu, hb3⟩
  have HF := Lib.hid hf; have HV := Lib.hid hv; have HU := Lib.hid hu
  have HK3 := Lib.hid (BlkN.past HK2.out hb3 HK2.out.lt); have HB3 := Lib.hid (bnextN HB2.out hb3)
  clear hf hv hu hb3 HK2 HB2 HR1' HR2
  have s0 : w3.cell? ⟨w.heap.size, 0, none⟩ = some (.slice none 0 0) := HK3.out.cell 0
  have s1 : w3.cell? ⟨w.heap.size, 1, none⟩ = some (.slice none 0 0) := HK3.out.cell 1
  have f0 := HK3.out.froz 0
  have f1 := HK3.out.froz 1
  go_wp2_with fail
  have hk5 := (HK3.out.set 0 (.slice f.A f.n f.c)).set 1 (.slice f.B f.m f.d)
  have hk4 := HK3.out.set 0 (.slice f.A f.n f.c)
  have hb5 : Below w.heap.size w ((w3.setCell ⟨w.heap.size, 0, none⟩ (.slice f.A f.n f.c)).setCell ⟨w.heap.size, 1, none⟩ (.slice f.B f.m f.d)) := ((HB3.out.setCell (p := ⟨w.heap.size, 0, none⟩) (Nat.le_refl _) _).setCell (p := ⟨w.heap.size, 1, none⟩) (Nat.le_refl _) _)
  have hn5 : NumR ((w3.setCell ⟨w.heap.size, 0, none⟩ (.slice f.A f.n f.c)).setCell ⟨w.heap.size, 1, none⟩ (.slice f.B f.m f.d)) ((w3.setCell ⟨w.heap.size, 0, none⟩ (.slice f.A f.n f.c)).setCell ⟨w.heap.size, 1, none⟩ (.slice f.B f.m f.d)).heap.size f.A f.n f.c f.v := by
    rw [size_setCell, size_setCell]; exact num_set (num_set HF.out.num s0) (hk4.cell 1)
  have hm5 : NumR ((w3.setCell ⟨w.heap.size, 0, none⟩ (.slice f.A f.n f.c)).setCell ⟨w.heap.size, 1, none⟩ (.slice f.B f.m f.d)) ((w3.setCell ⟨w.heap.size, 0, none⟩ (.slice f.A f.n f.c)).setCell ⟨w.heap.size, 1, none⟩ (.slice f.B f.m f.d)).heap.size f.B f.m f.d f.u := by
    rw [size_setCell, size_setCell]; exact num_set (num_set HF.out.den s0) (hk4.cell 1)
  generalize (w3.setCell ⟨w.heap.size, 0, none⟩ (.slice f.A f.n f.c)).setCell ⟨w.heap.size, 1, none⟩ (.slice f.B f.m f.d) = wf at hk5 hb5 hn5 hm5 ⊢
  have e0 : wf.cell? ⟨w.heap.size, 0, none⟩ = some (.slice f.A f.n f.c) := hk5.cell 0
  have e1 : wf.cell? ⟨w.heap.size, 1, none⟩ = some (.slice f.B f.m f.d) := hk5.cell 1
  refine bodyPost_ret (v := .tuple #[.agg #[.slice f.A f.n f.c, .slice f.B f.m f.d], .int .i64 0]) (by simp [results, Try.results19, go_sem, e0, e1]) rfl ?_
  exact ⟨f, rfl, ⟨hn5, hm5, HF.out.pos⟩, HV.out, HU.out, hb5⟩
#print axioms tail_ex
end Go.Proofs.Ytncjmndiafgaaaa
/- Contracts of package distil at the example of the layers up to 6. Conditions: as each statement says. -/
namespace Go.Proofs.Ytncjmndiafgaaaa
open Go.RowKit
set_option linter.unusedVariables false
theorem between_yes (x lo hi : Int) (w : World) (h1 : lo ≤ x) (h2 : x ≤ hi) : Calls Try.prog 36 #[.int .i64 x, .int .i64 lo, .int .i64 hi] w fun e w' => e = .returned (.bool true) ∧ w = w' := by
  go_enter Try.func36, Try.ntmps36
  go_wp2_with fail
  go_ret
  exact ⟨rfl, rfl⟩
theorem kindOK_3 (w : World) : Calls Try.prog 52 #[.int .i64 3] w fun e w' => e = .returned (.bool true) ∧ w = w' := by
  go_enter Try.func52, Try.ntmps52
  go_wp2_with fail
  refine (between_yes 3 1 4 _ (by omega) (by omega)).mono ?_
  rintro e w' ⟨rfl, rfl⟩
  go_wp2_with fail
  go_ret
  exact ⟨rfl, rfl⟩
set_option maxHeartbeats 1000000 in
theorem Check_one (b : Nat) (w : World) (h : BlkN w b #[.int .i64 3, .int .i64 16] 61) : Calls Try.prog 65 #[.slice (some ⟨b, 0, none⟩) 1 1] w fun e w' => e = .returned (.int .i64 0) ∧ Below w.heap.size w w' := by
  have H := Lib.hid h; clear h
  go_enter Try.func65, Try.ntmps65
  go_wp2_with fail
  go_loopw [10] (fun i wr => (i = .int .i64 0 ∨ i = .int .i64 1) ∧ BlkN wr b #[.int .i64 3, .int .i64 16] 61 ∧ Below w.heap.size w wr) (fun i _ => 1 - (intOf i).toNat)
  case atStart => exact ⟨.inl rfl, H.out, Below.refl _ _⟩
  case round =>
    obtain ⟨hi, hk, hb⟩ := hrel
    obtain ⟨wa, rfl⟩ : ∃ z : World, z = wr := ⟨_, rfl⟩
    have HB := Lib.hid hb; have HK := Lib.hid hk
    have c0 : wa.cell? ⟨b, 0, none⟩ = some (.int .i64 3) := hk.cell 0
    have c1 : wa.cell? ⟨b, 1, none⟩ = some (.int .i64 16) := hk.cell 1
    clear hb hk H
    rcases hi with rfl | rfl
    · go_wp2_with fail
      refine (kindOK_3 _).mono ?_
      rintro e w1 ⟨rfl, rfl⟩
      go_wp2_with fail
      refine (between_yes 16 0 65536 _ (by omega) (by omega)).mono ?_
      rintro e w1 ⟨rfl, rfl⟩
      go_wp2_with fail
      go_roundw
      case rel => exact ⟨.inr (by go_num), BlkN.past HK.out ((Below.refl _ _).alloc (Nat.le_refl _) _) HK.out.lt, HB.out.alloc HB.out.size _⟩
      case measure => simp [intOf]
    · go_wp2_with fail
      go_ret
      exact ⟨rfl, HB.out⟩
set_option maxHeartbeats 1000000 in
theorem sum_one (b : Nat) (w : World) (h : BlkN w b #[.int .i64 3, .int .i64 16] 61) : Calls Try.prog 51 #[.slice (some ⟨b, 0, none⟩) 1 1, .func (.func 52) #[] #[]] w fun e w' => e = .returned (.tuple #[.int .i64 16, .int .i64 0]) ∧ Below w.heap.size w w' := by
  have H := Lib.hid h; clear h
  go_enter Try.func51, Try.ntmps51
  go_wp2_with fail
  refine (Check_one b w H.out).mono ?_
  rintro e w1 ⟨rfl, hb⟩
  have HB := Lib.hid hb; have HK := Lib.hid (BlkN.past H.out hb H.out.lt)
  clear hb H
  go_wp2_with fail
  go_loopw [7, 17] (fun n i wr => ((i = .int .i64 0 ∧ n = .int .i64 0) ∨ (i = .int .i64 1 ∧ n = .int .i64 16)) ∧ BlkN wr b #[.int .i64 3, .int .i64 16] 61 ∧ Below w.heap.size w wr) (fun _ i _ => 1 - (intOf i).toNat)
  case atStart => exact ⟨.inl ⟨rfl, rfl⟩, HK.out, HB.out⟩
  case round =>
    obtain ⟨hi, hk, hb⟩ := hrel
    obtain ⟨wa, rfl⟩ : ∃ z : World, z = wr := ⟨_, rfl⟩
    have HB2 := Lib.hid hb; have HK2 := Lib.hid hk
    have c0 : wa.cell? ⟨b, 0, none⟩ = some (.int .i64 3) := hk.cell 0
    have c1 : wa.cell? ⟨b, 1, none⟩ = some (.int .i64 16) := hk.cell 1
    clear hb hk HB HK
    rcases hi with ⟨rfl, rfl⟩ | ⟨rfl, rfl⟩
    · go_wp2_with fail
      refine (kindOK_3 _).mono ?_
      rintro e w1 ⟨rfl, rfl⟩
      go_wp2_with fail
      go_roundw
      case rel => exact ⟨.inr ⟨by go_num, by go_num⟩, BlkN.past HK2.out ((Below.refl _ _).alloc (Nat.le_refl _) _) HK2.out.lt, HB2.out.alloc HB2.out.size _⟩
      case measure => simp [intOf]
    · go_wp2_with fail
      go_ret2
      exact ⟨rfl, HB2.out⟩
theorem Total_one (b : Nat) (w : World) (h : BlkN w b #[.int .i64 3, .int .i64 16] 61) : Calls Try.prog 37 #[.slice (some ⟨b, 0, none⟩) 1 1] w fun e w' => e = .returned (.tuple #[.int .i64 16, .int .i64 0]) ∧ Below w.heap.size w w' := by
  go_enter Try.func37, Try.ntmps37
  go_wp2_with fail
  refine (sum_one b w h).mono ?_
  rintro e w1 ⟨rfl, hb⟩
  go_wp2_with fail
  go_ret2
  exact ⟨rfl, hb⟩
set_option maxHeartbeats 1000000 in
theorem Ball_one (w : World) : Calls Try.prog 53 #[.int .i64 64, .int .i64 0] w fun e w' => ∃ A n c, e = .returned (.tuple #[.slice A n c, .int .i64 0]) ∧ NumR w' w'.heap.size A n c 1 ∧ Below w.heap.size w w' := by
  go_enter Try.func53, Try.ntmps53
  go_wp2_with fail
  have HL0 : Hid (NumR (w.alloc (.cells #[.int .u32 1] 47)) (w.alloc (.cells #[.int .u32 1] 47)).heap.size (some ⟨w.heap.size, 0, none⟩) 1 1 1) := Lib.hid ((num_lit w 1 1 rfl (by omega)).mono (by simp))
  have HB0 : Hid (Below w.heap.size w (w.alloc (.cells #[.int .u32 1] 47))) := Lib.hid ((Below.refl _ _).alloc (Nat.le_refl _) _)
  generalize w.alloc (.cells #[.int .u32 1] 47) = w1 at HL0 HB0 ⊢
  go_loopw [6, 7, 8] (fun s c k wr => ((s = .slice none 0 0 ∧ k = .int .i64 0) ∨ (∃ A n c', s = .slice A n c' ∧ k = .int .i64 1 ∧ NumR wr wr.heap.size A n c' 1)) ∧ (∃ A n c' v, c = .slice A n c' ∧ NumR wr wr.heap.size A n c' v ∧ (k = .int .i64 0 → v = 1)) ∧ Below w.heap.size w wr) (fun _ _ k _ => 1 - (intOf k).toNat)
  case atStart => exact ⟨.inl ⟨rfl, rfl⟩, ⟨_, _, _, 1, rfl, HL0.out, fun _ => rfl⟩, HB0.out⟩
  case round =>
    obtain ⟨hi, ⟨A1, n1, c1, v, rfl, hn, hv⟩, hb⟩ := hrel
    obtain ⟨wa, rfl⟩ : ∃ z : World, z = wr := ⟨_, rfl⟩
    have HN := Lib.hid hn; have HB := Lib.hid hb
    clear hn hb HL0 HB0
    rcases hi with ⟨rfl, rfl⟩ | ⟨A, n, c', rfl, rfl, hs⟩
    · obtain rfl := hv rfl
      clear hv
      go_wp2_with fail
      refine (plus_num (num_zero _ _ none) HN.out (by omega)).mono ?_
      rintro e w2 ⟨A2, n2, c2, rfl, hr, hb⟩
      have HR := Lib.hid hr; have HB2 := Lib.hid (bnextN HB.out hb); have HN2 := Lib.hid (HN.out.next hb)
      clear hr hb HB HN
      go_wp2_with fail
      refine (next_num 64 0 64 0 rfl rfl (by omega) (by omega) HN2.out (by omega)).mono ?_
      rintro e w3 ⟨A3, n3, c3, rfl, hr, hb⟩
      have HR3 := Lib.hid hr; have HB3 := Lib.hid (bnextN HB2.out hb); have HR2 := Lib.hid (HR.out.next hb)
      clear hr hb HB2 HN2 HR
      go_wp2_with fail
      go_roundw
      case rel => exact ⟨.inr ⟨A2, n2, c2, rfl, by go_num, HR2.out⟩, ⟨A3, n3, c3, _, rfl, HR3.out, fun h => by cases h⟩, HB3.out⟩
      case measure => simp [intOf]
    · have HS := Lib.hid hs
      clear hs hv
      go_wp2_with fail
      refine (clone_num HS.out).mono ?_
      rintro e w3 ⟨A3, n3, c3, rfl, hr, hb⟩
      have HR3 := Lib.hid hr; have HB3 := Lib.hid (bnextN HB.out hb)
      clear hr hb
      go_wp2_with fail
      go_ret2
      exact ⟨A3, n3, c3, rfl, HR3.out, HB3.out⟩
theorem size_one {A : Option Addr} {n c : Nat} {w : World} (h : NumR w w.heap.size A n c 1) : Calls Try.prog 33 #[.slice A n c] w fun e w' => e = .returned (.int .i64 1) ∧ w = w' := by
  obtain ⟨l, h1, h2, h3⟩ := h.ex
  have g := h.n2
  refine (size_of A n c l w (by omega) h.nc h1 h3).mono ?_
  rintro e w' ⟨⟨sz, hs, hl, rfl⟩, rfl⟩
  rw [h2] at hs
  have : sz = 1 := hs.uniq (show IsSize 1 1 from ⟨by decide, fun _ => by decide⟩)
  subst this
  exact ⟨rfl, rfl⟩
theorem Bits_one {A : Option Addr} {n c : Nat} {w : World} (h : NumR w w.heap.size A n c 1) : Calls Try.prog 54 #[.slice A n c] w fun e w' => e = .returned (.tuple #[.int .i64 1, .int .i64 0]) ∧ w = w' := by
  have g := h.n2
  have H := Lib.hid h; clear h
  go_enter Try.func54, Try.ntmps54
  go_wp2_with fail
  refine (Check_ok A n c _ (by omega)).mono ?_
  rintro e w' ⟨rfl, rfl⟩
  go_wp2_with fail
  refine (size_one H.out).mono ?_
  rintro e w' ⟨rfl, rfl⟩
  go_wp2_with fail
  go_ret2
  exact ⟨rfl, rfl⟩
theorem Cost_one (w : World) : Calls Try.prog 38 #[.int .i64 64, .int .i64 0] w fun e w' => e = .returned (.tuple #[.int .i64 1, .int .i64 0]) ∧ Below w.heap.size w w' := by
  go_enter Try.func38, Try.ntmps38
  go_wp2_with fail
  refine (Ball_one w).mono ?_
  rintro e w1 ⟨A, n, c, rfl, hn, hb⟩
  have HN := Lib.hid hn; have HB := Lib.hid hb
  clear hn hb
  go_wp2_with fail
  refine (Bits_one HN.out).mono ?_
  rintro e w' ⟨rfl, rfl⟩
  go_wp2_with fail
  go_ret2
  exact ⟨rfl, HB.out⟩
set_option maxHeartbeats 1000000 in
set_option maxRecDepth 100000 in
theorem Length_one (b : Nat) (w : World) (h : BlkN w b #[.int .i64 3, .int .i64 16] 61) : Calls Try.prog 24 #[.int .i64 64, .int .i64 0, .slice (some ⟨b, 0, none⟩) 1 1, .int .i64 10] w fun e w' => e = .returned (.tuple #[.int .i64 37, .int .i64 0]) ∧ Below w.heap.size w w' := by
  have H := Lib.hid h; clear h
  have hx0 : ∀ w : World, (Instr.index 78 (.agg #[.int .i64 64, .int .i64 0, .int .i64 10]) (.int .i64 0)).run Try.prog w = .ok (.int .i64 64) w := fun w => rfl
  have hx1 : ∀ w : World, (Instr.index 78 (.agg #[.int .i64 64, .int .i64 0, .int .i64 10]) (.int .i64 1)).run Try.prog w = .ok (.int .i64 0) w := fun w => rfl
  have hx2 : ∀ w : World, (Instr.index 78 (.agg #[.int .i64 64, .int .i64 0, .int .i64 10]) (.int .i64 2)).run Try.prog w = .ok (.int .i64 10) w := fun w => rfl
  go_enter Try.func24, Try.ntmps24
  go_wp2_with fail
  go_loopw [19] (fun i wr => (i = .int .i64 0 ∨ i = .int .i64 1 ∨ i = .int .i64 2 ∨ i = .int .i64 3) ∧ w = wr) (fun i _ => 3 - (intOf i).toNat)
  case atStart => exact ⟨.inl rfl, rfl⟩
  case round =>
    obtain ⟨hi, rfl⟩ := hrel
    rcases hi with rfl | rfl | rfl | rfl
    · go_wp2_with fail
      refine (between_yes 64 0 512 _ (by omega) (by omega)).mono ?_
      rintro e w1 ⟨rfl, rfl⟩
      go_wp2_with fail
      go_roundw
      case rel => exact ⟨.inr (.inl (by go_num)), trivial⟩
      case measure => simp [intOf]
    · go_wp2_with fail
      refine (between_yes 0 0 512 _ (by omega) (by omega)).mono ?_
      rintro e w1 ⟨rfl, rfl⟩
      go_wp2_with fail
      go_roundw
      case rel => exact ⟨.inr (.inr (.inl (by go_num))), trivial⟩
      case measure => simp [intOf]
    · go_wp2_with fail
      refine (between_yes 10 0 512 _ (by omega) (by omega)).mono ?_
      rintro e w1 ⟨rfl, rfl⟩
      go_wp2_with fail
      go_roundw
      case rel => exact ⟨.inr (.inr (.inr (by go_num))), trivial⟩
      case measure => simp [intOf]
    · go_wp2_with fail
      refine (Total_one b _ H.out).mono ?_
      rintro e w1 ⟨rfl, hb⟩
      have HB := Lib.hid hb
      clear hb
      go_wp2_with fail
      refine (Cost_one _).mono ?_
      rintro e w2 ⟨rfl, hb⟩
      have HB2 := Lib.hid (bnextN HB.out hb)
      clear hb
      go_wp2_with fail
      go_ret2
      exact ⟨rfl, HB2.out⟩
#print axioms Length_one
end Go.Proofs.Ytncjmndiafgaaaa
/- The contract of works04. Conditions: none. -/
namespace Go.Proofs.Ytncjmndiafgaaaa
open Go.RowKit
set_option linter.unusedVariables false
set_option maxRecDepth 100000 in
set_option maxHeartbeats 2000000 in
theorem works04_any (w : World) : Calls Try.prog 9 #[] w fun e w' => e = .returned (.bool true) ∧ Below w.heap.size w w' := by
  go_enter Try.func9, Try.ntmps9
  go_wp2_with fail
  refine (tail_ex w).mono ?_
  rintro e w1 ⟨f, rfl, hf, hv, hu, hb1⟩
  have HF := Lib.hid hf; have HV := Lib.hid hv; have HU := Lib.hid hu; have HB1 := Lib.hid hb1
  clear hf hv hu hb1
  go_wp2_with fail
  have hba : Below w1.heap.size w1 (w1.alloc (.cells #[.slice f.A f.n f.c, .slice f.B f.m f.d] 29)) := (Below.refl _ _).alloc (Nat.le_refl _) _
  have HK2 := Lib.hid (BlkN.new w1 #[.slice f.A f.n f.c, .slice f.B f.m f.d] 29)
  have HF2 := Lib.hid (HF.out.next hba); have HB2 := Lib.hid (bnextN HB1.out hba)
  clear hba HF HB1
  generalize w1.alloc (.cells #[.slice f.A f.n f.c, .slice f.B f.m f.d] 29) = w2 at HK2 HF2 HB2 ⊢
  refine (Of_numI 1 1 _ rfl (by omega)).mono ?_
  rintro e w3 ⟨A1, n1, c1, rfl, hr, hb⟩
  have HR1 := Lib.hid hr; have HK3 := Lib.hid (BlkN.past HK2.out hb HK2.out.lt); have HF3 := Lib.hid (HF2.out.next hb); have HB3 := Lib.hid (bnextN HB2.out hb)
  clear hr hb HK2 HF2 HB2
  go_wp2_with fail
  refine (Of_numI 6 6 _ rfl (by omega)).mono ?_
  rintro e w4 ⟨A2, n2, c2, rfl, hr, hb⟩
  have HR2 := Lib.hid hr; have HK4 := Lib.hid (BlkN.past HK3.out hb HK3.out.lt); have HF4 := Lib.hid (HF3.out.next hb); have HB4 := Lib.hid (bnextN HB3.out hb); have HR1' := Lib.hid (HR1.out.next hb)
  clear hr hb HK3 HF3 HB3 HR1
  go_wp2_with fail
  refine (rate_num ⟨A1, n1, c1, 1, A2, n2, c2, 6⟩ w4 4 2 0 4 2 0 rfl rfl rfl (by omega) (by omega) (by omega) ⟨HR1'.out, HR2.out, by show 0 < 6; decide⟩ (by show 1 < 6; decide) (by show 6 ≤ 1000000; decide)).mono ?_
  rintro e w5 ⟨L, LI, hLI, rfl, p1, p2, p3, p4, hb⟩
  clear p1
  have hL : L = 1 := by
    change L = 0 ∨ possB 4 2 0 1 6 L = true at p3
    change L = 4 ∨ possB 4 2 0 1 6 (L + 1) = false at p4
    change L ≤ 4 at p2
    clear HR1' HR2 hb
    rcases (by omega : L = 0 ∨ L = 1 ∨ L = 2 ∨ L = 3 ∨ L = 4) with rfl | rfl | rfl | rfl | rfl
    · exact absurd p4 (by decide)
    · rfl
    · exact absurd p3 (by decide)
    · exact absurd p3 (by decide)
    · exact absurd p3 (by decide)
  subst hL
  subst hLI
  have HK5 := Lib.hid (BlkN.past HK4.out hb HK4.out.lt); have HF5 := Lib.hid (HF4.out.next hb); have HB5 := Lib.hid (bnextN HB4.out hb)
  clear hb HK4 HF4 HB4 HR1' HR2 p2 p3 p4
  have hbe : Below w5.heap.size w5 (w5.alloc (.cells #[.int .i64 4, .int .i64 2, .int .i64 0, .int .i64 1, .int .i64 1] 32)) := (Below.refl _ _).alloc (Nat.le_refl _) _
  have hk6 := BlkN.past HK5.out hbe HK5.out.lt
  have q0 := hk6.cell 0
  have q1 := hk6.cell 1
  have hk7 := BlkN.new w5 #[.int .i64 4, .int .i64 2, .int .i64 0, .int .i64 1, .int .i64 1] 32
  have q2 := hk7.cell 3
  have HF6 := Lib.hid (HF5.out.next hbe); have HB6 := Lib.hid (bnextN HB5.out hbe); have HK7 := Lib.hid hk7
  simp only [List.getElem?_toArray, List.getElem?_cons_succ, List.getElem?_cons_zero] at q0 q1 q2
  clear hbe hk6 hk7 HF5 HB5 HK5
  go_wp2_with fail
  generalize w5.alloc (.cells #[.int .i64 4, .int .i64 2, .int .i64 0, .int .i64 1, .int .i64 1] 32) = w6 at q0 q1 q2 HF6 HB6 HK7 ⊢
  refine (frac_num f 1 2 1 2 w6 rfl rfl (by omega) (by omega) (by omega) HF6.out (by rw [HV.out]; decide) (by rw [HU.out]; decide) (by rw [HV.out, HU.out])).mono ?_
  rintro e w7 ⟨rfl, hb⟩
  have HB7 := Lib.hid (bnextN HB6.out hb)
  have hk8 := BlkN.past HK7.out hb HK7.out.lt
  have q3 := hk8.cell 3
  simp only [List.getElem?_toArray, List.getElem?_cons_succ, List.getElem?_cons_zero] at q3
  clear hb hk8 q0 q1 q2 HF6 HB6
  go_wp2_with fail
  refine (Parity_any (some ⟨w7.heap.size, 0, none⟩) 1 1 [true] (w7.alloc (.cells #[.bool true] 4)) (w7.heap.size + 1) (by omega) ?_).mono ?_
  · have := Rd.new w7 #[.bool true] 4 1 1 rfl
    simpa using this
  rintro e w8 ⟨rfl, rfl⟩
  go_wp2_with fail
  go_ret
  exact ⟨rfl, HB7.out.alloc HB7.out.size _⟩
#print axioms works04_any
end Go.Proofs.Ytncjmndiafgaaaa
/- The walk of TopCovers. Conditions: as the statement says. -/
namespace Go.Proofs.Ytncjmndiafgaaaa
open Go.RowKit
set_option linter.unusedVariables false
theorem pow_le_all : ∀ m : Fin 11, 1 ≤ 2 ^ m.val ∧ 2 ^ m.val ≤ 1024 := by decide
theorem pow_le' (m : Nat) (h : m < 11) : 1 ≤ 2 ^ m ∧ 2 ^ m ≤ 1024 := pow_le_all ⟨m, h⟩
theorem pow_small' (m : Nat) (h : m < 11) : wrap64 ((2 : Int) ^ m) = ((2 ^ m : Nat) : Int) := by
  have h2 := pow_le' m h
  rw [show (2 : Int) ^ m = ((2 ^ m : Nat) : Int) by push_cast; rfl]
  generalize 2 ^ m = x at h2
  unfold wrap64; omega
theorem i64_and_n (x y : Nat) (hx : x < 9223372036854775808) (hy : y < 9223372036854775808) : bits BinOp.and IntKind.i64 (x : Int) (y : Int) = ((x &&& y : Nat) : Int) := by
  have h1 : (BitVec.ofInt 64 (x : Int)).toNat = x := by rw [BitVec.toNat_ofInt]; omega
  have h2 : (BitVec.ofInt 64 (y : Int)).toNat = y := by rw [BitVec.toNat_ofInt]; omega
  unfold bits
  simp only
  show IntKind.i64.wrap (((BitVec.ofInt 64 (x : Int) &&& BitVec.ofInt 64 (y : Int)).toNat : Nat) : Int) = _
  rw [BitVec.toNat_and, h1, h2]
  have : x &&& y ≤ x := Nat.and_le_left
  generalize x &&& y = z at *
  rw [IntKind.wrap_i64]; omega
theorem cnt_more {F : Nat → Bool} {few set : Nat} (h : few ≤ cntTo F set) (hF : F set = true) : few + 1 ≤ cntTo F (set + 1) := by rw [cntTo, hF]; simp; omega
theorem cnt_keep {F : Nat → Bool} {few set : Nat} (h : few ≤ cntTo F set) : few ≤ cntTo F (set + 1) := by rw [cntTo]; omega
def CovP (w : World) (e : Ending) (w' : World) : Prop := e = .returned (.bool true) ∧ Below w.heap.size w w'
set_option maxRecDepth 100000 in
set_option maxHeartbeats 2000000 in
theorem TopCovers_walk (a0 a1 a2 a3 a4 : Nat) (w : World) (h0 : a0 < 65536) (h1 : a1 < 65536) (h2 : a2 < 65536) (h3 : a3 < 65536) (h4 : a4 < 65536) :
    Calls Try.prog 3 #[.int .u16 (a0 : Int), .int .u16 (a1 : Int), .int .u16 (a2 : Int), .int .u16 (a3 : Int), .int .u16 (a4 : Int)] w (CovP w) := by
  have hp1 := pow_le' (a0 % 11) (by omega)
  have HP := Lib.hid (pow_small' (a0 % 11) (by omega))
  have hnz : ¬ wrap64 (2 ^ (a0 % 11)) = 0 := by rw [HP.out]; omega
  have hz1 : ((a0 : Int) % 11 + 1 = 0) = False := by simp; omega
  obtain ⟨n, hn⟩ : ∃ n, n = a0 % 11 := ⟨_, rfl⟩
  obtain ⟨k, hk⟩ : ∃ k, k = a1 % (n + 1) := ⟨_, rfl⟩
  obtain ⟨bad, hbad⟩ : ∃ bad, bad = a2 % 2 ^ n := ⟨_, rfl⟩
  have hn10 : n ≤ 10 := by omega
  have hkn : k ≤ n := by have := Nat.mod_lt a1 (show 0 < n + 1 by omega); omega
  have hbn : bad < 2 ^ n := by rw [hbad]; exact Nat.mod_lt _ (Nat.pow_pos (by decide))
  obtain ⟨nI, hnI⟩ : ∃ z : Int, z = (n : Int) := ⟨_, rfl⟩
  obtain ⟨kI, hkI⟩ : ∃ z : Int, z = (k : Int) := ⟨_, rfl⟩
  obtain ⟨bI, hbI⟩ : ∃ z : Int, z = (bad : Int) := ⟨_, rfl⟩
  have EN : Hid ((a0 : Int) % 11 = nI) := Lib.hid (by omega)
  have EK : Hid ((a1 : Int) % (nI + 1) = kI) := Lib.hid (by rw [hkI, hnI, hk]; push_cast; rfl)
  have EB : Hid ((a2 : Int) % wrap64 (2 ^ (a0 % 11)) = bI) := Lib.hid (by rw [HP.out, hbI, hbad, hn]; push_cast; rfl)
  have HN := Lib.hid hnI; have HK := Lib.hid hkI; have HB := Lib.hid hbI; have HN10 := Lib.hid hn10; have HKN := Lib.hid hkn; have HBN := Lib.hid hbn; have HEN := Lib.hid hn
  clear hn hk hbad hn10 hkn hbn hnI hkI hbI hp1
  go_enter Try.func3, Try.ntmps3
  go_wp2_with fail
  rw [EN.out, EK.out, EB.out]
  refine (Of_numI a3 a3 _ rfl (by omega)).mono ?_
  rintro e w1 ⟨A1, n1, c1, rfl, hr1, hb1⟩
  have HR1 := Lib.hid hr1; have HB1 := Lib.hid hb1
  clear hr1 hb1
  go_wp2_with fail
  refine (Of_numI (a3 + a4 + 1) _ _ (by omega) (by omega)).mono ?_
  rintro e w2 ⟨A2, n2, c2, rfl, hr2, hb2⟩
  have HB2 := Lib.hid (bnextN HB1.out hb2)
  have HF2 : Hid ((⟨A1, n1, c1, a3, A2, n2, c2, a3 + a4 + 1⟩ : FV).ok w2 w2.heap.size) := Lib.hid ⟨HR1.out.next hb2, hr2, by show 0 < a3 + a4 + 1; omega⟩
  clear hr2 hb2 HR1 HB1
  go_wp2_with fail
  have hba : Below w2.heap.size w2 (w2.alloc (.cells #[.slice A1 n1 c1, .slice A2 n2 c2] 29)) := (Below.refl _ _).alloc (Nat.le_refl _) _
  have HK3 := Lib.hid (BlkN.new w2 #[.slice A1 n1 c1, .slice A2 n2 c2] 29)
  have HF3 := Lib.hid (HF2.out.next hba); have HB3 := Lib.hid (bnextN HB2.out hba)
  clear hba HF2 HB2
  generalize w2.alloc (.cells #[.slice A1 n1 c1, .slice A2 n2 c2] 29) = w3 at HK3 HF3 HB3 ⊢
  obtain ⟨ep, hep⟩ : ∃ x, x = w2.heap.size := ⟨_, rfl⟩
  rw [← hep] at HK3 ⊢
  clear hep
  obtain ⟨v, hv⟩ : ∃ v, v = a3 := ⟨_, rfl⟩
  obtain ⟨u, hu⟩ : ∃ u, u = a3 + a4 + 1 := ⟨_, rfl⟩
  have hvu : v < u := by omega
  have hu9 : u ≤ 140000 := by omega
  rw [← hu, ← hv] at HF3
  have HVU := Lib.hid hvu; have HU9 := Lib.hid hu9
  clear hu hv hvu hu9
  go_loopw [15, 16, 17] (fun fv av sv wr => ∃ (few all set : Nat) (fI aI sI : Int), fv = .int .u64 fI ∧ av = .int .u64 aI ∧ sv = .int .i64 sI ∧ fI = few ∧ aI = all ∧ sI = set ∧ set ≤ 2 ^ n ∧ few ≤ cntTo (outF n k v u bad) set ∧ all = cntTo (fun i => decide (onesN i = k)) set ∧ BlkN wr ep #[.slice A1 n1 c1, .slice A2 n2 c2] 29 ∧ (⟨A1, n1, c1, v, A2, n2, c2, u⟩ : FV).ok wr wr.heap.size ∧ Below w.heap.size w wr) (fun _ _ sv _ => 2 ^ n - (intOf sv).toNat)
  case atStart => exact ⟨0, 0, 0, 0, 0, 0, rfl, rfl, rfl, rfl, rfl, rfl, Nat.zero_le _, Nat.zero_le _, rfl, HK3.out, HF3.out, HB3.out⟩
  case round =>
    obtain ⟨few, all, set, fI, aI, sI, rfl, rfl, rfl, hfI, haI, hsI, hset, hfew, hall, hk, hf, hb⟩ := hrel
    obtain ⟨wa, rfl⟩ : ∃ z : World, z = wr := ⟨_, rfl⟩
    have hm1 := cntTo_max (outF n k v u bad) set
    have hm2 := cntTo_max (fun i => decide (onesN i = k)) set
    have hPn := pow_le' n (by have := HN10.out; omega)
    have HFI := Lib.hid hfI; have HAI := Lib.hid haI; have HSI := Lib.hid hsI; have HSET := Lib.hid hset; have HFEW := Lib.hid hfew; have HALL := Lib.hid hall; have HKK := Lib.hid hk; have HFF := Lib.hid hf; have HBB := Lib.hid hb
    have b1 : 0 ≤ fI := by omega
    have b2 : fI ≤ 1024 := by omega
    have b3 : 0 ≤ aI := by omega
    have b4 : aI ≤ 1024 := by omega
    have b5 : 0 ≤ sI := by omega
    have b6 : sI ≤ 1024 := by omega
    have b7 : 0 ≤ nI := by have := HN.out; omega
    have b8 : nI ≤ 10 := by have := HN.out; have := HN10.out; omega
    have HPS : Hid (wrap64 (2 ^ nI.toNat) = ((2 ^ n : Nat) : Int)) := Lib.hid (by
      have := HN.out
      rw [show nI.toNat = n by omega]; exact pow_small' n (by have := HN10.out; omega))
    by_cases hlt : set < 2 ^ n
    · have q1 : sI < wrap64 (2 ^ nI.toNat) := by rw [HPS.out]; omega
      clear hm1 hm2 hPn hset hfew hall hk hf hb hfI haI hsI HK3 HF3 HB3
      go_wp2_with fail
      refine (ones_any set sI wa HSI.out (by have := HSI.out; omega)).mono ?_
      rintro e w4 ⟨⟨z, hz, rfl⟩, rfl⟩
      have HZ := Lib.hid hz
      by_cases hzk : z = kI
      · have q2 : (z != kI) = false := by simp [hzk]
        have HON := Lib.hid (show onesN set = k by have a := HK.out; rw [hz, a] at hzk; omega)
        have HAND : Hid (bits BinOp.and IntKind.i64 sI bI = ((set &&& bad : Nat) : Int)) := Lib.hid (by
          have a := HSI.out; have b := HB.out; have c := HBN.out
          have d := pow_le' n (by have := HN10.out; omega)
          rw [a, b]; exact i64_and_n _ _ (by omega) (by omega))
        obtain ⟨dI, hdI⟩ : ∃ dI, dI = bits BinOp.and IntKind.i64 sI bI := ⟨_, rfl⟩
        have HAND2 : Hid (dI = ((set &&& bad : Nat) : Int)) := Lib.hid (hdI.trans HAND.out)
        have HDI := Lib.hid hdI
        have HSD : Hid (set &&& bad ≤ 1000000) := Lib.hid (by have a := HSI.out; have : set &&& bad ≤ set := Nat.and_le_left; omega)
        clear hz hzk hdI
        go_wp2_with fail
        rw [← HDI.out]
        refine (ones_any (set &&& bad) dI _ HAND2.out HSD.out).mono ?_
        rintro e w5 ⟨⟨seI, hse, rfl⟩, rfl⟩
        have HSE := Lib.hid hse
        have HSK : Hid (onesN (set &&& bad) ≤ k) := Lib.hid (by have := onesN_and_le set bad; rw [HON.out] at this; exact this)
        have hs1 : 0 ≤ seI := by omega
        have hs2 : seI ≤ 10 := by have a := HSK.out; have b := HKN.out; have c := HN10.out; omega
        have k0 : wa.cell? ⟨ep, 0, none⟩ = some (.slice A1 n1 c1) := HKK.out.cell 0
        have k1 : wa.cell? ⟨ep, 1, none⟩ = some (.slice A2 n2 c2) := HKK.out.cell 1
        clear hse
        go_wp2_with fail
        refine (rate_num ⟨A1, n1, c1, v, A2, n2, c2, u⟩ wa n k (onesN (set &&& bad)) nI kI seI HN.out HK.out HSE.out HN10.out HKN.out HSK.out HFF.out HVU.out (by have := HU9.out; show u ≤ 1000000; omega)).mono ?_
        rintro e w6 ⟨L, LI, hLI, rfl, p1, p2, p3, p4, hb6⟩
        have HP4 : Hid (L = n ∨ possB n k (onesN (set &&& bad)) v u (L + 1) = false) := Lib.hid p4
        have HP2 := Lib.hid p2; have HP1 := Lib.hid p1; have HLI := Lib.hid hLI
        have l1 : 0 ≤ LI := by omega
        have l2 : LI ≤ 10 := by have := HN10.out; omega
        have HK6 := Lib.hid (BlkN.past HKK.out hb6 HKK.out.lt); have HF6 := Lib.hid (HFF.out.next hb6); have HB6 := Lib.hid (bnextN HBB.out hb6)
        clear p1 p2 p3 p4 hLI hb6 k0 k1 HKK HFF HBB
        go_wp2_with fail
        have hbe : Below w6.heap.size w6 (w6.alloc (.cells #[.int .i64 nI, .int .i64 kI, .int .i64 seI, .int .i64 LI, .int .i64 (LI - seI)] 32)) := (Below.refl _ _).alloc (Nat.le_refl _) _
        have hk7 := BlkN.new w6 #[.int .i64 nI, .int .i64 kI, .int .i64 seI, .int .i64 LI, .int .i64 (LI - seI)] 32
        have HK7 := Lib.hid (BlkN.past HK6.out hbe HK6.out.lt); have HF7 := Lib.hid (HF6.out.next hbe); have HB7 := Lib.hid (bnextN HB6.out hbe)
        have hr4 : (w6.alloc (.cells #[.int .i64 nI, .int .i64 kI, .int .i64 seI, .int .i64 LI, .int .i64 (LI - seI)] 32)).cell? ⟨w6.heap.size, 4, none⟩ = some (.int .i64 (LI - seI)) := hk7.cell 4
        clear hbe hk7 HK6 HF6 HB6
        generalize w6.alloc (.cells #[.int .i64 nI, .int .i64 kI, .int .i64 seI, .int .i64 LI, .int .i64 (LI - seI)] 32) = w7 at hr4 HK7 HF7 HB7 ⊢
        obtain ⟨oI, hoI⟩ : ∃ oI : Int, oI = onesN bad := ⟨_, rfl⟩
        have HOI := Lib.hid hoI
        have HOB : Hid (onesN bad ≤ n) := Lib.hid (onesN_le_bits n bad HBN.out)
        have o1 : 0 ≤ oI := by omega
        have o2 : oI ≤ 10 := by have a := HOB.out; have b := HN10.out; omega
        have HONES : Hid (∀ t : Nat, Calls Try.prog 6 #[.int .i64 bI] (w7.drewN t) fun e w' => e = .returned (.int .i64 oI) ∧ w7.drewN t = w') := Lib.hid fun t => (ones_any bad bI _ HB.out (by have a := HBN.out; have b := pow_le' n (by have := HN10.out; omega); omega)).mono (by
          rintro e w' ⟨⟨z, hz, rfl⟩, rfl⟩
          exact ⟨by rw [hz, HOI.out], rfl⟩)
        have hw1 : IntKind.i64.wrap (oI - seI) = oI - seI := by rw [IntKind.wrap_i64]; omega
        clear hoI
        by_cases hov : LI - seI < oI - seI
        · have HF : Hid (outF n k v u bad set = true) := Lib.hid (by
            have a1 := HON.out; have a2 := HLI.out; have a3 := HOI.out; have a4 := HOB.out; have a5 := HSE.out
            unfold outF
            rw [Bool.and_eq_true, decide_eq_true_eq, Bool.not_eq_true']
            refine ⟨a1, ?_⟩
            rcases HP4.out with h5 | h5
            · exfalso; omega
            · have h6 := poss_down n k _ v u (L + 1) HSK.out h5 (onesN bad - (L + 1)) (by omega)
              rwa [show L + 1 + (onesN bad - (L + 1)) = onesN bad by omega] at h6)
          go_quiet ((go_at_call 6; exact quiet_e (HONES.out _)))
          have hq : Qw w7 (w7.drewN nq) := ⟨_, rfl⟩
          have HK8 := Lib.hid (BlkN.past HK7.out (hq.below w7.heap.size) HK7.out.lt); have HF8 := Lib.hid (HF7.out.next (hq.below _)); have HB8 := Lib.hid (bnextN HB7.out (hq.below _))
          clear hq hr4 HK7 HF7 HB7 HONES
          generalize w7.drewN nq = w8 at HK8 HF8 HB8 ⊢
          go_wp2_with fail
          go_roundw
          case rel => exact ⟨few + 1, all + 1, set + 1, fI + 1, aI + 1, sI + 1, rfl, rfl, rfl, by have := HFI.out; omega, by have := HAI.out; omega, by have := HSI.out; omega, by omega, cnt_more HFEW.out HF.out, by rw [cntTo, ← HALL.out]; simp [HON.out], HK8.out, HF8.out, HB8.out⟩
          case measure => have := HSI.out; simp [intOf]; omega
        · go_quiet ((go_at_call 6; exact quiet_e (HONES.out _)))
          have hq : Qw w7 (w7.drewN nq) := ⟨_, rfl⟩
          have HK8 := Lib.hid (BlkN.past HK7.out (hq.below w7.heap.size) HK7.out.lt); have HF8 := Lib.hid (HF7.out.next (hq.below _)); have HB8 := Lib.hid (bnextN HB7.out (hq.below _))
          clear hq hr4 HK7 HF7 HB7 HONES
          generalize w7.drewN nq = w8 at HK8 HF8 HB8 ⊢
          go_wp2_with fail
          go_roundw
          case rel => exact ⟨few, all + 1, set + 1, fI, aI + 1, sI + 1, rfl, rfl, rfl, HFI.out, by have := HAI.out; omega, by have := HSI.out; omega, by omega, cnt_keep HFEW.out, by rw [cntTo, ← HALL.out]; simp [HON.out], HK8.out, HF8.out, HB8.out⟩
          case measure => have := HSI.out; simp [intOf]; omega
      · have q2 : (z != kI) = true := by simp [hzk]
        clear hz
        go_wp2_with fail
        go_roundw
        case rel => exact ⟨few, all, set + 1, fI, aI, sI + 1, rfl, rfl, rfl, HFI.out, HAI.out, by have := HSI.out; omega, by omega, cnt_keep HFEW.out, by
          have hne : onesN set ≠ k := by have a := HK.out; have b := HZ.out; omega
          rw [cntTo, ← HALL.out]; simp [hne], HKK.out, HFF.out, HBB.out⟩
        case measure => have := HSI.out; simp [intOf]; omega
    · have q1 : ¬ sI < wrap64 (2 ^ nI.toNat) := by rw [HPS.out]; omega
      clear hm1 hm2 hPn hset hfew hall hk hf hb hfI haI hsI HK3 HF3 HB3
      have HEQ : Hid (set = 2 ^ n) := Lib.hid (by have := HSET.out; omega)
      have HC1 : Hid (few * u ≤ v * bin n k) := Lib.hid (by
        have a := covers_law n k v u bad HBN.out
        have b := HFEW.out
        rw [HEQ.out] at b
        exact Nat.le_trans (Nat.mul_le_mul_right u b) a)
      have HC2 : Hid (all = bin n k) := Lib.hid (by rw [HALL.out, HEQ.out]; exact count_all n bad k HBN.out)
      have HC3 : Hid (0 < all) := Lib.hid (by rw [HC2.out]; exact bin_pos n HN10.out k HKN.out)
      have HC4 : Hid (few ≤ 1024) := Lib.hid (by have := HFI.out; omega)
      have HC5 : Hid (all ≤ 1024) := Lib.hid (by have := HAI.out; omega)
      have HC6 : Hid (few * u ≤ 4000000000) := Lib.hid (by
        have a := Nat.mul_le_mul HC4.out HU9.out
        omega)
      have HC7 : Hid (v * all ≤ 4000000000) := Lib.hid (by
        have a := HVU.out; have b := HU9.out
        have c := Nat.mul_le_mul (show v ≤ 140000 by omega) HC5.out
        omega)
      obtain ⟨zI, hzI⟩ : ∃ z, z = ordI (few * u) (v * all) := ⟨_, rfl⟩
      have hz0 : zI ≤ 0 := by
        have a := HC1.out; have b := HC2.out
        rw [b] at hzI
        unfold ordI at hzI
        split at hzI
        · omega
        · rw [if_neg (by omega)] at hzI; omega
      have HZI := Lib.hid hzI
      have HEP := Lib.hid HKK.out.lt
      clear hzI
      go_wp2_with fail
      have b0 : FBox wa ep ⟨A1, n1, c1, v, A2, n2, c2, u⟩ := ⟨HKK.out.cell 0, HKK.out.cell 1⟩
      go_region_held3 (fun w' => FBox w' ep ⟨A1, n1, c1, v, A2, n2, c2, u⟩) (first | exact b0 | exact b1 | exact b2 | exact b3)
        ((first
          | (have hsecond := b1
             go_at_call 5
             refine (Of_numI all aI _ HAI.out (by have := HC5.out; omega)).mono ?_
             rintro e w2 ⟨A4, n4, c4, rfl, hr2, hb2⟩
             have b2 := FBox.past b1 hb2 (Nat.lt_of_lt_of_le HEP.out HB1.out.size)
             have HB2 := Lib.hid (bnextN HB1.out hb2); have HR2 := Lib.hid hr2; have HR1' := Lib.hid (HR1.out.next hb2)
             clear hr2 hb2)
          | (go_at_call 5
             refine (Of_numI few fI _ HFI.out (by have := HC4.out; omega)).mono ?_
             rintro e w1 ⟨A3, n3, c3, rfl, hr1, hb1⟩
             have b1 := FBox.past (w := World.drew wa) b0 hb1 HEP.out
             have HB1 := Lib.hid ((Qw.below (⟨1, rfl⟩ : Qw wa (World.drew wa)) wa.heap.size).trans hb1); have HR1 := Lib.hid hr1
             clear hr1 hb1)
          | (go_at_call 8
             refine (compare_num ⟨A3, n3, c3, few, A4, n4, c4, all⟩ ⟨A1, n1, c1, v, A2, n2, c2, u⟩ _ ⟨HR1'.out, HR2.out, HC3.out⟩ (HFF.out.next HB2.out) HC6.out HC7.out).mono ?_
             rintro e w3 ⟨he, hb3⟩
             obtain rfl : e = .returned (.tuple #[.int .i64 zI, .int .i64 0]) := by rw [HZI.out]; exact he
             have b3 := FBox.past b2 hb3 (Nat.lt_of_lt_of_le HEP.out HB2.out.size)
             have HB3 := Lib.hid (bnextN HB2.out hb3)
             clear hb3 he)))
      have HBF := Lib.hid (bnextN HBB.out HB3.out)
      go_wp2_with fail
      refine (works04_any _).mono ?_
      rintro e w9 ⟨rfl, hb9⟩
      have HB9 := Lib.hid (bnextN HBF.out hb9)
      clear hb9
      go_wp2_with fail
      go_ret
      exact ⟨rfl, HB9.out⟩
#print axioms TopCovers_walk
end Go.Proofs.Ytncjmndiafgaaaa
