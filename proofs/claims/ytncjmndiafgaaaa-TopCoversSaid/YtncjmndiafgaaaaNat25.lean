/- The contract of reduced at 3 and 6. Conditions: as each statement says. -/
import Derived.Test.YtncjmndiafgaaaaNat24
import Derived.Laws.EntriesVeiled
namespace Go.Proofs.Ytncjmndiafgaaaa
open Go.RowKit
set_option linter.unusedVariables false
theorem grown_of {w w1 : World} (hb : Below w.heap.size w w1) (o : Nat) : w.grownBy w1 (some o) := ⟨hb.os, hb.tape, hb.output, hb.size, fun k hk _ => hb.block k hk⟩
theorem BlkN.grown {w w' : World} {h o : Nat} {cs : Array Value} {t : TypeId} (k : BlkN w h cs t) (hg : w.grownBy w' (some o)) (hne : h ≠ o) : BlkN w' h cs t := (hg.block h k.lt (fun e => hne (by injection e))).trans k
def RedP (v o : Nat) (x : Value → Array Value) (t : TypeId) (w : World) (e : Ending) (w' : World) : Prop := e = .returned (.int .i64 0) ∧ ∃ A n c, NumR w' w'.heap.size A n c v ∧ BlkN w' o (x (.slice A n c)) t ∧ w.grownBy w' (some o)
set_option maxRecDepth 100000 in
set_option maxHeartbeats 1000000 in
theorem red_1 (p o v : Nat) (A A1 A2 : Option Addr) (n c n1 c1 n2 c2 : Nat) (w : World) (hp : BoxN w p (.slice A n c)) (ho : BlkN w o #[.slice A1 n1 c1, .slice A2 n2 c2] 29) (hv : NumR w w.heap.size A n c v) :
    Calls Try.prog 48 #[.pointer (some ⟨p, 0, none⟩), .pointer (some ⟨o, 0, none⟩)] w (RedP v o (fun x => #[x, .slice A2 n2 c2]) 29 w) := by
  have c0 := hp.cell
  have HO := Lib.hid ho; have HV := Lib.hid hv
  clear hp ho hv
  go_enter Try.func48, Try.ntmps48
  go_wp2_with fail
  refine (fit_num HV.out).mono ?_
  rintro e w1 ⟨A', n', c', rfl, hr, hb⟩
  have hk := BlkN.past HO.out hb HO.out.lt
  have c1 := hk.cell 0
  have f1 := hk.froz 0
  have HK := Lib.hid hk; have HB := Lib.hid hb; have HR := Lib.hid hr
  clear hk hb hr
  simp only [List.getElem?_toArray, List.getElem?_cons_zero] at c1
  go_wp2_with fail
  go_ret
  exact ⟨rfl, A', n', c', by rw [size_setCell]; exact num_set HR.out c1, HK.out.set 0 _, grown_set (grown_of HB.out o) _ _⟩
set_option maxRecDepth 100000 in
set_option maxHeartbeats 1000000 in
theorem red_2 (p o v : Nat) (A A1 A2 : Option Addr) (n c n1 c1 n2 c2 : Nat) (w : World) (hp : BoxN w p (.slice A n c)) (ho : BlkN w o #[.slice A1 n1 c1, .slice A2 n2 c2] 29) (hv : NumR w w.heap.size A n c v) :
    Calls Try.prog 50 #[.pointer (some ⟨p, 0, none⟩), .pointer (some ⟨o, 0, none⟩)] w (RedP v o (fun x => #[.slice A1 n1 c1, x]) 29 w) := by
  have c0 := hp.cell
  have HO := Lib.hid ho; have HV := Lib.hid hv
  clear hp ho hv
  go_enter Try.func50, Try.ntmps50
  go_wp2_with fail
  refine (fit_num HV.out).mono ?_
  rintro e w1 ⟨A', n', c', rfl, hr, hb⟩
  have hk := BlkN.past HO.out hb HO.out.lt
  have c1 := hk.cell 1
  have f1 := hk.froz 1
  have HK := Lib.hid hk; have HB := Lib.hid hb; have HR := Lib.hid hr
  clear hk hb hr
  simp only [List.getElem?_toArray, List.getElem?_cons_succ, List.getElem?_cons_zero] at c1
  go_wp2_with fail
  go_ret
  exact ⟨rfl, A', n', c', by rw [size_setCell]; exact num_set HR.out c1, HK.out.set 1 _, grown_set (grown_of HB.out o) _ _⟩
/-- A call that returns a new fraction. -/
def RetFrac (v u : Nat) (w : World) (e : Ending) (w' : World) : Prop := ∃ f : FV, e = .returned (.tuple #[.agg #[.slice f.A f.n f.c, .slice f.B f.m f.d], .int .i64 0]) ∧ f.ok w' w'.heap.size ∧ f.v = v ∧ f.u = u ∧ Below w.heap.size w w'
abbrev redF1 (p o : Nat) : Value := .func (.func 48) #[] #[.pointer (some ⟨p, 0, none⟩), .pointer (some ⟨o, 0, none⟩)]
abbrev redF2 (p o : Nat) : Value := .func (.func 50) #[] #[.pointer (some ⟨p, 0, none⟩), .pointer (some ⟨o, 0, none⟩)]
theorem NumR.grownBlk {w w' : World} {B n c v o : Nat} {A A1 A2 : Option Addr} {n1 c1 n2 c2 : Nat} {t : TypeId} (h : NumR w B A n c v) (k : BlkN w o #[.slice A1 n1 c1, .slice A2 n2 c2] t) (hg : w.grownBy w' (some o)) (hB : B ≤ w.heap.size) : NumR w' B A n c v := by
  obtain ⟨l, h1, h2, h3⟩ := h.ex
  refine ⟨⟨l, h1, h2, h3.1, fun h0 => ?_⟩, h.n2, h.nc⟩
  obtain ⟨b, off, rfl, hb, hcell⟩ := h3.2 h0
  have hbo : b ≠ o := by
    intro e
    subst e
    have h4 := hcell 0
    rw [List.getElem?_eq_getElem (by have := h3.1; simp at this ⊢; omega)] at h4
    have h5 := h4 _ rfl
    rw [k.cell] at h5
    have h6 : (limC l)[0]'(by have := h3.1; simp at this ⊢; omega) ∈ limC l := List.getElem_mem _
    obtain ⟨y, _, hy⟩ := List.mem_map.1 h6
    rw [← hy] at h5
    have h7 := Array.mem_of_getElem? h5
    simp at h7
  exact ⟨b, off, rfl, hb, fun j x hx => (World.cell?_of_block (w' := w') (a := ⟨b, off + j, none⟩) (w := w) (hg.block b (by omega) (fun e => hbo (by injection e)))).trans (hcell j x hx)⟩
theorem BoxN.grown {w w' : World} {h o : Nat} {v : Value} (k : BoxN w h v) (hg : w.grownBy w' (some o)) (hne : h ≠ o) : BoxN w' h v :=
  have e := hg.block h k.lt (fun e => hne (by injection e))
  ⟨Nat.lt_of_lt_of_le k.lt hg.size, (World.cell?_of_block (w' := w') (a := ⟨h, 0, none⟩) (w := w) e).trans k.cell, (World.frozen?_of_block (w' := w') (a := ⟨h, 0, none⟩) (w := w) e).trans k.froz⟩
/-- Where the loop of reduced stands. -/
structure RedS (wr w : World) (ip iq io ih ik : Nat) (A1 : Option Addr) (n1 c1 : Nat) (A3 : Option Addr) (n3 c3 : Nat) : Prop where
  p : BoxN wr ip (.slice A1 n1 c1)
  q : BoxN wr iq (.slice A3 n3 c3)
  fs : BlkN wr ih #[redF1 ip io, redF2 iq io] 101
  res : BlkN wr ik #[.slice none 0 0, .slice none 0 0] 29
  n : NumR wr wr.heap.size A1 n1 c1 1
  m : NumR wr wr.heap.size A3 n3 c3 2
  b : Below w.heap.size w wr
def RedI (i : Value) (wr w : World) (ip iq io ih ik : Nat) (A1 : Option Addr) (n1 c1 : Nat) (A3 : Option Addr) (n3 c3 : Nat) : Prop :=
  RedS wr w ip iq io ih ik A1 n1 c1 A3 n3 c3 ∧ ((i = .int .i64 0 ∧ BlkN wr io #[.slice none 0 0, .slice none 0 0] 29) ∨
    (∃ A n c, i = .int .i64 1 ∧ BlkN wr io #[.slice A n c, .slice none 0 0] 29 ∧ NumR wr wr.heap.size A n c 1) ∨
    (∃ A n c A' n' c', i = .int .i64 2 ∧ BlkN wr io #[.slice A n c, .slice A' n' c'] 29 ∧ NumR wr wr.heap.size A n c 1 ∧ NumR wr wr.heap.size A' n' c' 2))
set_option maxRecDepth 100000 in
set_option maxHeartbeats 2000000 in
theorem reduced_36 {A A' : Option Addr} {n c n' c' : Nat} {w : World} (h : NumR w w.heap.size A n c 3) (h' : NumR w w.heap.size A' n' c' 6) :
    Calls Try.prog 34 #[.slice A n c, .slice A' n' c'] w (RetFrac 1 2 w) := by
  have H := Lib.hid h; have H' := Lib.hid h'
  clear h h'
  go_enter Try.func34, Try.ntmps34
  go_wp2_with fail
  have HK0 := Lib.hid (BlkN.new w #[.slice none 0 0, .slice none 0 0] 29)
  have HB0 : Hid (Below w.heap.size w (w.alloc (.cells #[.slice none 0 0, .slice none 0 0] 29))) := Lib.hid ((Below.refl _ _).alloc (Nat.le_refl _) _)
  have H1 := Lib.hid (H.out.next HB0.out); have H2 := Lib.hid (H'.out.next HB0.out)
  generalize w.alloc (.cells #[.slice none 0 0, .slice none 0 0] 29) = W at HK0 HB0 H1 H2 ⊢
  refine (common_36 H1.out H2.out).mono ?_
  rintro e w1 ⟨Ag, ng, cg, rfl, hr, hb⟩
  have HG := Lib.hid hr; have HK1 := Lib.hid (BlkN.past HK0.out hb HK0.out.lt); have HB1 := Lib.hid (bnextN HB0.out hb)
  have H3 := Lib.hid (H1.out.next hb); have H4 := Lib.hid (H2.out.next hb)
  clear hr hb H1 H2 HK0 HB0 H H'
  go_wp2_with fail
  refine (split_num H3.out HG.out (by omega) (by omega) (by omega)).mono ?_
  rintro e w2 ⟨A1, n1, c1, A2, n2, c2, rfl, hr1, hr2, hb⟩
  have HR1 := Lib.hid (show NumR w2 w2.heap.size A1 n1 c1 1 from hr1)
  have HK2 := Lib.hid (BlkN.past HK1.out hb HK1.out.lt); have HB2 := Lib.hid (bnextN HB1.out hb)
  have HG2 := Lib.hid (HG.out.next hb); have H5 := Lib.hid (H4.out.next hb)
  clear hr1 hr2 hb HG HK1 HB1 H3 H4
  go_wp2_with fail
  have hba : Below w2.heap.size w2 (w2.alloc (.cells #[.slice A1 n1 c1] 25)) := (Below.refl _ _).alloc (Nat.le_refl _) _
  have HP1 := Lib.hid (BoxN.new w2 (.slice A1 n1 c1) 25)
  have HR1' := Lib.hid (HR1.out.next hba); have HK3 := Lib.hid (BlkN.past HK2.out hba HK2.out.lt); have HB3 := Lib.hid (bnextN HB2.out hba)
  have HG3 := Lib.hid (HG2.out.next hba); have H6 := Lib.hid (H5.out.next hba)
  have hlt0 : w.heap.size < w2.heap.size := HK2.out.lt
  clear hba HR1 HK2 HG2 H5
  generalize w2.alloc (.cells #[.slice A1 n1 c1] 25) = w3 at HP1 HR1' HK3 HB3 HG3 H6 ⊢
  refine (split_num H6.out HG3.out (by omega) (by omega) (by omega)).mono ?_
  rintro e w4 ⟨A3, n3, c3, A4, n4, c4, rfl, hr1, hr2, hb⟩
  have HR2 := Lib.hid (show NumR w4 w4.heap.size A3 n3 c3 2 from hr1)
  have HK4 := Lib.hid (BlkN.past HK3.out hb HK3.out.lt); have HB4 := Lib.hid (bnextN HB3.out hb)
  have HP1' := Lib.hid (HP1.out.past hb); have HR1 := Lib.hid (HR1'.out.next hb)
  have hlt1 : w2.heap.size < w4.heap.size := HP1'.out.lt
  clear hr1 hr2 hb HG3 HK3 HB3 H6 HR1' HP1
  go_wp2_with fail
  have HE : Hid (Below w.heap.size w w4) := HB4
  have hs4 : w.heap.size < w2.heap.size := hlt0
  have HX0 := Lib.hid (BoxN.new w4 (.slice A3 n3 c3) 25)
  have hbc : Below w4.heap.size w4 (((w4.alloc (.cells #[.slice A3 n3 c3] 25)).alloc (.cells #[.slice none 0 0, .slice none 0 0] 29)).alloc (.cells #[redF1 w2.heap.size (w4.heap.size + 1), redF2 w4.heap.size (w4.heap.size + 1)] 101)) := (((Below.refl _ _).alloc (Nat.le_refl _) _).alloc (by simp) _).alloc (by simp only [World.size_alloc]; omega) _
  have HBX : Hid (BoxN (((w4.alloc (.cells #[.slice A3 n3 c3] 25)).alloc (.cells #[.slice none 0 0, .slice none 0 0] 29)).alloc (.cells #[redF1 w2.heap.size (w4.heap.size + 1), redF2 w4.heap.size (w4.heap.size + 1)] 101)) w4.heap.size (.slice A3 n3 c3)) :=
    Lib.hid ((HX0.out.past ((Below.refl _ _).alloc (Nat.le_refl _) _)).past ((Below.refl _ _).alloc (Nat.le_refl _) _))
  have HBO : Hid (BlkN (((w4.alloc (.cells #[.slice A3 n3 c3] 25)).alloc (.cells #[.slice none 0 0, .slice none 0 0] 29)).alloc (.cells #[redF1 w2.heap.size (w4.heap.size + 1), redF2 w4.heap.size (w4.heap.size + 1)] 101)) (w4.heap.size + 1) #[.slice none 0 0, .slice none 0 0] 29) := Lib.hid (by
    have h := BlkN.new (w4.alloc (.cells #[.slice A3 n3 c3] 25)) #[.slice none 0 0, .slice none 0 0] 29
    have h2 := BlkN.past h ((Below.refl _ _).alloc (Nat.le_refl _) (.cells #[redF1 w2.heap.size (w4.heap.size + 1), redF2 w4.heap.size (w4.heap.size + 1)] 101)) h.lt
    rwa [World.size_alloc] at h2)
  have HBF : Hid (BlkN (((w4.alloc (.cells #[.slice A3 n3 c3] 25)).alloc (.cells #[.slice none 0 0, .slice none 0 0] 29)).alloc (.cells #[redF1 w2.heap.size (w4.heap.size + 1), redF2 w4.heap.size (w4.heap.size + 1)] 101)) (w4.heap.size + 1 + 1) #[redF1 w2.heap.size (w4.heap.size + 1), redF2 w4.heap.size (w4.heap.size + 1)] 101) := Lib.hid (by
    have h := BlkN.new ((w4.alloc (.cells #[.slice A3 n3 c3] 25)).alloc (.cells #[.slice none 0 0, .slice none 0 0] 29)) #[redF1 w2.heap.size (w4.heap.size + 1), redF2 w4.heap.size (w4.heap.size + 1)] 101
    rwa [World.size_alloc, World.size_alloc] at h)
  have HN1 := Lib.hid (HR1.out.next hbc); have HN2 := Lib.hid (HR2.out.next hbc); have HP2 := Lib.hid (HP1'.out.past hbc); have HK5 := Lib.hid (BlkN.past HK4.out hbc HK4.out.lt)
  have HB5 := Lib.hid (bnextN HB4.out hbc)
  clear hbc HX0 HR1 HR2 HP1' HK4 HB4 HE
  generalize ((w4.alloc (.cells #[.slice A3 n3 c3] 25)).alloc (.cells #[.slice none 0 0, .slice none 0 0] 29)).alloc (.cells #[redF1 w2.heap.size (w4.heap.size + 1), redF2 w4.heap.size (w4.heap.size + 1)] 101) = w5 at HBX HBO HBF HN1 HN2 HP2 HK5 HB5 ⊢
  have hp2 := HP2.out.lt; have hpx := HBX.out.lt; have hpo := HBO.out.lt; have hpf := HBF.out.lt
  obtain ⟨ip, hip⟩ : ∃ x, x = w2.heap.size := ⟨_, rfl⟩
  obtain ⟨iq, hiq⟩ : ∃ x, x = w4.heap.size := ⟨_, rfl⟩
  obtain ⟨io, hio⟩ : ∃ x, x = w4.heap.size + 1 := ⟨_, rfl⟩
  obtain ⟨ih, hih⟩ : ∃ x, x = w4.heap.size + 1 + 1 := ⟨_, rfl⟩
  have d1 : ip ≠ io := by omega
  have d2 : iq ≠ io := by omega
  have d3 : ih ≠ io := by omega
  have d4 : w.heap.size ≠ io := by omega
  have HIK : Hid (w.heap.size ≤ io) := Lib.hid (by omega)
  rw [← hih, ← hio, ← hip, ← hiq] at HBF
  rw [← hio] at HBO
  rw [← hip] at HP2
  rw [← hiq] at HBX
  rw [← hih, ← hio, ← hip, ← hiq]
  clear hih hio hip hiq hs4 hlt0 hlt1 hp2 hpx hpo hpf
  go_loopw [34] (fun i wr => RedI i wr w ip iq io ih w.heap.size A1 n1 c1 A3 n3 c3) (fun i _ => 2 - (intOf i).toNat)
  case atStart => exact ⟨⟨HP2.out, HBX.out, HBF.out, HK5.out, HN1.out, HN2.out, HB5.out⟩, .inl ⟨rfl, HBO.out⟩⟩
  case round =>
    obtain ⟨hS, hr⟩ := hrel
    obtain ⟨wa, rfl⟩ : ∃ z : World, z = wr := ⟨_, rfl⟩
    have HS := Lib.hid hS
    clear hS HBX HBO HBF HN1 HN2 HP2 HK5 HB5
    have k0 : wa.cell? ⟨ih, 0, none⟩ = some (redF1 ip io) := HS.out.fs.cell 0
    have k1 : wa.cell? ⟨ih, 1, none⟩ = some (redF2 iq io) := HS.out.fs.cell 1
    rcases hr with ⟨rfl, ho⟩ | ⟨A, n, c, rfl, ho, hn⟩ | ⟨A, n, c, A', n', c', rfl, ho, hn, hm⟩
    · have HO := Lib.hid ho
      clear ho
      go_wp2_with fail
      refine (red_1 ip io 1 A1 none none n1 c1 0 0 0 0 wa HS.out.p HO.out HS.out.n).mono ?_
      rintro e wb ⟨rfl, A, n, c, hr, hk, hg⟩
      have HS2 : Hid (RedS wb w ip iq io ih w.heap.size A1 n1 c1 A3 n3 c3) := Lib.hid ⟨HS.out.p.grown hg d1, HS.out.q.grown hg d2, BlkN.grown HS.out.fs hg d3, BlkN.grown HS.out.res hg d4, (HS.out.n.grownBlk HO.out hg (Nat.le_refl _)).mono hg.size, (HS.out.m.grownBlk HO.out hg (Nat.le_refl _)).mono hg.size, HS.out.b.grown hg HS.out.b.size (fun k hk => by cases hk; exact HIK.out)⟩
      have HR := Lib.hid hr; have HK := Lib.hid hk
      clear hr hk hg
      go_wp2_with fail
      go_roundw
      case rel => exact ⟨HS2.out, .inr (.inl ⟨A, n, c, by go_num, HK.out, HR.out⟩)⟩
      case measure => simp [intOf]
    · have HO := Lib.hid ho; have HN := Lib.hid hn
      clear ho hn
      go_wp2_with fail
      refine (red_2 iq io 2 A3 A none n3 c3 n c 0 0 wa HS.out.q HO.out HS.out.m).mono ?_
      rintro e wb ⟨rfl, A', n', c', hr, hk, hg⟩
      have HS2 : Hid (RedS wb w ip iq io ih w.heap.size A1 n1 c1 A3 n3 c3) := Lib.hid ⟨HS.out.p.grown hg d1, HS.out.q.grown hg d2, BlkN.grown HS.out.fs hg d3, BlkN.grown HS.out.res hg d4, (HS.out.n.grownBlk HO.out hg (Nat.le_refl _)).mono hg.size, (HS.out.m.grownBlk HO.out hg (Nat.le_refl _)).mono hg.size, HS.out.b.grown hg HS.out.b.size (fun k hk => by cases hk; exact HIK.out)⟩
      have HR := Lib.hid hr; have HK := Lib.hid hk; have HN2 := Lib.hid ((HN.out.grownBlk HO.out hg (Nat.le_refl _)).mono hg.size)
      clear hr hk hg
      go_wp2_with fail
      go_roundw
      case rel => exact ⟨HS2.out, .inr (.inr ⟨A, n, c, A', n', c', by go_num, HK.out, HN2.out, HR.out⟩)⟩
      case measure => simp [intOf]
    · have HO := Lib.hid ho; have HN := Lib.hid hn; have HM := Lib.hid hm
      clear ho hn hm
      have q0 : wa.cell? ⟨io, 0, none⟩ = some (.slice A n c) := HO.out.cell 0
      have q1 : wa.cell? ⟨io, 1, none⟩ = some (.slice A' n' c') := HO.out.cell 1
      have s0 : wa.cell? ⟨w.heap.size, 0, none⟩ = some (.slice none 0 0) := HS.out.res.cell 0
      have s1 : wa.cell? ⟨w.heap.size, 1, none⟩ = some (.slice none 0 0) := HS.out.res.cell 1
      have f0 := HS.out.res.froz 0
      have f1 := HS.out.res.froz 1
      go_wp2_with fail
      have hk5 := (HS.out.res.set 0 (.slice A n c)).set 1 (.slice A' n' c')
      have hk4 := HS.out.res.set 0 (.slice A n c)
      have hb5 : Below w.heap.size w ((wa.setCell ⟨w.heap.size, 0, none⟩ (.slice A n c)).setCell ⟨w.heap.size, 1, none⟩ (.slice A' n' c')) := ((HS.out.b.setCell (p := ⟨w.heap.size, 0, none⟩) (Nat.le_refl _) _).setCell (p := ⟨w.heap.size, 1, none⟩) (Nat.le_refl _) _)
      have hn5 : NumR ((wa.setCell ⟨w.heap.size, 0, none⟩ (.slice A n c)).setCell ⟨w.heap.size, 1, none⟩ (.slice A' n' c')) ((wa.setCell ⟨w.heap.size, 0, none⟩ (.slice A n c)).setCell ⟨w.heap.size, 1, none⟩ (.slice A' n' c')).heap.size A n c 1 := by
        rw [size_setCell, size_setCell]; exact num_set (num_set HN.out s0) (hk4.cell 1)
      have hm5 : NumR ((wa.setCell ⟨w.heap.size, 0, none⟩ (.slice A n c)).setCell ⟨w.heap.size, 1, none⟩ (.slice A' n' c')) ((wa.setCell ⟨w.heap.size, 0, none⟩ (.slice A n c)).setCell ⟨w.heap.size, 1, none⟩ (.slice A' n' c')).heap.size A' n' c' 2 := by
        rw [size_setCell, size_setCell]; exact num_set (num_set HM.out s0) (hk4.cell 1)
      generalize (wa.setCell ⟨w.heap.size, 0, none⟩ (.slice A n c)).setCell ⟨w.heap.size, 1, none⟩ (.slice A' n' c') = wf at hk5 hb5 hn5 hm5 ⊢
      have e0 : wf.cell? ⟨w.heap.size, 0, none⟩ = some (.slice A n c) := hk5.cell 0
      have e1 : wf.cell? ⟨w.heap.size, 1, none⟩ = some (.slice A' n' c') := hk5.cell 1
      refine bodyPost_ret (v := .tuple #[.agg #[.slice A n c, .slice A' n' c'], .int .i64 0]) (by simp [results, Try.results34, go_sem, e0, e1]) rfl ?_
      exact ⟨⟨A, n, c, 1, A', n', c', 2⟩, rfl, ⟨hn5, hm5, by show 0 < 2; decide⟩, rfl, rfl, hb5⟩
#print axioms red_1
#print axioms red_2
#print axioms reduced_36
end Go.Proofs.Ytncjmndiafgaaaa
