/- The contract of tick where the disk crashes. Conditions: as each statement says. -/
import Derived.Test.YtdgmjedkhjeadaaGreatSto6
import Derived.Test.YtdgmjedkhjeadaaGreatTail
import Derived.Maps.AppendAt
namespace Go.Proofs.YtdgmjedkhjeadaaGreat
open Go.RowKit
set_option linter.unusedVariables false
/-- The keys that were collected, and those that are still to come. -/
structure ColS (w0 : World) (g r bm : Nat) (l : List Int) (f : Int → Option Value) (ss rest : List Int) (w : World) : Prop where
  own : w.ownsRow w0.heap.size 3 1 (.slice (some ⟨g, 0, none⟩) ss.length l.length) ss.length (ss.map (Value.int .i64))
  rng : RngI w bm r l rest f
  perm : (ss ++ rest).Perm l
  low : Below w0.heap.size w0 w
theorem frK_len : ∀ (cs : List (Option Sec)) (o : Nat), (frK cs o).length ≤ cs.length
  | [], o => by simp [frK]
  | none :: cs, o => by rw [frK]; have := frK_len cs (o + 1); simp; omega
  | some s :: cs, o => by rw [frK]; have := frK_len cs (o + 1); simp; omega
section
variable {w : World} {D : Nat} {d : Dk} {bs bm cp : Nat} {p : Option Addr}
theorem DkAt.keys (h : DkAt w D d bs bm cp p) {l : List Int} (hm : MapL intK w bm l (cchF d)) (x : Int) : x ∈ l ↔ ∃ i ∈ frK d.cch 0, x = (i : Int) := by
  have hn := h.ok.n256
  have hl := h.ok.len
  constructor
  · intro hx
    have h1 := (hm.dom (hm.ok x hx)).2 hx
    unfold cchF at h1
    split at h1
    · rename_i hr
      refine ⟨x.toNat, (frK_mem _ _ _).2 ⟨by omega, by omega, ?_⟩, by omega⟩
      rw [Nat.sub_zero]
      simpa using h1
    · cases h1
  · rintro ⟨i, hi, rfl⟩
    obtain ⟨_, h2, h3⟩ := (frK_mem _ _ _).1 hi
    refine (hm.dom ⟨by omega, by omega⟩).1 ?_
    unfold cchF
    rw [if_pos ⟨by omega, by omega⟩]
    rw [Nat.sub_zero] at h3
    simpa using h3
theorem DkAt.sorted (h : DkAt w D d bs bm cp p) {l : List Int} (hm : MapL intK w bm l (cchF d)) : l.mergeSort (fun x y => decide (x ≤ y)) = (frK d.cch 0).map (fun i : Nat => (i : Int)) := frK_perm hm.nodup (h.keys hm)
theorem DkAt.keyLen (h : DkAt w D d bs bm cp p) {l : List Int} (hm : MapL intK w bm l (cchF d)) : l.length = (frK d.cch 0).length ∧ l.length ≤ 256 := by
  have h1 := congrArg List.length (h.sorted hm)
  rw [List.length_mergeSort, List.length_map] at h1
  have h2 := frK_len d.cch 0
  have := h.ok.n256; have := h.ok.len
  exact ⟨h1, by omega⟩
theorem bgrown {w w' : World} (hg : w.grownBy w' none) : Below w.heap.size w w' := (Below.refl _ _).grown hg (Nat.le_refl _) (fun j hj => by cases hj)
theorem rangeLeft_of {w w' : World} {b r : Nat} (h1 : w'.heap[b]? = w.heap[b]?) (h2 : w'.heap[r]? = w.heap[r]?) : w'.rangeLeft b r = w.rangeLeft b r := by simp only [World.rangeLeft, h1, h2]
/-- While the fresh sectors are gone through: the first j are done. -/
structure CrS (w0 : World) (D bs bm cp bp : Nat) (kv : Value) (d : Dk) (k : List Nat) (cap j : Nat) (ds : List Sec) (w : World) : Prop where
  blk : Bk w D #[.slice (some ⟨bs, 0, none⟩) d.dur.length cp, .map (some bm), .pointer (some ⟨bp, 0, none⟩), .bool d.down, .int .i64 d.age] 96
  dur : ∃ sp, Bk w bs (durC ds ++ sp).toArray 101
  cch : ∃ l, MapL intK w bm l (fun x => if x ∈ ((frK d.cch 0).drop j).map (fun i : Nat => (i : Int)) then cchF d x else none)
  pl : Bk w bp #[.int .i64 0, kv] 103
  kp : KpV w kv k
  own : w.ownsRow w0.heap.size 3 1 (.slice (some ⟨w0.heap.size, 0, none⟩) (frK d.cch 0).length cap) (frK d.cch 0).length (((frK d.cch 0).map (fun i : Nat => (i : Int))).map (Value.int .i64))
  keep : KeepL (fpL D bs bm (some ⟨bp, 0, none⟩)) w0 w
  len : ds.length = d.dur.length
  ok : ∀ s ∈ ds, SecOK s
  eq : crashD d.cch k ((frK d.cch 0).drop j) j ds = keepS d.dur d.cch k
theorem cutS_len (cs : List (Option Sec)) (ks : List Nat) (i j : Nat) (ds : List Sec) : (cutS cs ks i j ds).length = ds.length := by unfold cutS; split <;> simp
theorem cutS_ok {cs : List (Option Sec)} {ks : List Nat} {i j : Nat} {ds : List Sec} (h : ∀ s ∈ ds, SecOK s) (hi : i < ds.length) (s : Sec) (hs : cs.getD i none = some s) (hso : SecOK s) : ∀ s ∈ cutS cs ks i j ds, SecOK s := by
  have hd : SecOK (ds.getD i []) := h _ (by rw [List.getD_eq_getElem?_getD, List.getElem?_eq_getElem hi]; exact List.getElem_mem hi)
  intro x hx
  unfold cutS at hx
  split at hx
  · rcases List.mem_or_eq_of_mem_set hx with hx | hx
    · exact h x hx
    · rw [hs, Option.getD_some] at hx
      subst hx
      refine ⟨by rw [List.length_append, List.length_take, List.length_drop, hso.1, hd.1]; omega, fun y hy => ?_⟩
      rcases List.mem_append.1 hy with hy | hy
      · exact hso.2 y (List.mem_of_mem_take hy)
      · exact hd.2 y (List.mem_of_mem_drop hy)
  · exact h x hx
theorem CrS.next {w0 : World} {D bs bm cp bp : Nat} {kv : Value} {d : Dk} {k : List Nat} {cap j : Nat} {ds : List Sec} {w w1 : World} (h : CrS w0 D bs bm cp bp kv d k cap j ds w) {i : Nat} {s : Sec}
    (hdr : (frK d.cch 0).drop j = i :: (frK d.cch 0).drop (j + 1)) (hin : i < d.dur.length) (hn : d.dur.length ≤ 256) (hs : d.cch.getD i none = some s) (hso : SecOK s) (hlt : bs < w0.heap.size ∧ bm < w0.heap.size)
    (hk : KeepL [bs] w w1) (hd : ∃ sp, Bk w1 bs (durC (cutS d.cch k i j ds) ++ sp).toArray 101) (ty : TypeId) :
    ∃ w2, (Builtin.delete_ #[93, 3] ty #[.map (some bm), .int .i64 (i : Int)]).run Tryz.prog w1 = .ok (.tuple #[]) w2 ∧ CrS w0 D bs bm cp bp kv d k cap (j + 1) (cutS d.cch k i j ds) w2 := by
  obtain ⟨l, hl⟩ := h.cch
  obtain ⟨sp, hsp⟩ := h.dur
  obtain ⟨sp', hsp'⟩ := hd
  have hbm : bm ≠ bs := fun e => (hsp.nemap hl) e.symm
  have hl1 := hl.keep (hk.block _ hl.lt (by simpa using hbm))
  obtain ⟨w2, hrun, hm2, hg2⟩ := hl1.del Tryz.underlying93 (x := (i : Int)) (show intK.ok _ from ⟨by omega, by omega⟩) ty
  have hk2 : KeepL [bm] w1 w2 := KeepL.grown hg2 (fun q e _ => by injection e with e; simp [e])
  have hk3 : KeepL [bs, bm] w w2 := (hk.sub (by simp)).trans (hk2.sub (by simp))
  have hnd : (frK d.cch 0).Nodup := (frK_sorted d.cch 0).imp (fun h => Nat.ne_of_lt h)
  have hnd2 := List.Nodup.sublist (List.drop_sublist j _) hnd
  rw [hdr, List.nodup_cons] at hnd2
  refine ⟨w2, hrun, ⟨h.blk.keepL hk3 ?_, ⟨sp', hsp'.keepL hk2 (by simpa using fun e => hbm e.symm)⟩, ⟨_, hm2.same fun x hx => ?_⟩, h.pl.keepL hk3 ?_, ?_, ownsRow_keepL h.own hk3 (by simp only [List.mem_cons, List.not_mem_nil, or_false]; rintro q (rfl | rfl); exact hlt.1; exact hlt.2), h.keep.trans (hk3.sub (by simp [fpL])), by rw [cutS_len, h.len], cutS_ok h.ok (by rw [h.len]; exact hin) s hs hso, ?_⟩⟩
  · simp only [List.mem_cons, List.not_mem_nil, or_false, not_or]
    exact ⟨h.blk.ne hsp (by decide), h.blk.nemap hl⟩
  · rw [hdr]
    by_cases hx2 : x = (i : Int)
    · subst hx2
      rw [if_pos rfl, if_neg]
      rw [List.mem_map]
      rintro ⟨q, hq, e⟩
      have : q = i := by exact_mod_cast e
      subst this
      exact hnd2.1 hq
    · rw [if_neg hx2, List.map_cons]
      by_cases hx3 : x ∈ ((frK d.cch 0).drop (j + 1)).map (fun i : Nat => (i : Int))
      · rw [if_pos (List.mem_cons_of_mem _ hx3), if_pos hx3]
      · rw [if_neg (fun e => (List.mem_cons.1 e).elim hx2 hx3), if_neg hx3]
  · simp only [List.mem_cons, List.not_mem_nil, or_false, not_or]
    exact ⟨h.pl.ne hsp (by decide), h.pl.nemap hl⟩
  · obtain ⟨A, c, e1, e2⟩ := h.kp
    refine ⟨A, c, e1, fun hne => ?_⟩
    obtain ⟨g, C, g1, g2, g3⟩ := e2 hne
    refine ⟨g, C, g1, g2.keepL hk3 ?_, g3⟩
    simp only [List.mem_cons, List.not_mem_nil, or_false, not_or]
    exact ⟨g2.ne hsp (by decide), g2.nemap hl⟩
  · have := h.eq
    rw [hdr, crashD] at this
    exact this
set_option maxRecDepth 100000 in
set_option maxHeartbeats 1000000 in
theorem tick_crash (h : DkAt w D d bs bm cp p) (k : List Nat) (hp : d.plan = some (0, k)) (ha : 0 ≤ d.age ∧ d.age < 4611686018427387904) : Calls Tryz.prog 48 #[.pointer (some ⟨D, 0, none⟩)] w (TickP D bs bm cp p d w) := by
  have hq := h.plan
  rw [hp] at hq
  obtain ⟨bp, kv, rfl, hb, hkv⟩ := hq
  have HT : Hid (d.tick = (true, d.crash k)) := Lib.hid (by unfold Dk.tick; rw [hp])
  obtain ⟨l, hm⟩ := h.cch
  have H := Lib.hid h
  obtain ⟨A, ck, rfl, hkk⟩ := id hkv
  have HB := Lib.hid hb; have HKV := Lib.hid hkv
  have HLW : Hid (bs < w.heap.size ∧ bm < w.heap.size) := Lib.hid ⟨by obtain ⟨sp, hsp⟩ := h.dur; exact hsp.lt, hm.lt⟩
  have HM := Lib.hid hm
  have hlen : ∀ ty, (Builtin.len_ #[93] ty #[.map (some bm)]).run Tryz.prog w = .ok (.int .i64 l.length) w := fun ty => hm.len Tryz.underlying93 ty
  have hl := (h.keyLen hm).2
  have HSRT := Lib.hid (h.sorted hm)
  have c1 := h.c1
  have c2 := h.c2
  have b0 : w.cell? ⟨bp, 0, none⟩ = some (.int .i64 0) := by rw [hb.cell]; rfl
  have q1 : ∀ w, (binOp BinOp.eql 94 (.pointer (some ⟨bp, 0, none⟩)) (.pointer none)).run Tryz.prog w = .ok (.bool false) w := fun w => by kernel_rfl
  obtain ⟨ii, hi1, hi2, hi3, hi4⟩ := info_parts (P := Tryz.prog) (e := 3) (z := .int .i64 0) (size := 1) (bytes := 8) (by kernel_rfl)
  have HI := Lib.hid (And.intro hi1 (And.intro hi2 (And.intro hi3 hi4)))
  clear h hb hkv hkk hm hi1 hi2 hi3 hi4
  have HLL := Lib.hid hl
  go_enter Tryz.func48, Tryz.ntmps48
  go_wp2_with (first
    | (refine wpList_make_own w rfl _ _ 32 rfl w.heap.size 3 ii (.int .i64 0) 1 Tryz.underlying32 HI.out.1 HI.out.2.1 HI.out.2.2.1 .i64 .i64 _ l.length rfl rfl rfl (by rw [HI.out.2.2.2]; have := HLL.out; omega) (by have := HLL.out; unfold maxLen; omega) (Nat.le_refl _) ?_
       intro w1 hown1 hg1
       have c1 := (H.out.far (bgrown hg1)).c1)
    | (at_range
       refine wpList_rangeI _ rfl _ _ _ rfl Tryz.underlying93 bm l _ rfl (HM.out.keep ((bgrown hg1).block _ HM.out.lt)) ?_
       intro w2 hr2 hg2 hs2))
  try simp only [Act.put, List.setIfInBounds_toArray, List.set_cons_zero, List.set_cons_succ]
  have hr := hr2.lt
  have HC : Hid (ColS w w.heap.size w1.heap.size bm l (cchF d) [] l w2) := Lib.hid
    ⟨ownsRow_grown hown1 hg2 (fun k _ e => by cases e), hr2, List.Perm.refl _, bnextK (bgrown hg1) (bgrown hg2)⟩
  have HR : Hid (w.heap.size < w1.heap.size ∧ bm < w.heap.size) := Lib.hid ⟨by
    rcases hown1.2 with ⟨e, _⟩ | ⟨g, cap, cur, e, _, hgb, _⟩
    · cases e
    · injection e with e; injection e with e; injection e with e; subst e; exact (Array.getElem?_eq_some_iff.1 hgb).1, HM.out.lt⟩
  clear hown1 hg1 hg2 hr2 hs2 hr c1
  generalize w1.heap.size = r at *
  go_loopw [3, 4] (fun v3 _ wr => ∃ ss rest, v3 = .slice (some ⟨w.heap.size, 0, none⟩) ss.length l.length ∧ ColS w w.heap.size r bm l (cchF d) ss rest wr) (fun _ _ wr => wr.rangeLeft bm r)
  case atStart => exact ⟨[], l, rfl, HC.out⟩
  case round =>
    obtain ⟨ss, rest, rfl, hc⟩ := hrel
    obtain ⟨wa, rfl⟩ : ∃ z : World, z = wr := ⟨_, rfl⟩
    replace HC := Lib.hid hc
    clear hc
    go_wp2_with (at_next; refine wpList_nextI _ rfl _ rfl bm r l rest _ rfl HC.out.rng ?_ ?_)
    · intro hrest
      subst hrest
      have hp1 := HC.out.perm
      rw [List.append_nil] at hp1
      have HPE := Lib.hid hp1
      have hlen1 : ss.length ≤ 256 := by rw [hp1.length_eq]; exact HLL.out
      have HL1 := Lib.hid hlen1
      clear hp1
      go_wp2_with fail
      refine (SortI_own _ ss.length w.heap.size ss wa (by have := HL1.out; omega) HC.out.own).mono ?_
      rintro e w5 ⟨rfl, hown5, hg5⟩
      have hnd : ss.Nodup := HPE.out.nodup_iff.2 HM.out.nodup
      have hsrt := frK_perm hnd (fun x => (HPE.out.mem_iff).trans (H.out.keys HM.out x))
      have hsl : ss.length = (frK d.cch 0).length := HPE.out.length_eq.trans (H.out.keyLen HM.out).1
      have hb5 : Below w.heap.size w w5 := HC.out.low.grown hg5 HC.out.low.size (fun q hq => by injection hq with hq; exact Nat.le_of_eq hq)
      rw [hsrt, hsl] at hown5
      have h5 := H.out.far hb5
      have HS : Hid (CrS w D bs bm cp bp (.slice A k.length ck) d k l.length 0 d.dur w5) := Lib.hid
        ⟨h5.blk, h5.dur, ⟨l, (HM.out.keep (hb5.block _ HM.out.lt)).same (fun x hx => by
          by_cases hxl : x ∈ l
          · obtain ⟨i, hi, rfl⟩ := (H.out.keys HM.out x).1 hxl
            rw [if_pos (by rw [List.drop_zero]; exact List.mem_map.2 ⟨i, hi, rfl⟩)]
          · rw [if_neg (by rw [List.drop_zero, List.mem_map]; rintro ⟨i, hi, rfl⟩; exact hxl ((H.out.keys HM.out _).2 ⟨i, hi, rfl⟩))]
            cases hc : cchF d x with
            | none => rfl
            | some u => exact absurd ((HM.out.dom hx).1 (by rw [hc]; rfl)) hxl)⟩, HB.out.past hb5 HB.out.lt, HKV.out.far hb5, hown5, KeepL.of_below hb5, rfl, H.out.ok.dur, crashD_all k d.cch d.dur H.out.ok.len⟩
      have HML : Hid ((frK d.cch 0).length ≤ 256) := Lib.hid (by have := HL1.out; omega)
      rw [hsl]
      clear hnd hsrt hsl hb5 hown5 hg5 h5 HC HPE HL1
      go_wp2_with fail
      go_loopw [5, 6, 7, 54] (fun _ _ _ v54 wr => ∃ j ds, j ≤ (frK d.cch 0).length ∧ v54 = .int .i64 (j : Nat) ∧ CrS w D bs bm cp bp (.slice A k.length ck) d k l.length j ds wr) (fun _ _ _ v54 _ => (frK d.cch 0).length - (intOf v54).toNat)
      case atStart => exact ⟨0, _, Nat.zero_le _, rfl, HS.out⟩
      case round =>
        obtain ⟨j, ds, hj, rfl, hs⟩ := hrel
        obtain ⟨wb, rfl⟩ : ∃ z : World, z = wr := ⟨_, rfl⟩
        replace HS := Lib.hid hs
        clear hs
        by_cases hlt : j < (frK d.cch 0).length
        · have hji : (j : Int) < ((frK d.cch 0).length : Int) := by omega
          obtain ⟨i, hi⟩ : ∃ i, (frK d.cch 0)[j]? = some i := ⟨_, List.getElem?_eq_getElem hlt⟩
          have hdr : (frK d.cch 0).drop j = i :: (frK d.cch 0).drop (j + 1) := by rw [List.drop_eq_getElem_cons hlt]; congr 1; exact (List.getElem?_eq_some_iff.1 hi).2
          obtain ⟨_, hin, his⟩ := (frK_mem _ _ _).1 (List.mem_of_getElem? hi)
          rw [Nat.zero_add, H.out.ok.len] at hin
          rw [Nat.sub_zero] at his
          obtain ⟨s, hs⟩ := Option.isSome_iff_exists.1 his
          have hsok : SecOK s := H.out.ok.cch s (by
            rw [List.getD_eq_getElem?_getD] at hs
            cases hc : d.cch[i]? with
            | none => rw [hc] at hs; cases hs
            | some u => rw [hc] at hs; simp only [Option.getD_some] at hs; subst hs; exact List.mem_of_getElem? hc)
          obtain ⟨b, off, hA, hbl, hcell⟩ := (Rd.own HS.out.own).2 (by omega)
          injection hA with hA
          injection hA with hA1 hA2
          subst hA1; subst hA2
          have cf := hcell j (.int .i64 (i : Int)) (by simp [hi])
          rw [Nat.zero_add] at cf
          have d0 := HS.out.blk.cell 0; have d1 := HS.out.blk.cell 1; have d2 := HS.out.blk.cell 2; have p1 := HS.out.pl.cell 1
          simp only [List.getElem?_toArray, List.getElem?_cons_succ, List.getElem?_cons_zero] at d0 d1 d2 p1
          have hii : 0 ≤ (i : Int) ∧ (i : Int) < (d.dur.length : Int) := by omega
          have HDR := Lib.hid hdr; have HSOK := Lib.hid hsok; have HSS := Lib.hid hs; have HIN := Lib.hid hin
          clear hdr hi his hs hsok hin hcell hbl hj
          have hml := HML.out
          by_cases hjk : j < k.length
          · have hjki : (j : Int) < (k.length : Int) := by omega
            obtain ⟨A', c', e1, e2⟩ := HS.out.kp
            injection e1 with q1 q2 q3
            subst q1
            obtain ⟨hh, C, rfl, hC1, hC2⟩ := e2 (fun e => by rw [e] at hjk; simp at hjk)
            have kc : wb.cell? ⟨hh, j, none⟩ = some (.int .i64 (k.getD j 0 : Nat)) := by rw [hC1.cell]; exact hC2 j hjk
            have hk64 : k.getD j 0 ≤ 64 := (H.out.ok.keep _ _ hp).2.1 _ (by rw [List.getD_eq_getElem?_getD, List.getElem?_eq_getElem hjk]; exact List.getElem_mem hjk)
            obtain ⟨kj, hkj⟩ : ∃ kj, kj = k.getD j 0 := ⟨_, rfl⟩
            have HKJ := Lib.hid hkj
            rw [← hkj] at kc hk64
            obtain ⟨l3, hl3⟩ := HS.out.cch
            have hl := hl3.at'.look Tryz.underlying93 zero_sec (x := (i : Int)) (show intK.ok _ from ⟨by omega, by have := HIN.out; have := H.out.ok.n256; omega⟩)
            rw [if_pos (by rw [HDR.out]; exact List.mem_cons_self ..), show cchF d (i : Int) = some (secV s) by unfold cchF; rw [if_pos (by have := HIN.out; omega), Int.toNat_natCast, HSS.out]; rfl, Option.getD_some] at hl
            replace hl : (Instr.lookup 93 (.map (some bm)) (.int .i64 (i : Int)) false).run Tryz.prog wb = .ok (.agg (secC s).toArray) wb := hl
            have hsz : (secC s).length = 64 := by rw [secC_length, HSOK.out.1]
            have HC1 := Lib.hid hC1
            clear hkj l3 hl3 e2 hC1 hC2 q2 q3
            go_wp2_with fail
            rw [store_new _ _ _ HSOK.out.1]
            obtain ⟨w6, hw6⟩ : ∃ z, z = wb.alloc (.cells (secC s).toArray 101) := ⟨_, rfl⟩
            have HB6 : Hid (Bk w6 wb.heap.size (secC s).toArray 101 ∧ Below wb.heap.size wb w6) := Lib.hid ⟨by rw [hw6]; exact Bk.new _ _ _, by rw [hw6]; exact balloc _ _⟩
            rw [← hw6]
            clear hw6 hl
            have hb6 := HB6.out.2
            have c0 := (HS.out.blk.past hb6 HS.out.blk.lt).cell 0; have c1' := (HS.out.blk.past hb6 HS.out.blk.lt).cell 1; have c2' := (HS.out.blk.past hb6 HS.out.blk.lt).cell 2
            have p1' := (HS.out.pl.past hb6 HS.out.pl.lt).cell 1
            simp only [List.getElem?_toArray, List.getElem?_cons_succ, List.getElem?_cons_zero] at c0 c1' c2' p1'
            have kc' : w6.cell? ⟨hh, j, none⟩ = some (.int .i64 (kj : Int)) := by rw [(HC1.out.past hb6 HC1.out.lt).cell, ← HC1.out.cell]; exact kc
            have hk64i : (kj : Int) ≤ 64 := by omega
            clear hb6 d0 d1 d2 p1 kc cf
            go_upto_region 17 with fail
            refine wp_region_quiet_tail 18 (by kernel_rfl) (by kernel_rfl) ?_
            simp only [List.take_succ_cons, List.take_zero, List.drop_succ_cons, List.drop_zero]
            repeat (quiet_step (fail))
            refine wpQuiet_nil ?_
            intro _ hw'
            obtain ⟨nr, hw''⟩ := hw'
            subst hw''
            obtain ⟨sp, hsp⟩ := HS.out.dur
            have hq7 : Below wb.heap.size wb (w6.drewN nr) := bnextK HB6.out.2 (Qw.below ⟨nr, rfl⟩ _)
            have hsp7 := hsp.past hq7 hsp.lt
            have hnew7 : Bk (w6.drewN nr) wb.heap.size (secC s).toArray 101 := HB6.out.1.past (Qw.below (⟨nr, rfl⟩ : Qw w6 (w6.drewN nr)) w6.heap.size) HB6.out.1.lt
            have hids : i < ds.length := by rw [HS.out.len]; exact HIN.out
            have hct : ((secC s).take kj).length = kj := by rw [List.length_take, hsz]; omega
            have hcut : cutS d.cch k i j ds = ds.set i (s.take kj ++ (ds.getD i []).drop kj) := by unfold cutS; rw [if_pos hjk, HSS.out, Option.getD_some, ← HKJ.out]
            have HQ7 := Lib.hid hq7; have HSP7 := Lib.hid hsp7; have HNEW7 := Lib.hid hnew7; have HIDS := Lib.hid hids; have HCT := Lib.hid hct; have HCUT := Lib.hid hcut; have HK64 := Lib.hid hk64; have HSZ := Lib.hid hsz
            clear hq7 hsp7 hnew7 hsp hids hct hcut c0 c1' c2' p1' kc' HKV HB
            generalize w6.drewN nr = w7 at HQ7 HSP7 HNEW7 ⊢
            refine wpList_copy_own rfl _ _ _ _ rfl 5 Tryz.underlying31 (by kernel_rfl) bs (i * 64) kj 64 ⟨wb.heap.size, 0, none⟩ 64 64 ?_ ?_ (durC ds ++ sp).toArray 101 HSP7.out ((secC s).take kj) (by rw [HCT.out]; exact (Nat.min_eq_right HK64.out).symm) (fun q v hv => ?_) ?_ (fun v hv => secC_one s v (List.mem_of_mem_take hv)) ?_
            · simp [Act.eval]
            · simp [Act.eval]
            · rw [Addr.add_mid, Nat.zero_add, HNEW7.out.cell]
              rw [List.getElem?_take] at hv
              split at hv
              · simpa using hv
              · cases hv
            · rw [HCT.out]
              have e1 := durC_length ds HS.out.ok
              have e2 := HIDS.out; have e3 := HK64.out
              simp only [List.size_toArray, List.length_append, e1]
              omega
            · rw [show ((durC ds ++ sp).toArray.toList.take (i * 64) ++ ((secC s).take kj ++ (durC ds ++ sp).toArray.toList.drop (i * 64 + ((secC s).take kj).length))).toArray = (durC (cutS d.cch k i j ds) ++ sp).toArray by rw [HCUT.out, ← durC_splice HS.out.ok HIDS.out sp s kj HK64.out HSOK.out.1]; rfl]
              obtain ⟨w8, hw8⟩ : ∃ z, z = w7.setRow bs (durC (cutS d.cch k i j ds) ++ sp).toArray := ⟨_, rfl⟩
              have hk8 : KeepL [bs] wb w8 := by rw [hw8]; exact (KeepL.of_below HQ7.out).trans (keepL_put _ _ _)
              have hb8 : Bk w8 bs (durC (cutS d.cch k i j ds) ++ sp).toArray 101 := by rw [hw8]; exact HSP7.out.put _
              rw [← hw8]
              obtain ⟨w9, hrun, hs9⟩ := HS.out.next HDR.out HIN.out H.out.ok.n256 HSS.out HSOK.out HLW.out hk8 ⟨sp, hb8⟩ 0
              have d1 : w8.cell? ⟨D, 1, none⟩ = some (.map (some bm)) := by
                rw [(HS.out.blk.keepL hk8 (by obtain ⟨sp2, h2⟩ := HS.out.dur; simp only [List.mem_singleton]; exact HS.out.blk.ne h2 (by decide))).cell]; rfl
              have HS9 := Lib.hid hs9
              clear hw8 hk8 hb8 hs9
              go_wp2_with fail
              go_roundw
              case rel => exact ⟨j + 1, _, by omega, by go_num, HS9.out⟩
              case measure => simp [intOf]; omega
          · have hjki : ¬ (j : Int) < (k.length : Int) := by omega
            have hcut : cutS d.cch k i j ds = ds := by unfold cutS; rw [if_neg hjk]
            obtain ⟨w2, hrun, hs2⟩ := HS.out.next HDR.out HIN.out H.out.ok.n256 HSS.out HSOK.out HLW.out (KeepL.refl _ _) (by rw [hcut]; exact HS.out.dur) 0
            rw [hcut] at hs2
            have HS2 := Lib.hid hs2
            clear hs2 hcut
            go_wp2_with fail
            go_roundw
            case rel => exact ⟨j + 1, ds, by omega, by go_num, HS2.out⟩
            case measure => simp [intOf]; omega
        · have hji : ¬ (j : Int) < ((frK d.cch 0).length : Int) := by omega
          have hjm : j = (frK d.cch 0).length := by omega
          have heq : ds = keepS d.dur d.cch k := by have := HS.out.eq; rw [hjm, List.drop_length] at this; exact this
          have d2 := HS.out.blk.cell 2; have d3 := HS.out.blk.cell 3; have d4 := HS.out.blk.cell 4
          have e2 := HS.out.blk.froz 2; have e3 := HS.out.blk.froz 3; have e4 := HS.out.blk.froz 4
          simp only [List.getElem?_toArray, List.getElem?_cons_succ, List.getElem?_cons_zero] at d2 d3 d4
          have hwa : IntKind.i64.wrap (d.age + 1) = d.age + 1 := by simp [IntKind.wrap, IntKind.bits, IntKind.signed]; omega
          have HJM := Lib.hid hjm; have HEQ := Lib.hid heq
          clear hjm heq hj hlt
          go_wp2_with fail
          go_ret
          unfold TickP
          rw [HT.out]
          have hkW : KeepL [D] wb (((wb.setCell ⟨D, 2, none⟩ (.pointer none)).setCell ⟨D, 3, none⟩ (.bool true)).setCell ⟨D, 4, none⟩ (.int .i64 (d.age + 1))) := ((KeepL.set wb D 2 _).trans (KeepL.set _ D 3 _)).trans (KeepL.set _ D 4 _)
          obtain ⟨sp, hsp⟩ := HS.out.dur
          obtain ⟨l2, hl2⟩ := HS.out.cch
          refine ⟨rfl, ⟨none, ⟨H.out.ok.crash k, ?_, ⟨sp, ?_⟩, ⟨l2, ?_⟩, rfl⟩, .inr (.inl rfl)⟩, HS.out.keep.trans (hkW.fpD _ _ _)⟩
          · have := ((HS.out.blk.set 2 (.pointer none)).set 3 (.bool true)).set 4 (.int .i64 (d.age + 1))
            rw [show (d.crash k).dur.length = d.dur.length from keepS_length _ _ _]
            exact this
          · rw [HEQ.out] at hsp
            exact hsp.keepL hkW (by simp only [List.mem_singleton]; exact hsp.ne HS.out.blk (by decide))
          · refine (hl2.keep (hkW.block _ hl2.lt (by simp only [List.mem_singleton]; exact fun e => HS.out.blk.nemap hl2 e.symm))).same fun x hx => ?_
            rw [HJM.out, List.drop_length, List.map_nil, if_neg (by simp)]
            unfold cchF
            split
            · rw [show (d.crash k).cch = List.replicate d.cch.length none from rfl, List.getD_eq_getElem?_getD, List.getElem?_replicate]
              split <;> rfl
            · rfl
    · intro x v w3 hx hf hr3 hg3 hs3 hlt3 hen
      have hown3 := ownsRow_grown HC.out.own hg3 (fun q e1 e2 => by have := HR.out.1; injection e1 with e1; injection e2 with e2; rw [← e1] at e2; exact absurd e2 (Nat.ne_of_lt this))
      have HX := Lib.hid hx; have HO3 := Lib.hid hown3; have HG3 := Lib.hid hg3; have HR3 := Lib.hid hr3; have HLT3 := Lib.hid hlt3
      have hlen2 : ss.length + 1 ≤ l.length := by
        have h1 := HC.out.perm.length_eq
        rw [List.length_append] at h1
        have := List.length_pos_of_mem hx
        omega
      have HL2 := Lib.hid hlen2
      clear hx hown3 hg3 hr3 hlt3 hlen2 hf hs3
      go_wp2_with (at_builtin; refine wpList_append_fits _ rfl _ _ 32 rfl w.heap.size 3 ii 1 Tryz.underlying32 HI.out.1 HI.out.2.2.1 w.heap.size ss.length l.length (ss.map (Value.int .i64)) rfl (HO3.out.alloc _) ⟨w3.heap.size, 0, none⟩ 1 1 [.int .i64 x] rfl rfl (cell_one_new _ _ _) (ints_oneCell .i64 [x]) HL2.out ?_; intro w4 hown4 hg4)
      have e1 : ∀ q, q < w3.heap.size → q ≠ w.heap.size → w4.heap[q]? = w3.heap[q]? := fun q hq hne =>
        (hg4.block q (by rw [World.size_alloc]; omega) (fun e => hne (by injection e))).trans (KeepL.alloc [] w3 (.cells #[.int .i64 x] 3) |>.block q hq (by simp))
      have HE1 := Lib.hid e1; have HO4 := Lib.hid hown4; have HG4 := Lib.hid hg4
      clear e1 hown4 hg4 hen
      go_roundw
      case rel =>
        refine ⟨ss ++ [x], rest.erase x, by simp, ⟨by simpa using HO4.out, ?_, ?_, ?_⟩⟩
        · exact (HR3.out.kept (World.grownBy_alloc w3 (.cells #[.int .i64 x] 3) none) (by simp) (by simp)).kept HG4.out (fun e => by have := HR.out.2; injection e with e; omega) (fun e => by have := HR.out.1; injection e with e; omega)
        · rw [List.append_assoc]
          exact ((List.perm_cons_erase HX.out).symm.append_left ss).trans HC.out.perm
        · have b1 := HC.out.low.grown HG3.out HC.out.low.size (fun q hq => by injection hq with hq; have := HR.out.1; omega)
          have b2 := b1.alloc b1.size (.cells #[.int .i64 x] 3)
          exact b2.grown HG4.out b2.size (fun q hq => by injection hq with hq; omega)
      case measure =>
        have h1 := HR3.out.mapL.lt; have h2 := HR3.out.lt
        rw [rangeLeft_of (HE1.out bm h1 (Nat.ne_of_lt HR.out.2)) (HE1.out r h2 (Nat.ne_of_gt HR.out.1))]
        exact HLT3.out
end
end Go.Proofs.YtdgmjedkhjeadaaGreat
