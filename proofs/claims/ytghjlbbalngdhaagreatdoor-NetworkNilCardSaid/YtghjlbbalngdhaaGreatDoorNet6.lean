/- The contract of augment: the walk. Conditions: as each statement says. -/
import Derived.Test.YtghjlbbalngdhaaGreatDoorNet3
import Derived.Test.YtghjlbbalngdhaaGreatDoorTail
import Derived.Maps.Own
import Derived.Deep.CutRange
import Derived.Deep.CutBlock
namespace Go.Proofs.YtghjlbbalngdhaaGreatDoor
open Go.RowKit
set_option linter.unusedVariables false
/-- The rows next and prev of a search. -/
structure RowsOK (w : World) (hn hp n : Nat) (nx pv : List Int) : Prop where
  nl : nx.length = n ∧ pv.length = n
  n1 : IRow w hn nx
  p1 : IRow w hp pv
  val : ∀ i, pv.getD i 0 < (n : Int)
def AugP (g : PG) (s t hn hp : Nat) (nx pv : List Int) (w : World) (e : Ending) (w' : World) : Prop :=
  match augment g s t nx pv with
  | none => e = .returned (.bool false) ∧ IRow w' hn nx ∧ IRow w' hp pv ∧ KeepL [hn, hp] w w'
  | some r => e = .returned (.bool true) ∧ RowsOK w' hn hp g.n r.1 r.2 ∧ KeepL [hn, hp] w w'
set_option maxRecDepth 100000 in
set_option maxHeartbeats 1000000 in
theorem augment_any {w : World} {B G : Nat} {ns : List Nm} {g : PG} (h : GAt w B G ns g) (s t hn hp : Nat) (nx pv : List Int) (hs : s < g.n) (ht : t < g.n) (hst : s ≠ t) (hB : B ≤ hn ∧ B ≤ hp) (hne : hn ≠ hp) (hr : RowsOK w hn hp g.n nx pv) :
    Calls Tryz.prog 131 #[.pointer (some ⟨G, 0, none⟩), .int .i64 (s : Int), .int .i64 (t : Int), .slice (some ⟨hn, 0, none⟩) g.n g.n, .slice (some ⟨hp, 0, none⟩) g.n g.n] w (AugP g s t hn hp nx pv w) := by
  have hmm := @run_makeMap Tryz.prog
  have hmf : ∀ (fn : Fn) (first cap : Array Value) (w : World), (Instr.makeFunc fn first cap).run Tryz.prog w = .ok (.func fn first cap) w := fun _ _ _ _ => rfl
  obtain ⟨nA, nc, hnm, _⟩ := h.names
  have H := Lib.hid h; have HR := Lib.hid hr
  clear h hr
  go_enter Tryz.func131, Tryz.ntmps131
  go_wp2_with fail
  obtain ⟨W, hW⟩ : ∃ W, ((((w.alloc (.map #[] 0)).alloc (.cells #[.map (some w.heap.size)] 220)).alloc (.cells #[.int .i64 (s : Int), .bool true] 222)).alloc (.cells #[.slice (some ⟨w.heap.size + 1 + 1, 0, none⟩) 1 1] 223)).alloc (.map #[] 0) = W := ⟨_, rfl⟩
  have hsz : W.heap.size = w.heap.size + 5 := by rw [← hW]; simp
  have hbW : Below w.heap.size w W := by
    rw [← hW]
    exact (((((Below.refl _ _).alloc (Nat.le_refl _) _).alloc (by simp) _).alloc (by simp; omega) _).alloc (by simp; omega) _).alloc (by simp; omega) _
  have m1 : MapAt plK W w.heap.size 0 (fun _ => none) := by
    rw [← hW]
    have h0 := MapAt.made plK w
    have h1 : KeepL [] (w.alloc (.map #[] 0)) _ := (KeepL.alloc [] _ (.cells #[.map (some w.heap.size)] 220)).trans ((KeepL.alloc [] _ (.cells #[.int .i64 (s : Int), .bool true] 222)).trans ((KeepL.alloc [] _ (.cells #[.slice (some ⟨w.heap.size + 1 + 1, 0, none⟩) 1 1] 223)).trans (KeepL.alloc [] _ (.map #[] 0))))
    exact h0.keep (h1.block _ h0.lt (by simp))
  have b1 : Bk W (w.heap.size + 1) #[.map (some w.heap.size)] 220 := by
    rw [← hW]
    have h0 := Bk.new (w.alloc (.map #[] 0)) #[.map (some w.heap.size)] 220
    rw [World.size_alloc] at h0
    exact h0.keepL ((KeepL.alloc [] _ (.cells #[.int .i64 (s : Int), .bool true] 222)).trans ((KeepL.alloc [] _ (.cells #[.slice (some ⟨w.heap.size + 1 + 1, 0, none⟩) 1 1] 223)).trans (KeepL.alloc [] _ (.map #[] 0)))) (by simp)
  have q1 : QR W (w.heap.size + 1 + 1) (.slice (some ⟨w.heap.size + 1 + 1, 0, none⟩) 1 1) [(s, true)] := by
    rw [← hW]
    have h0 := QR.new ((w.alloc (.map #[] 0)).alloc (.cells #[.map (some w.heap.size)] 220)) (s, true) 222
    rw [World.size_alloc, World.size_alloc] at h0
    exact h0.keepL ((KeepL.alloc [] _ (.cells #[.slice (some ⟨w.heap.size + 1 + 1, 0, none⟩) 1 1] 223)).trans (KeepL.alloc [] _ (.map #[] 0))) (by simp)
  have b2 : Bk W (w.heap.size + 1 + 1 + 1) #[.slice (some ⟨w.heap.size + 1 + 1, 0, none⟩) 1 1] 223 := by
    rw [← hW]
    have h0 := Bk.new (((w.alloc (.map #[] 0)).alloc (.cells #[.map (some w.heap.size)] 220)).alloc (.cells #[.int .i64 (s : Int), .bool true] 222)) #[.slice (some ⟨w.heap.size + 1 + 1, 0, none⟩) 1 1] 223
    rw [World.size_alloc, World.size_alloc, World.size_alloc] at h0
    exact h0.keepL (KeepL.alloc [] _ (.map #[] 0)) (by simp)
  have m2 : MapAt plK W (w.heap.size + 1 + 1 + 1 + 1) 0 (fun _ => none) := by
    rw [← hW]
    have h0 := MapAt.made plK ((((w.alloc (.map #[] 0)).alloc (.cells #[.map (some w.heap.size)] 220)).alloc (.cells #[.int .i64 (s : Int), .bool true] 222)).alloc (.cells #[.slice (some ⟨w.heap.size + 1 + 1, 0, none⟩) 1 1] 223))
    rw [World.size_alloc, World.size_alloc, World.size_alloc, World.size_alloc] at h0
    exact h0
  rw [hW]
  clear hW
  have hn16 := H.out.nn.2.2
  obtain ⟨w1, hr1, hm1, hg1⟩ := m2.store Tryz.underlying224 (x := (s, true)) (by show s ≤ 1000000; omega) (.bool true) (by omega)
  have hr1 : (Instr.mapUpdate 224 (.map (some (w.heap.size + 1 + 1 + 1 + 1))) (.agg #[.int .i64 (s : Int), .bool true]) (.bool true)).run Tryz.prog W = .ok () w1 := hr1
  have hk1 : KeepL [w.heap.size + 1 + 1 + 1 + 1] W w1 := KeepL.grown hg1 (fun k e _ => by cases e; simp)
  have hseen : MapAt plK w1 (w.heap.size + 1 + 1 + 1 + 1) 1 (seenF s []) := hm1.same (fun y _ => by
    unfold seenF seenB
    by_cases hy : y = (s, true)
    · subst hy; simp
    · simp [hy])
  have hcame : MapAt plK w1 w.heap.size 0 (cameF []) := (m1.keep (hk1.block _ m1.lt (by simp; omega))).same (fun y _ => rfl)
  have B1 := b1.keepL hk1 (by simp); have B2 := b2.keepL hk1 (by simp); have Q1 := q1.keepL hk1 (by simp)
  have hb1 : Below w.heap.size w w1 := hbW.trans (hk1.below (by omega) (by simp; omega))
  have hsz1 : w.heap.size + 5 ≤ w1.heap.size := by have := hk1.size; omega
  have hbs : BfsAt (w1.alloc (.cells #[.map (some (w.heap.size + 1 + 1 + 1 + 1))] 224)) w1.heap.size (w.heap.size + 1) (w.heap.size + 1 + 1 + 1) (w.heap.size + 1 + 1 + 1 + 1) w.heap.size (w.heap.size + 1 + 1) (.slice (some ⟨w.heap.size + 1 + 1, 0, none⟩) 1 1) s ⟨[(s, true)], []⟩ :=
    ⟨Bk.new _ _ _, B1.keepL (KeepL.alloc [] _ _) (by simp), B2.keepL (KeepL.alloc [] _ _) (by simp), hseen.keep ((KeepL.alloc [] w1 _).block _ hseen.lt (by simp)), hcame.keep ((KeepL.alloc [] w1 _).block _ hcame.lt (by simp)), Q1.keepL (KeepL.alloc [] _ _) (by simp), by omega, by omega, by omega, by omega⟩
  have HBS := Lib.hid hbs
  have HBE : Hid (Below w.heap.size w (w1.alloc (.cells #[.map (some (w.heap.size + 1 + 1 + 1 + 1))] 224))) := Lib.hid (hb1.alloc (by omega) _)
  clear hsz hbW m1 b1 q1 b2 m2 hm1 hg1 hk1 hseen hcame B1 B2 Q1 hb1 hbs
  rw [hr1]
  go_wp2_with fail
  clear hr1 hmm
  obtain ⟨sb, hsb⟩ : ∃ z, z = w1.heap.size := ⟨_, rfl⟩
  obtain ⟨ms, hms⟩ : ∃ z, z = w.heap.size + 1 + 1 + 1 + 1 := ⟨_, rfl⟩
  obtain ⟨qb, hqb⟩ : ∃ z, z = w.heap.size + 1 + 1 + 1 := ⟨_, rfl⟩
  obtain ⟨gq0, hgq⟩ : ∃ z, z = w.heap.size + 1 + 1 := ⟨_, rfl⟩
  obtain ⟨cb, hcb⟩ : ∃ z, z = w.heap.size + 1 := ⟨_, rfl⟩
  obtain ⟨mc, hmc⟩ : ∃ z, z = w.heap.size := ⟨_, rfl⟩
  have hge : w.heap.size ≤ sb ∧ w.heap.size ≤ ms ∧ w.heap.size ≤ qb ∧ w.heap.size ≤ cb ∧ w.heap.size ≤ mc ∧ w.heap.size ≤ gq0 := by omega
  have hbs := HBS.out
  rw [← hms, ← hqb, ← hgq, ← hcb, ← hsb] at hbs
  have hbs2 : BfsAt (w1.alloc (.cells #[.map (some ms)] 224)) sb cb qb ms mc gq0 (.slice (some ⟨gq0, 0, none⟩) 1 1) s ⟨[(s, true)], []⟩ := by rw [hmc]; exact hbs
  have HBS2 := Lib.hid hbs2
  have HBE2 : Hid (Below w.heap.size w (w1.alloc (.cells #[.map (some ms)] 224))) := Lib.hid (by rw [hms]; exact HBE.out)
  rw [← hms, ← hqb, ← hgq, ← hcb, ← hsb, ← hmc]
  clear hbs hbs2 HBS HBE hsb hms hqb hgq hcb hmc hsz1
  generalize w1.alloc (.cells #[.map (some ms)] 224) = w2 at HBS2 HBE2 ⊢
  go_wp2_with fail
  have hin := HR.out.nl
  go_loopg [] (fuelB g.n) (fun gk wr => ∃ S gq qv, BfsAt wr sb cb qb ms mc gq qv s S ∧ BsOK g.n s S ∧ leftB g.n S < gk ∧ leftB g.n S ≤ 2 * g.n + 1 ∧ bfs g s t nx pv (fuelB g.n) ⟨[(s, true)], []⟩ = bfs g s t nx pv gk S ∧ w.heap.size ≤ gq ∧ Below w.heap.size w wr)
  case atStart => exact ⟨_, _, _, HBS2.out, BsOK.start _ _, by unfold leftB fuelB; simp; omega, by unfold leftB; simp; omega, rfl, hge.2.2.2.2.2, HBE2.out⟩
  case round =>
    obtain ⟨S, gq, qv, hb, hok, hleft, hleft2, hbfs, hgq, hbw⟩ := hrel
    obtain ⟨wa, rfl⟩ : ∃ z : World, z = wr := ⟨_, rfl⟩
    have HB := Lib.hid hb; have HOK := Lib.hid hok; have HBFS := Lib.hid hbfs; have HBW := Lib.hid hbw
    obtain ⟨g', rfl⟩ : ∃ g', gk = g' + 1 := ⟨gk - 1, by omega⟩
    have HRW : Hid (RowsOK wa hn hp g.n nx pv) := Lib.hid ⟨HR.out.nl, HR.out.n1.keepL (KeepL.of_below (L := []) hbw) (by simp), HR.out.p1.keepL (KeepL.of_below (L := []) hbw) (by simp), HR.out.val⟩
    have hwsz : w.heap.size ≤ wa.heap.size := hbw.size
    have c0 := hb.qx.cell 0
    simp only [List.getElem?_toArray, List.getElem?_cons_zero] at c0
    have hq := hb.q
    clear hb hok hbfs hbw HBS2 HBE2
    cases hqe : S.queue with
    | nil =>
      rw [hqe] at hq
      obtain ⟨off, cap, hv⟩ := hq.form
      subst hv
      have HA : Hid (augment g s t nx pv = none) := Lib.hid (by
        unfold augment
        rw [HBFS.out, bfs, hqe]; rfl)
      clear hq hqe
      go_wp2_with fail
      go_ret
      show AugP g s t hn hp nx pv w _ _
      unfold AugP
      rw [HA.out]
      exact ⟨rfl, HRW.out.n1, HRW.out.p1, .of_below HBW.out⟩
    | cons x q =>
      rw [hqe] at hq
      obtain ⟨off, cap, hv, hx0, hx1, qv', hsl, hq'⟩ := hq.head
      subst hv
      obtain ⟨x1, x2⟩ := x
      dsimp only at hx0 hx1
      have hxm : (x1, x2) = (s, true) ∨ (x1, x2) ∈ S.came.map (·.1) := HOK.out.que _ (by rw [hqe]; simp)
      have hxn : x1 < g.n := by
        rcases hxm with h | h
        · cases h; exact hs
        · obtain ⟨c, hc, he⟩ := List.mem_map.1 h
          have := (HOK.out.lt c hc).1
          rw [he] at this; exact this
      have hxs : x1 = s → x2 = true := by
        intro e
        rcases hxm with h | h
        · cases h; rfl
        · obtain ⟨c, hc, he⟩ := List.mem_map.1 h
          have := (HOK.out.lt c hc).2
          rw [he] at this; exact absurd e this
      have HXM := Lib.hid hxm; have HXS := Lib.hid hxs; have HQE := Lib.hid hqe
      obtain ⟨off', cap', hv'⟩ := hq'.form
      subst hv'
      have hne := HB.out.ne
      have hqlt : qb < wa.heap.size := HB.out.qx.lt
      have f2 := HB.out.qx.froz 0
      have hb2 : BfsAt ((wa.setCell ⟨qb, 0, none⟩ (.slice (some ⟨gq, off', none⟩) q.length cap')).alloc (.cells #[.int .i64 (x1 : Int), .bool x2] 222)) sb cb qb ms mc gq (.slice (some ⟨gq, off', none⟩) q.length cap') s ⟨q, S.came⟩ := by
        have hk := KeepL.set wa qb 0 (.slice (some ⟨gq, off', none⟩) q.length cap')
        have h1 : BfsAt (wa.setCell ⟨qb, 0, none⟩ (.slice (some ⟨gq, off', none⟩) q.length cap')) sb cb qb ms mc gq (.slice (some ⟨gq, off', none⟩) q.length cap') s ⟨q, S.came⟩ :=
          ⟨HB.out.sx.keepL hk (by simp; exact HB.out.sx.ne HB.out.qx (by decide)), HB.out.cx.keepL hk (by simp; exact HB.out.cx.ne HB.out.qx (by decide)), HB.out.qx.set 0 _, HB.out.seen.keep (hk.block _ HB.out.seen.lt (by simp; exact Ne.symm (HB.out.qx.nmap HB.out.seen))), HB.out.came.keep (hk.block _ HB.out.came.lt (by simp; exact Ne.symm (HB.out.qx.nmap HB.out.came))), hq'.keepL hk (by simp; exact hne.2.2.2), hne⟩
        exact h1.keepL (KeepL.alloc [] _ _) (by simp)
      have hbx2 : Bk ((wa.setCell ⟨qb, 0, none⟩ (.slice (some ⟨gq, off', none⟩) q.length cap')).alloc (.cells #[.int .i64 (x1 : Int), .bool x2] 222)) wa.heap.size #[.int .i64 (x1 : Int), .bool x2] 222 := by
        have := Bk.new (wa.setCell ⟨qb, 0, none⟩ (.slice (some ⟨gq, off', none⟩) q.length cap')) #[.int .i64 (x1 : Int), .bool x2] 222
        rwa [size_setCell] at this
      have hbw2 : Below w.heap.size w ((wa.setCell ⟨qb, 0, none⟩ (.slice (some ⟨gq, off', none⟩) q.length cap')).alloc (.cells #[.int .i64 (x1 : Int), .bool x2] 222)) := (HBW.out.setCell (p := ⟨qb, 0, none⟩) hge.2.2.1 _).alloc (by rw [size_setCell]; exact hwsz) _
      have d0 := hbx2.cell 0; have d1 := hbx2.cell 1
      have d2 := hb2.cx.cell 0
      simp only [List.getElem?_toArray, List.getElem?_cons_succ, List.getElem?_cons_zero] at d0 d1 d2
      have HRW2 : Hid (RowsOK ((wa.setCell ⟨qb, 0, none⟩ (.slice (some ⟨gq, off', none⟩) q.length cap')).alloc (.cells #[.int .i64 (x1 : Int), .bool x2] 222)) hn hp g.n nx pv) := Lib.hid ⟨HR.out.nl, HR.out.n1.keepL (KeepL.of_below (L := []) hbw2) (by simp), HR.out.p1.keepL (KeepL.of_below (L := []) hbw2) (by simp), HR.out.val⟩
      have HB2 := Lib.hid hb2; have HBX2 := Lib.hid hbx2; have HBW2 := Lib.hid hbw2
      clear hq hqe hxm hxs hq' hb2 hbx2 hbw2 hne
      by_cases hxt : x1 = t
      · subst hxt
        have g1 : ((x1 : Int) == (x1 : Int)) = true := by simp
        go_wp2_with fail
        have hkey : (x1, x2) ∈ S.came.map (·.1) := by
          rcases HXM.out with h | h
          · exact absurd (congrArg Prod.fst h).symm hst
          · exact h
        have hlen := HOK.out.len
        refine (apply_any (.pointer (some ⟨G, 0, none⟩)) mc S.came.length S.came s g.n hn hp (S.came.length + 1) nx pv (x1, x2) _ hne (by omega) (by omega) HRW.out.nl HB2.out.came (HRW2.out.n1) (HRW2.out.p1) (HOK.out.back_mem hs hkey)).mono ?_
        rintro e w9 ⟨r, hr, rfl, h1, h2, h3⟩
        have HA : Hid (augment g s x1 nx pv = some (applyW S.came s nx pv (x1, x2))) := Lib.hid (by
          unfold augment
          rw [HBFS.out, bfs, HQE.out]
          simp)
        have h4 : applyW S.came s nx pv (x1, x2) = addAll s (cutAll nx pv r.1).1 (cutAll nx pv r.1).2 r.2 := by rw [hr]; rfl
        rw [← h4] at h1 h2
        have H1 := Lib.hid h1; have H2 := Lib.hid h2; have H3 := Lib.hid h3
        clear hr h1 h2 h3 h4
        go_wp2_with fail
        go_ret
        show AugP g s x1 hn hp nx pv w _ _
        unfold AugP
        rw [HA.out]
        obtain ⟨hl5, hv5⟩ := applyW_ok (HOK.out.back_mem hs hkey) HR.out.nl HR.out.val
        exact ⟨rfl, ⟨hl5, H1.out, H2.out, hv5⟩, (KeepL.of_below HBW2.out).trans H3.out⟩
      · have g1 : ((x1 : Int) == (t : Int)) = false := by simp; omega
        go_upto_region 12 with fail
        have HSZ : Hid (wa.heap.size < ((wa.setCell ⟨qb, 0, none⟩ (.slice (some ⟨gq, off', none⟩) q.length cap')).alloc (.cells #[.int .i64 (x1 : Int), .bool x2] 222)).heap.size) := Lib.hid (by simp)
        have hwc : w.heap.size ≤ ((wa.setCell ⟨qb, 0, none⟩ (.slice (some ⟨gq, off', none⟩) q.length cap')).alloc (.cells #[.int .i64 (x1 : Int), .bool x2] 222)).heap.size := HBW2.out.size
        clear hx0 hx1 hsl f2 c0 HRW
        generalize hWC : ((wa.setCell ⟨qb, 0, none⟩ (.slice (some ⟨gq, off', none⟩) q.length cap')).alloc (.cells #[.int .i64 (x1 : Int), .bool x2] 222)) = wc at d0 d1 d2 HB2 HBX2 HBW2 HRW2 HSZ hwc ⊢
        clear hWC
        have x1n : (x1 : Int) < (g.n : Int) := by omega
        have cn : wc.cell? ⟨hn, x1, none⟩ = some (.int .i64 (nx.getD x1 0)) := HRW2.out.n1.cell (by have := hin.1; omega)
        have cp : wc.cell? ⟨hp, x1, none⟩ = some (.int .i64 (pv.getD x1 0)) := HRW2.out.p1.cell (by have := hin.2; omega)
        have HFREE : Hid (freeN s nx pv x1 = (x1 != s && decide (nx.getD x1 0 < 0) && decide (pv.getD x1 0 < 0))) := Lib.hid rfl
        generalize hn1 : nx.getD x1 0 = n1 at cn HFREE
        generalize hp1 : pv.getD x1 0 = p1 at cp HFREE
        have HN1 := Lib.hid hn1; have HP1 := Lib.hid hp1
        clear hn1 hp1
        go_cut [17] from 33 to 144 (fun s17 wx => s17 = .bool (freeN s nx pv x1) ∧ wc = wx)
        case first =>
          by_cases e1 : x1 = s
          · have g2 : ((x1 : Int) != (s : Int)) = false := by simp; omega
            have HV : Hid (freeN s nx pv x1 = false) := Lib.hid (by rw [HFREE.out, bne_eq_false_iff_eq.2 e1]; rfl)
            clear e1
            go_wp2_with fail
            go_meet
            case rel => exact ⟨by rw [HV.out], rfl⟩
          · have g2 : ((x1 : Int) != (s : Int)) = true := by simp; omega
            by_cases e2 : n1 < 0
            · by_cases e3 : p1 < 0
              · have HV : Hid (freeN s nx pv x1 = true) := Lib.hid (by rw [HFREE.out, bne_iff_ne.2 e1, decide_eq_true e2, decide_eq_true e3]; rfl)
                clear e1
                go_wp2_with fail
                go_meet
                case rel => exact ⟨by rw [HV.out], rfl⟩
              · have HV : Hid (freeN s nx pv x1 = false) := Lib.hid (by rw [HFREE.out, bne_iff_ne.2 e1, decide_eq_true e2, decide_eq_false e3]; rfl)
                clear e1
                go_wp2_with fail
                go_meet
                case rel => exact ⟨by rw [HV.out], rfl⟩
            · have HV : Hid (freeN s nx pv x1 = false) := Lib.hid (by rw [HFREE.out, bne_iff_ne.2 e1, decide_eq_false e2]; rfl)
              clear e1
              go_wp2_with fail
              go_meet
              case rel => exact ⟨by rw [HV.out], rfl⟩
        case rest =>
          obtain ⟨rfl, rfl⟩ := hcut
          generalize hfb : freeN s nx pv x1 = fb
          have HFB := Lib.hid hfb
          clear hfb HFREE
          go_upto_region 13 with fail
          go_cut [76] from 33 to 144 (fun s76 wx => s76 = .bool (x2 || fb) ∧ wc = wx)
          case first =>
            cases x2
            · go_wp2_with fail
              go_meet
              case rel => exact ⟨by simp, rfl⟩
            · go_wp2_with fail
              go_meet
              case rel => exact ⟨by simp, rfl⟩
          case rest =>
            obtain ⟨rfl, rfl⟩ := hcut
            go_upto_if 76 with fail
            have HOK0 : Hid (BsOK g.n s ⟨q, S.came⟩) := Lib.hid ⟨HOK.out.dist, HOK.out.lt, HOK.out.from', fun y hy => HOK.out.que y (by rw [HQE.out]; exact List.mem_cons_of_mem _ hy)⟩
            have HFW := Lib.hid (fwd_ok (g := g) (t := t) (nx := nx) HOK0.out (show (x1, x2) = (s, true) ∨ (x1, x2) ∈ (⟨q, S.came⟩ : BS).came.map (·.1) from HXM.out))
            go_cut [18] from 33 to 144 (fun s18 wx => ∃ S1 gq1 qv1, S1 = (if x2 || fb then fwdS g s t nx (x1, x2) ⟨q, S.came⟩ g.n else ⟨q, S.came⟩) ∧ BfsAt wx sb cb qb ms mc gq1 qv1 s S1 ∧ w.heap.size ≤ gq1 ∧ Below w.heap.size w wx ∧ Bk wx wa.heap.size #[.int .i64 (x1 : Int), .bool x2] 222)
            case first =>
              cases hf : (x2 || fb)
              · go_wp2_with fail
                go_meet
                case rel => exact ⟨_, gq, _, by rw [hf]; rfl, HB2.out, hgq, HBW2.out, HBX2.out⟩
              · go_wp2_with fail
                have hle0 : leftB g.n ⟨q, S.came⟩ ≤ 2 * g.n + 1 := by
                  have : leftB g.n S = leftB g.n ⟨q, S.came⟩ + 1 := by unfold leftB; rw [HQE.out]; simp; omega
                  omega
                have HNB : Hid (∀ (gq1 : Nat) (wd : World) {qv1 : Value} {S1 : BS}, BfsAt wd sb cb qb ms mc gq1 qv1 s S1 → Bk wd wa.heap.size #[.int .i64 (x1 : Int), .bool x2] 222 → gq1 ≠ wa.heap.size → wa.heap.size ∉ [qb, ms, mc, gq1]) := Lib.hid (by
                  intro gq1 wd qv1 S1 h1 h2 h3
                  simp only [List.mem_cons, List.not_mem_nil, or_false, not_or]
                  exact ⟨h2.ne h1.qx (by decide), h2.nmap h1.seen, h2.nmap h1.came, Ne.symm h3⟩)
                have HQL : Hid (∀ k, k ≤ g.n → (fwdS g s t nx (x1, x2) ⟨q, S.came⟩ k).queue.length ≤ 1000 ∧ (fwdS g s t nx (x1, x2) ⟨q, S.came⟩ k).came.length ≤ 1000) := Lib.hid (fun k hk => by
                  obtain ⟨h1, h2, _⟩ := HFW.out k hk
                  have h3 := h1.len
                  unfold leftB at h2 hle0
                  dsimp only at h2 hle0
                  omega)
                clear hle0
                go_loopw [78] (fun i wr => ∃ (k gq1 : Nat) (qv1 : Value), k ≤ g.n ∧ i = .int .i64 k ∧ BfsAt wr sb cb qb ms mc gq1 qv1 s (fwdS g s t nx (x1, x2) ⟨q, S.came⟩ k) ∧ w.heap.size ≤ gq1 ∧ Below w.heap.size w wr ∧ Bk wr wa.heap.size #[.int .i64 (x1 : Int), .bool x2] 222 ∧ gq1 ≠ wa.heap.size) (fun i _ => g.n - (intOf i).toNat)
                case atStart => exact ⟨0, gq, _, Nat.zero_le _, rfl, HB2.out, hgq, HBW2.out, HBX2.out, by have := HB.out.q.lt; omega⟩
                case round =>
                  obtain ⟨k, gq1, qv1, hk, rfl, hb, hgq1, hbw, hbx, hgx⟩ := hrel
                  obtain ⟨wd, rfl⟩ : ∃ z : World, z = wr := ⟨_, rfl⟩
                  have HB3 := Lib.hid hb; have HBW3 := Lib.hid hbw; have HBX3 := Lib.hid hbx
                  have HRW3 : Hid (RowsOK wd hn hp g.n nx pv) := Lib.hid ⟨HR.out.nl, HR.out.n1.keepL (KeepL.of_below (L := []) hbw) (by simp), HR.out.p1.keepL (KeepL.of_below (L := []) hbw) (by simp), HR.out.val⟩
                  have d0 := hbx.cell 0
                  have d1 := hbx.cell 1
                  have cn : wd.cell? ⟨hn, x1, none⟩ = some (.int .i64 n1) := by rw [← HN1.out]; exact HRW3.out.n1.cell (by have := hin.1; omega)
                  simp only [List.getElem?_toArray, List.getElem?_cons_succ, List.getElem?_cons_zero] at d0 d1
                  have hbb : B ≤ w.heap.size := by have := HR.out.n1.lt; omega
                  have HG : Hid (GAt wd B G ns g) := Lib.hid (H.out.below (hbw.mono hbb))
                  clear hb hbw hbx HB2 HBW2 HBX2
                  by_cases hlt : k < g.n
                  · have hki : (k : Int) < (g.n : Int) := by omega
                    have HSK : Hid (skipK g s t nx x1 k = ((x1 == s && k == t) || !g.open x1 k s t || decide (n1 = (k : Int)))) := Lib.hid (by unfold skipK; rw [HN1.out])
                    have HST : Hid (fwdS g s t nx (x1, x2) ⟨q, S.came⟩ (k + 1) = if skipK g s t nx x1 k then fwdS g s t nx (x1, x2) ⟨q, S.came⟩ k else (fwdS g s t nx (x1, x2) ⟨q, S.came⟩ k).push s (x1, x2) (k, false)) := Lib.hid rfl
                    have hol := open_any HG.out x1 k s t hxn hlt
                    have HOL := Lib.hid hol
                    have HQL1 := Lib.hid (HQL.out k hk)
                    clear hol
                    by_cases e1 : x1 = s ∧ k = t
                    · have g2 : ((x1 : Int) == (s : Int)) = true := by simp; omega
                      have g3 : ((k : Int) == (t : Int)) = true := by simp; omega
                      have HV : Hid (skipK g s t nx x1 k = true) := Lib.hid (by rw [HSK.out]; simp [e1.1, e1.2])
                      clear e1
                      go_wp2_with fail
                      go_roundw
                      case rel => exact ⟨k + 1, gq1, qv1, by omega, by go_num, by rw [HST.out, if_pos HV.out]; exact HB3.out, hgq1, HBW3.out, HBX3.out, hgx⟩
                      case measure => simp [intOf]; omega
                    · have HE1 : Hid (x1 ≠ s ∨ k ≠ t) := Lib.hid (by omega)
                      by_cases e0 : x1 = s
                      · have g2 : ((x1 : Int) == (s : Int)) = true := by simp; omega
                        have g3 : ((k : Int) == (t : Int)) = false := by simp; omega
                        clear e0 e1
                        go_wp2_with fail
                        refine (HOL.out).mono ?_
                        rintro e w' ⟨rfl, rfl⟩
                        cases ho : g.open x1 k s t
                        · have HV : Hid (skipK g s t nx x1 k = true) := Lib.hid (by rw [HSK.out, ho]; simp)
                          clear ho
                          go_wp2_with fail
                          go_roundw
                          case rel => exact ⟨k + 1, gq1, qv1, by omega, by go_num, by rw [HST.out, if_pos HV.out]; exact HB3.out, hgq1, HBW3.out, HBX3.out, hgx⟩
                          case measure => simp [intOf]; omega
                        · by_cases e3 : n1 = (k : Int)
                          · have HV : Hid (skipK g s t nx x1 k = true) := Lib.hid (by rw [HSK.out, decide_eq_true e3]; simp)
                            have g4 : (n1 == (k : Int)) = true := by simp [e3]
                            clear ho e3
                            go_wp2_with fail
                            go_roundw
                            case rel => exact ⟨k + 1, gq1, qv1, by omega, by go_num, by rw [HST.out, if_pos HV.out]; exact HB3.out, hgq1, HBW3.out, HBX3.out, hgx⟩
                            case measure => simp [intOf]; omega
                          · have HV : Hid (skipK g s t nx x1 k = false) := Lib.hid (by
                              rw [HSK.out, ho, decide_eq_false e3]
                              have : (x1 == s && k == t) = false := by
                                rw [Bool.and_eq_false_iff, beq_eq_false_iff_ne, beq_eq_false_iff_ne]
                                exact HE1.out
                              rw [this]; rfl)
                            have g4 : (n1 == (k : Int)) = false := by simp [e3]
                            clear ho e3
                            go_wp2_with fail
                            refine (push_any sb cb qb ms mc gq1 qv1 s _ (x1, x2) (k, false) wd HB3.out (by show k ≤ 1000000; omega) HQL1.out.1 HQL1.out.2).mono ?_
                            rintro e w9 ⟨rfl, qv9, g9, hb9, hk9, hg9⟩
                            have hbel9 : Below w.heap.size wd w9 := hk9.below HBW3.out.size (by simp; exact ⟨hge.2.2.1, hge.2.1, hge.2.2.2.2.1, hgq1⟩)
                            have HB9 := Lib.hid hb9; have HBW9 := Lib.hid (HBW3.out.trans hbel9)
                            have HBX9 := Lib.hid (HBX3.out.keepL hk9 (HNB.out gq1 wd HB3.out HBX3.out hgx))
                            have hg99 : w.heap.size ≤ g9 := by rcases hg9 with h | h; omega; have := HBW3.out.size; omega
                            have hg9x : g9 ≠ wa.heap.size := by rcases hg9 with h | h; (rw [h]; exact hgx); have := HBX3.out.lt; omega
                            clear hb9 hk9 hg9 hbel9
                            go_wp2_with fail
                            go_roundw
                            case rel => exact ⟨k + 1, g9, qv9, by omega, by go_num, by rw [HST.out, if_neg (by rw [HV.out]; simp)]; exact HB9.out, hg99, HBW9.out, HBX9.out, hg9x⟩
                            case measure => simp [intOf]; omega
                      · have g2 : ((x1 : Int) == (s : Int)) = false := by simp; omega
                        clear e0 e1
                        go_wp2_with fail
                        refine (HOL.out).mono ?_
                        rintro e w' ⟨rfl, rfl⟩
                        cases ho : g.open x1 k s t
                        · have HV : Hid (skipK g s t nx x1 k = true) := Lib.hid (by rw [HSK.out, ho]; simp)
                          clear ho
                          go_wp2_with fail
                          go_roundw
                          case rel => exact ⟨k + 1, gq1, qv1, by omega, by go_num, by rw [HST.out, if_pos HV.out]; exact HB3.out, hgq1, HBW3.out, HBX3.out, hgx⟩
                          case measure => simp [intOf]; omega
                        · by_cases e3 : n1 = (k : Int)
                          · have HV : Hid (skipK g s t nx x1 k = true) := Lib.hid (by rw [HSK.out, decide_eq_true e3]; simp)
                            have g4 : (n1 == (k : Int)) = true := by simp [e3]
                            clear ho e3
                            go_wp2_with fail
                            go_roundw
                            case rel => exact ⟨k + 1, gq1, qv1, by omega, by go_num, by rw [HST.out, if_pos HV.out]; exact HB3.out, hgq1, HBW3.out, HBX3.out, hgx⟩
                            case measure => simp [intOf]; omega
                          · have HV : Hid (skipK g s t nx x1 k = false) := Lib.hid (by
                              rw [HSK.out, ho, decide_eq_false e3]
                              have : (x1 == s && k == t) = false := by
                                rw [Bool.and_eq_false_iff, beq_eq_false_iff_ne, beq_eq_false_iff_ne]
                                exact HE1.out
                              rw [this]; rfl)
                            have g4 : (n1 == (k : Int)) = false := by simp [e3]
                            clear ho e3
                            go_wp2_with fail
                            refine (push_any sb cb qb ms mc gq1 qv1 s _ (x1, x2) (k, false) wd HB3.out (by show k ≤ 1000000; omega) HQL1.out.1 HQL1.out.2).mono ?_
                            rintro e w9 ⟨rfl, qv9, g9, hb9, hk9, hg9⟩
                            have hbel9 : Below w.heap.size wd w9 := hk9.below HBW3.out.size (by simp; exact ⟨hge.2.2.1, hge.2.1, hge.2.2.2.2.1, hgq1⟩)
                            have HB9 := Lib.hid hb9; have HBW9 := Lib.hid (HBW3.out.trans hbel9)
                            have HBX9 := Lib.hid (HBX3.out.keepL hk9 (HNB.out gq1 wd HB3.out HBX3.out hgx))
                            have hg99 : w.heap.size ≤ g9 := by rcases hg9 with h | h; omega; have := HBW3.out.size; omega
                            have hg9x : g9 ≠ wa.heap.size := by rcases hg9 with h | h; (rw [h]; exact hgx); have := HBX3.out.lt; omega
                            clear hb9 hk9 hg9 hbel9
                            go_wp2_with fail
                            go_roundw
                            case rel => exact ⟨k + 1, g9, qv9, by omega, by go_num, by rw [HST.out, if_neg (by rw [HV.out]; simp)]; exact HB9.out, hg99, HBW9.out, HBX9.out, hg9x⟩
                            case measure => simp [intOf]; omega
                  · have hki : ¬ (k : Int) < (g.n : Int) := by omega
                    obtain rfl : k = g.n := by omega
                    go_wp2_with fail
                    go_meet
                    case rel => exact ⟨_, gq1, qv1, by rw [hf]; rfl, HB3.out, hgq1, HBW3.out, HBX3.out⟩
            case rest =>
              obtain ⟨S1, gq1, qv1, hS1, hb3, hgq1, hbw3, hbx3⟩ := hcut
              have HB3 := Lib.hid hb3; have HBW3 := Lib.hid hbw3; have HBX3 := Lib.hid hbx3
              have HRW3 : Hid (RowsOK wc hn hp g.n nx pv) := Lib.hid ⟨HR.out.nl, HR.out.n1.keepL (KeepL.of_below (L := []) hbw3) (by simp), HR.out.p1.keepL (KeepL.of_below (L := []) hbw3) (by simp), HR.out.val⟩
              have hle0 : leftB g.n S = leftB g.n ⟨q, S.came⟩ + 1 := by unfold leftB; rw [HQE.out]; simp; omega
              have hok1 : BsOK g.n s S1 ∧ leftB g.n S1 ≤ leftB g.n ⟨q, S.came⟩ := by
                rw [hS1]
                split
                · obtain ⟨h1, h2, _⟩ := HFW.out g.n (Nat.le_refl _); exact ⟨h1, h2⟩
                · exact ⟨HOK0.out, Nat.le_refl _⟩
              have hmem1 : (x1, x2) = (s, true) ∨ (x1, x2) ∈ S1.came.map (·.1) := by
                rw [hS1]
                split
                · exact (HFW.out g.n (Nat.le_refl _)).2.2
                · exact HXM.out
              have HSTEP : Hid (stepB g s t nx pv (x1, x2) ⟨q, S.came⟩ = if backB s pv x1 then S1.push s (x1, x2) ((pv.getD x1 0).toNat, true) else S1) := Lib.hid (by
                unfold stepB
                dsimp only
                rw [HFB.out, ← hS1])
              have HBFS1 : Hid (bfs g s t nx pv (fuelB g.n) ⟨[(s, true)], []⟩ = bfs g s t nx pv g' (stepB g s t nx pv (x1, x2) ⟨q, S.came⟩)) := Lib.hid (by
                rw [HBFS.out, bfs, HQE.out]
                dsimp only
                rw [if_neg hxt])
              have HBK : Hid (backB s pv x1 = (x1 != s && decide (0 ≤ p1) && decide (p1 ≠ (s : Int)))) := Lib.hid (by unfold backB; rw [HP1.out])
              have d0 := hbx3.cell 0
              have d1 := hbx3.cell 1
              have cp : wc.cell? ⟨hp, x1, none⟩ = some (.int .i64 p1) := by rw [← HP1.out]; exact HRW3.out.p1.cell (by have := hin.2; omega)
              simp only [List.getElem?_toArray, List.getElem?_cons_succ, List.getElem?_cons_zero] at d0 d1
              have HOK1 := Lib.hid hok1; have HM1 := Lib.hid hmem1
              have HPV : Hid (p1 < (g.n : Int)) := Lib.hid (by rw [← HP1.out]; exact HR.out.val x1)
              clear hS1 hb3 hbw3 hbx3 hok1 hmem1 HB2 HBX2 HBW2
              by_cases e1 : x1 = s
              · have g2 : ((x1 : Int) != (s : Int)) = false := by simp; omega
                have HV : Hid (backB s pv x1 = false) := Lib.hid (by rw [HBK.out, bne_eq_false_iff_eq.2 e1]; rfl)
                clear e1
                go_wp2_with fail
                go_roundg g'
                case measure => omega
                case rel => exact ⟨S1, gq1, qv1, HB3.out, HOK1.out.1, by have := HOK1.out.2; omega, by have := HOK1.out.2; omega, by rw [HBFS1.out, HSTEP.out, if_neg (by rw [HV.out]; simp)], hgq1, HBW3.out⟩
              · have g2 : ((x1 : Int) != (s : Int)) = true := by simp; omega
                by_cases e2 : 0 ≤ p1
                · by_cases e3 : p1 = (s : Int)
                  · have g3 : (p1 != (s : Int)) = false := by simp [e3]
                    have HV : Hid (backB s pv x1 = false) := Lib.hid (by rw [HBK.out, decide_eq_false (show ¬ (p1 ≠ (s : Int)) from fun h => h e3)]; simp)
                    clear e1 e3
                    go_wp2_with fail
                    go_roundg g'
                    case measure => omega
                    case rel => exact ⟨S1, gq1, qv1, HB3.out, HOK1.out.1, by have := HOK1.out.2; omega, by have := HOK1.out.2; omega, by rw [HBFS1.out, HSTEP.out, if_neg (by rw [HV.out]; simp)], hgq1, HBW3.out⟩
                  · have g3 : (p1 != (s : Int)) = true := by simp [e3]
                    have HV : Hid (backB s pv x1 = true) := Lib.hid (by rw [HBK.out, bne_iff_ne.2 e1, decide_eq_true e2, decide_eq_true e3]; rfl)
                    obtain ⟨pn, hpn⟩ : ∃ pn : Nat, p1 = (pn : Int) := ⟨p1.toNat, by omega⟩
                    have HPN := Lib.hid hpn
                    have hps : pn ≠ s := by omega
                    have hpl : pn < g.n := by have := HPV.out; omega
                    clear e1 e3
                    go_wp2_with fail
                    refine wp_region_quiet_tail 8 (by kernel_rfl) (by kernel_rfl) ?_
                    simp only [List.take_succ_cons, List.take_zero, List.drop_succ_cons, List.drop_zero]
                    repeat (quiet_step (fail))
                    refine wpQuiet_nil ?_
                    intro _ hw'
                    obtain ⟨nq, hw''⟩ := hw'
                    subst hw''
                    have hqw : Qw wc (wc.drewN nq) := ⟨nq, rfl⟩
                    have HB4 := Lib.hid (HB3.out.keepL (KeepL.q (L := []) hqw) (by simp))
                    have HBW4 := Lib.hid (HBW3.out.trans (hqw.below _))
                    have hql : S1.queue.length ≤ 1000 ∧ S1.came.length ≤ 1000 := by
                      have h1 := HOK1.out.1.len
                      have h2 := HOK1.out.2
                      unfold leftB at h2 hle0 hleft2
                      dsimp only at h2 hle0
                      omega
                    have HQL := Lib.hid hql
                    clear hqw hql
                    generalize wc.drewN nq = wd at HB4 HBW4 ⊢
                    go_wp2_with fail
                    refine (push_any sb cb qb ms mc gq1 qv1 s S1 (x1, x2) (pn, true) wd HB4.out (by show pn ≤ 1000000; omega) HQL.out.1 HQL.out.2).mono ?_
                    rintro e w9 ⟨rfl, qv9, g9, hb9, hk9, hg9⟩
                    have hbel9 : Below w.heap.size wd w9 := hk9.below HBW4.out.size (by simp; exact ⟨hge.2.2.1, hge.2.1, hge.2.2.2.2.1, hgq1⟩)
                    have HB9 := Lib.hid hb9; have HBW9 := Lib.hid (HBW4.out.trans hbel9)
                    have hg99 : w.heap.size ≤ g9 := by rcases hg9 with h | h; omega; have := HBW4.out.size; omega
                    have HOK9 := Lib.hid (HOK1.out.1.push HM1.out (x := (pn, true)) hpl hps)
                    have HTN : Hid ((pv.getD x1 0).toNat = pn) := Lib.hid (by rw [HP1.out, HPN.out]; simp)
                    clear hb9 hk9 hg9 hbel9
                    go_wp2_with fail
                    go_roundg g'
                    case measure => omega
                    case rel => exact ⟨S1.push s (x1, x2) (pn, true), g9, qv9, HB9.out, HOK9.out.1, by have := HOK9.out.2; have := HOK1.out.2; omega, by have := HOK9.out.2; have := HOK1.out.2; omega, by rw [HBFS1.out, HSTEP.out, if_pos HV.out, HTN.out], hg99, HBW9.out⟩
                · have HV : Hid (backB s pv x1 = false) := Lib.hid (by rw [HBK.out, decide_eq_false e2]; simp)
                  clear e1
                  go_wp2_with fail
                  go_roundg g'
                  case measure => omega
                  case rel => exact ⟨S1, gq1, qv1, HB3.out, HOK1.out.1, by have := HOK1.out.2; omega, by have := HOK1.out.2; omega, by rw [HBFS1.out, HSTEP.out, if_neg (by rw [HV.out]; simp)], hgq1, HBW3.out⟩
#print axioms augment_any
end Go.Proofs.YtghjlbbalngdhaaGreatDoor
