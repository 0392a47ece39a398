/- The bits of pieces. Conditions: as the statement says. -/
import Derived.Test.YtdgmjedkhjeadaaClm8
import Derived.Test.YtdgmjedkhjeadaaApp
import Derived.OrdersHeld
import Derived.Deep.RegionHeld3
import Derived.Test.YtdgmjedkhjeadaaRcs8
import Derived.Test.YtdgmjedkhjeadaaRangeQ
import Derived.Deep.CutBlock
import Derived.Test.YtdgmjedkhjeadaaTick3
import Derived.Test.YtdgmjedkhjeadaaKeepL
import Derived.Test.YtdgmjedkhjeadaaRun8
import Derived.Test.YtdgmjedkhjeadaaForms2
namespace Go.Proofs.Ytdgmjedkhjeadaa
open Go.RowKit
set_option linter.unusedVariables false
attribute [local go_sem] Oper.semAt_some
def bitsP (keys : List Ky) (p : Pc) : List Bool :=
  match findK keys p.id with
  | some i => (match keys[i]? with | some k => (k.bits.drop p.f).take (p.t - p.f) | none => [])
  | none => []
def bitsL (keys : List Ky) (ps : List Pc) : List Bool := ps.flatMap (bitsP keys)
theorem bitsL_take (keys : List Ky) (ps : List Pc) (i : Nat) : (bitsL keys (ps.take i)).length ≤ (bitsL keys ps).length := by
  have h : bitsL keys ps = bitsL keys (ps.take i) ++ bitsL keys (ps.drop i) := by
    unfold bitsL
    rw [← List.flatMap_append, List.take_append_drop]
  rw [h, List.length_append]; omega
theorem bitsL_succ (keys : List Ky) {ps : List Pc} {i : Nat} {p : Pc} (h : ps[i]? = some p) : bitsL keys (ps.take (i + 1)) = bitsL keys (ps.take i) ++ bitsP keys p := by
  unfold bitsL
  rw [List.take_add_one, h, List.flatMap_append]; simp
theorem grown_cell8 {w w' : World} {B : Nat} {t t' : TypeId} {sz n g : Nat} {v : Value} {xs : List Value} {cs : Array Value} (ho : w.ownsRow B t sz v n xs) (hg : w.grownBy w' v.ownBlock) (hb : Bk w g cs t') (ht : t ≠ t') : Bk w' g cs t' := by
  refine (hg.block g hb.lt (fun e => ?_)).trans hb
  rcases ho.2 with ⟨rfl, _⟩ | ⟨g0, cap, cur, rfl, _, hh, _⟩
  · cases e
  · obtain rfl : g = g0 := by simpa [Value.ownBlock] using e
    unfold Bk at hb
    rw [hh] at hb
    injection hb with hb
    injection hb with _ h2
    exact ht h2
def SB8 (S T kg q kn kc : Nat) (x : KB) (bn g : Nat) (p : Pc) (W : World) : Prop :=
  W.cell? ⟨S, 4, none⟩ = some (.pointer (some ⟨T, 0, none⟩)) ∧ W.cell? ⟨T, 0, none⟩ = some (.slice (some ⟨kg, 0, none⟩) kn kc) ∧ W.cell? ⟨kg, q, none⟩ = some (.pointer (some ⟨x.kb, 0, none⟩)) ∧ W.cell? ⟨x.kb, 1, none⟩ = some (.slice (some ⟨x.bb, 0, none⟩) bn x.cb) ∧ W.cell? ⟨g, 0, none⟩ = some (.int .i64 (p.id : Int)) ∧ W.cell? ⟨g, 1, none⟩ = some (.int .i64 (p.f : Int)) ∧ W.cell? ⟨g, 2, none⟩ = some (.int .i64 (p.t : Int))
set_option maxRecDepth 100000 in
set_option maxHeartbeats 2000000 in
theorem bits_any {w : World} {S D : Nat} {s : StM} {T : Nat} {kv : Value} {xs : List KB} {tb : Option Addr} {tc : Nat} {v : Value} {ps : List Pc} (hst : StAt w S D s T kv xs tb tc) (hp : PcR w v ps) (hl : ps.length ≤ 100000) (hn : (bitsL s.j.keys ps).length ≤ 1000000)
    (hgood : ∀ p ∈ ps, ∃ q k, findK s.j.keys p.id = some q ∧ s.j.keys[q]? = some k ∧ p.f ≤ p.t ∧ p.t ≤ k.bits.length) :
    Calls Try.prog 33 #[.pointer (some ⟨S, 0, none⟩), v] w fun e w' => ∃ v', e = .returned v' ∧ w'.ownsRow w.heap.size 4 1 v' (bitsL s.j.keys ps).length ((bitsL s.j.keys ps).map Value.bool) ∧ Below w.heap.size w w' := by
  obtain ⟨i0, hi0, hz0, hz1, hz2⟩ := info_parts (by kernel_rfl : (Try.prog.info? 4).map (fun i => (i.zero, i.size, i.bytes)) = some (some (.bool false), 1, 1))
  have HI0 := Lib.hid hi0; have HZ0 := Lib.hid hz0; have HZ1 := Lib.hid hz1; have HZ2 := Lib.hid hz2
  have HST := Lib.hid hst; have HGD := Lib.hid hgood; have HN := Lib.hid hn
  obtain ⟨A, c, rfl, hc⟩ := hp
  have HC := Lib.hid hc
  clear hc hst hgood hi0 hz0 hz1 hz2 hn
  go_enter Try.func33, Try.ntmps33
  go_wp2_with fail
  go_loopw [5, 10] (fun u j wr => ∃ i : Nat, i ≤ ps.length ∧ j = .int .i64 i ∧ wr.ownsRow w.heap.size 4 1 u (bitsL s.j.keys (ps.take i)).length ((bitsL s.j.keys (ps.take i)).map Value.bool) ∧ Below w.heap.size w wr) (fun _ j _ => ps.length - (intOf j).toNat)
  case atStart => exact ⟨0, Nat.zero_le _, rfl, World.ownsRow_nil _ _ _ _, Below.refl _ _⟩
  case round =>
    obtain ⟨i, hi, rfl, ho, hb⟩ := hrel
    obtain ⟨wi, rfl⟩ : ∃ z : World, z = wr := ⟨_, rfl⟩
    have HO := Lib.hid ho; have HB := Lib.hid hb
    clear ho hb
    by_cases hlt : i < ps.length
    · have hki : (i : Int) < (ps.length : Int) := by omega
      obtain ⟨p, hp⟩ : ∃ p, ps[i]? = some p := ⟨_, List.getElem?_eq_getElem hlt⟩
      obtain ⟨b, hA, hbl, h0, h1, h2⟩ := HC.out i p hp
      have HTK := Lib.hid (bitsL_succ s.j.keys hp)
      obtain ⟨q, k, hfq, hkq, hft, htb⟩ := HGD.out p (List.mem_of_getElem? hp)
      have HPB : Hid (bitsP s.j.keys p = (k.bits.drop p.f).take (p.t - p.f)) := Lib.hid (by unfold bitsP; rw [hfq]; dsimp only; rw [hkq])
      subst hA
      have c0 : wi.cell? ⟨b, i * 3, none⟩ = some (.int .i64 (p.id : Int)) := (HB.out.cell (p := ⟨b, i * 3, none⟩) hbl).trans h0
      have c1 : wi.cell? ⟨b, i * 3 + 1, none⟩ = some (.int .i64 (p.f : Int)) := (HB.out.cell (p := ⟨b, i * 3 + 1, none⟩) hbl).trans h1
      have c2 : wi.cell? ⟨b, i * 3 + 2, none⟩ = some (.int .i64 (p.t : Int)) := (HB.out.cell (p := ⟨b, i * 3 + 2, none⟩) hbl).trans h2
      have hqn : q < s.j.keys.length := (List.getElem?_eq_some_iff.1 hkq).1
      obtain ⟨kg, kc, x, k', hkv, hcap, hx, hkk, ci, hat⟩ := HST.out.js.ptr hqn
      obtain rfl : k' = k := by rw [hkq] at hkk; exact (Option.some.inj hkk).symm
      have hbig : k'.bits.length ≤ 1000 := by have := hat.big; have := hat.len; omega
      have hcb := hat.capb
      obtain ⟨n0, hn0⟩ : ∃ n, n = (bitsL s.j.keys (ps.take i)).length := ⟨_, rfl⟩
      have hnle : n0 ≤ 1000000 := by rw [hn0]; exact Nat.le_trans (bitsL_take _ _ _) HN.out
      have HO1 : Hid (wi.ownsRow w.heap.size 4 1 u5 n0 ((bitsL s.j.keys (ps.take i)).map Value.bool)) := Lib.hid (by rw [hn0]; exact HO.out)
      have HN0 := Lib.hid hn0
      have HFX : Hid (fidx s.j.keys p.id = (q : Int)) := Lib.hid (by unfold fidx; rw [hfq])
      have HAT := Lib.hid hat; have HKV := Lib.hid hkv; have HCI := Lib.hid ci
      clear h0 h1 h2 hp hfq hkq hkk hx hn0 hat hkv ci HO hcap
      go_upto_region 5 with fail
      obtain ⟨w2, hw2⟩ : ∃ z, z = wi.alloc (.cells #[.int .i64 (p.id : Int), .int .i64 (p.f : Int), .int .i64 (p.t : Int)] 45) := ⟨_, rfl⟩
      have hb2 : Below wi.heap.size wi w2 := by rw [hw2]; exact balloc _ _
      have hg2 : Bk w2 wi.heap.size #[.int .i64 (p.id : Int), .int .i64 (p.f : Int), .int .i64 (p.t : Int)] 45 := by rw [hw2]; exact Bk.new _ _ _
      rw [← hw2]
      obtain ⟨g, hg⟩ : ∃ g, g = wi.heap.size := ⟨_, rfl⟩
      rw [← hg] at hg2 ⊢
      have HO2 := Lib.hid (ownsRow_past8 HO1.out hb2)
      have HB2 := Lib.hid (bnextK HB.out hb2)
      have HG2 := Lib.hid hg2
      obtain ⟨kn, hkn⟩ : ∃ n, n = s.j.keys.length := ⟨_, rfl⟩
      obtain ⟨bn, hbn⟩ : ∃ n, n = k'.bits.length := ⟨_, rfl⟩
      have HSB : Hid (∀ W : World, Below w.heap.size w W → Bk W g #[.int .i64 (p.id : Int), .int .i64 (p.f : Int), .int .i64 (p.t : Int)] 45 → SB8 S T kg q kn kc x bn g p W) := Lib.hid fun W hbw hgw => by
        have t0 := (HST.out.js.blk.past hbw HST.out.js.blk.lt).cell 0
        rw [HKV.out] at t0
        have k1 := (HAT.out.blk.past hbw HAT.out.blk.lt).cell 1
        refine ⟨(HST.out.blk.past hbw HST.out.blk.lt).cell 4, by rw [hkn]; exact t0, (hbw.cell (p := ⟨kg, q, none⟩) (lt_cell HCI.out)).trans HCI.out, by rw [hbn]; exact k1, hgw.cell 0, hgw.cell 1, hgw.cell 2⟩
      have HRD : Hid (∀ W : World, Below w.heap.size w W → Rd W W.heap.size 1 (if x.cb = p.f then some ⟨x.bb, 0, none⟩ else some ⟨x.bb, p.f, none⟩) (p.t - p.f) ((bitsP s.j.keys p).map Value.bool)) := Lib.hid fun W hbw => by
        obtain ⟨su, hsu⟩ := HAT.out.bits
        have h := hsu.past hbw hsu.lt
        refine ⟨by rw [List.length_map, HPB.out, List.length_take, List.length_drop]; omega, fun h0 => ⟨x.bb, p.f, by rw [if_neg (by omega)], h.lt, fun j u hu => ?_⟩⟩
        rw [HPB.out, List.getElem?_map] at hu
        rw [h.cell, List.getElem?_toArray]
        cases hz : ((k'.bits.drop p.f).take (p.t - p.f))[j]? with
        | none => rw [hz] at hu; cases hu
        | some z =>
          rw [hz] at hu
          rw [List.getElem?_take] at hz
          split at hz
          · rw [List.getElem?_drop] at hz
            rw [List.getElem?_append_left (by have := (List.getElem?_eq_some_iff.1 hz).1; simpa using this), List.getElem?_map, hz]
            exact hu
          · cases hz
      have HS2 := Lib.hid (HSB.out w2.drew (HB2.out.trans (below_drew8 _ _)) (HG2.out.past (below_drew8 _ _) HG2.out.lt))
      have HFD := Lib.hid (find_any (HST.out.js.far (HB2.out.trans (below_drew8 _ _))) p.id)
      have hfd := HFD.out
      rw [HFX.out] at hfd
      have HFE := Lib.hid hfd
      have hqi : (q : Int) < (kn : Int) := by omega
      have hfti : (p.f : Int) ≤ (p.t : Int) := by omega
      have htbi : (p.t : Int) ≤ (x.cb : Int) := by omega
      have HWS : Hid (w.heap.size ≤ w2.heap.size) := Lib.hid HB2.out.size
      clear hw2 hb2 hg2 hfd HFD c0 c1 c2 hg hkn hbn
-- <REGION bits
      refine wp_region_held_drew (S := (fun W => W.cell? ⟨S, 4, none⟩ = some (.pointer (some ⟨T, 0, none⟩)) ∧ W.cell? ⟨T, 0, none⟩ = some (.slice (some ⟨kg, 0, none⟩) kn kc) ∧ W.cell? ⟨kg, q, none⟩ = some (.pointer (some ⟨x.kb, 0, none⟩)) ∧ W.cell? ⟨x.kb, 1, none⟩ = some (.slice (some ⟨x.bb, 0, none⟩) bn x.cb) ∧ W.cell? ⟨g, 0, none⟩ = some (.int .i64 (p.id : Int)) ∧ W.cell? ⟨g, 1, none⟩ = some (.int .i64 (p.f : Int)) ∧ W.cell? ⟨g, 2, none⟩ = some (.int .i64 (p.t : Int)))) (by kernel_rfl) ?_ (fun hHeld => ?_)
      · (try dsimp only); first | exact HS2.out | exact HS4.out | exact HS5.out
      refine wpAnyH_take (i := 0) (oi := ⟨some 14, _, _, _, _, _⟩) (v := ?_) rfl (by kernel_rfl) (by kernel_rfl) (by kernel_rfl) (fun _ _ _ h => h) (Or.inl ⟨by rfl, ?_⟩) (by assumption) ?_
      rotate_left
      · (intro w hSw; (try dsimp only at hSw); go_simp; try with_reducible rfl)
      try simp only [Act.put, List.setIfInBounds_toArray, List.set_cons_zero, List.set_cons_succ]
      refine wpAnyH_take (i := 1) (oi := ⟨some 15, _, _, _, _, _⟩) (v := ?_) rfl (by kernel_rfl) (by kernel_rfl) (by kernel_rfl) (fun _ _ _ h => h) (Or.inl ⟨by rfl, ?_⟩) (by assumption) ?_
      rotate_left
      · (intro w hSw; (try dsimp only at hSw); go_simp; try with_reducible rfl)
      try simp only [Act.put, List.setIfInBounds_toArray, List.set_cons_zero, List.set_cons_succ]
      refine wpAnyH_take (i := 2) (oi := ⟨some 16, _, _, _, _, _⟩) (v := ?_) rfl (by kernel_rfl) (by kernel_rfl) (by kernel_rfl) (fun _ _ _ h => h) (Or.inl ⟨by rfl, ?_⟩) (by assumption) ?_
      rotate_left
      · (intro w hSw; (try dsimp only at hSw); go_simp; try with_reducible rfl)
      try simp only [Act.put, List.setIfInBounds_toArray, List.set_cons_zero, List.set_cons_succ]
      refine wpAnyH_take (i := 3) (oi := ⟨some 17, _, _, _, _, _⟩) (v := ?_) rfl (by kernel_rfl) (by kernel_rfl) (by kernel_rfl) (fun _ _ _ h => h) (Or.inl ⟨by rfl, ?_⟩) (by assumption) ?_
      rotate_left
      · (intro w hSw; (try dsimp only at hSw); go_simp; try with_reducible rfl)
      try simp only [Act.put, List.setIfInBounds_toArray, List.set_cons_zero, List.set_cons_succ]
      refine wpAnyH_take (i := 4) (oi := ⟨some 18, _, _, _, _, _⟩) (v := ?_) rfl (by kernel_rfl) (by kernel_rfl) (by kernel_rfl) (fun _ _ _ h => h) (Or.inl ⟨by rfl, ?_⟩) (by assumption) ?_
      rotate_left
      · (intro w hSw; (try dsimp only at hSw); go_simp; try with_reducible rfl)
      try simp only [Act.put, List.setIfInBounds_toArray, List.set_cons_zero, List.set_cons_succ]
      refine wpAnyH_take (i := 5) (oi := ⟨some 19, _, _, _, _, _⟩) (v := ?_) rfl (by kernel_rfl) (by kernel_rfl) (by kernel_rfl) (fun _ _ _ h => h) (Or.inl ⟨by rfl, ?_⟩) (by assumption) ?_
      rotate_left
      · (intro w hSw; (try dsimp only at hSw); go_simp; try with_reducible rfl)
      try simp only [Act.put, List.setIfInBounds_toArray, List.set_cons_zero, List.set_cons_succ]
      refine wpAnyH_take (i := 6) (oi := ⟨some 20, _, _, _, _, _⟩) (v := ?_) rfl (by kernel_rfl) (by kernel_rfl) (by kernel_rfl) (fun _ _ _ h => h) (Or.inl ⟨by rfl, ?_⟩) (by assumption) ?_
      rotate_left
      · (intro w hSw; (try dsimp only at hSw); go_simp; try with_reducible rfl)
      try simp only [Act.put, List.setIfInBounds_toArray, List.set_cons_zero, List.set_cons_succ]
      refine wpAnyH_take (i := 7) (oi := ⟨some 21, _, _, _, _, _⟩) (v := ?_) rfl (by kernel_rfl) (by kernel_rfl) (by kernel_rfl) (fun _ _ _ h => h) (Or.inl ⟨by rfl, ?_⟩) (by assumption) ?_
      rotate_left
      · (intro w hSw; (try dsimp only at hSw); go_simp; try with_reducible rfl)
      try simp only [Act.put, List.setIfInBounds_toArray, List.set_cons_zero, List.set_cons_succ]
      refine wpAnyH_take (i := 8) (oi := ⟨some 22, _, _, _, _, _⟩) (v := ?_) rfl (by kernel_rfl) (by kernel_rfl) (by kernel_rfl) (fun _ _ _ h => h) (Or.inl ⟨by rfl, ?_⟩) (by assumption) ?_
      rotate_left
      · (intro w hSw; (try dsimp only at hSw); go_simp; try with_reducible rfl)
      try simp only [Act.put, List.setIfInBounds_toArray, List.set_cons_zero, List.set_cons_succ]
      refine wpAnyH_take (i := 9) (oi := ⟨some 23, _, _, _, _, _⟩) (v := ?_) rfl (by kernel_rfl) (by kernel_rfl) (by kernel_rfl) (fun _ _ _ h => h) (Or.inl ⟨by rfl, ?_⟩) (by assumption) ?_
      rotate_left
      · (intro w hSw; (try dsimp only at hSw); go_simp; try with_reducible rfl)
      try simp only [Act.put, List.setIfInBounds_toArray, List.set_cons_zero, List.set_cons_succ]
      refine wpAnyH_take (i := 10) (oi := ⟨some 24, _, _, _, _, _⟩) (v := ?_) rfl (by kernel_rfl) (by kernel_rfl) (by kernel_rfl) (fun _ _ _ h => h) (Or.inl ⟨by rfl, ?_⟩) (by assumption) ?_
      rotate_left
      · (intro w hSw; (try dsimp only at hSw); go_simp; try with_reducible rfl)
      try simp only [Act.put, List.setIfInBounds_toArray, List.set_cons_zero, List.set_cons_succ]
      refine wpAnyH_take (i := 11) (oi := ⟨some 25, _, _, _, _, _⟩) (v := ?_) rfl (by kernel_rfl) (by kernel_rfl) (by kernel_rfl) (fun _ _ _ h => h) (Or.inl ⟨by rfl, ?_⟩) (by assumption) ?_
      rotate_left
      · (intro w hSw; (try dsimp only at hSw); go_simp; try with_reducible rfl)
      try simp only [Act.put, List.setIfInBounds_toArray, List.set_cons_zero, List.set_cons_succ]
      refine wpAnyH_take (i := 12) (oi := ⟨some 26, _, _, _, _, _⟩) (v := ?_) rfl (by kernel_rfl) (by kernel_rfl) (by kernel_rfl) (fun _ _ _ h => h) (Or.inl ⟨by rfl, ?_⟩) (by assumption) ?_
      rotate_left
      · (intro w hSw; (try dsimp only at hSw); go_simp; try with_reducible rfl)
      try simp only [Act.put, List.setIfInBounds_toArray, List.set_cons_zero, List.set_cons_succ]
      refine wpAnyH_take (i := 13) (oi := ⟨some 27, _, _, _, _, _⟩) (v := ?_) rfl (by kernel_rfl) (by kernel_rfl) (by kernel_rfl) (fun _ _ _ h => h) (Or.inl ⟨by rfl, ?_⟩) (by assumption) ?_
      rotate_left
      · (intro w hSw; (try dsimp only at hSw); go_simp; try with_reducible rfl)
      try simp only [Act.put, List.setIfInBounds_toArray, List.set_cons_zero, List.set_cons_succ]
      refine wpAnyH_take (i := 20) (oi := ⟨some 34, _, _, _, _, _⟩) (v := ?_) rfl (by kernel_rfl) (by kernel_rfl) (by kernel_rfl) (fun _ _ _ h => h) (Or.inl ⟨by rfl, ?_⟩) (by assumption) ?_
      rotate_left
      · (intro w hSw; (try dsimp only at hSw); go_simp; try with_reducible rfl)
      try simp only [Act.put, List.setIfInBounds_toArray, List.set_cons_zero, List.set_cons_succ]
      refine wpAnyH_take (i := 21) (oi := ⟨some 35, _, _, _, _, _⟩) (v := ?_) rfl (by kernel_rfl) (by kernel_rfl) (by kernel_rfl) (fun _ _ _ h => h) (Or.inl ⟨by rfl, ?_⟩) (by assumption) ?_
      rotate_left
      · (intro w hSw; (try dsimp only at hSw); go_simp; try with_reducible rfl)
      try simp only [Act.put, List.setIfInBounds_toArray, List.set_cons_zero, List.set_cons_succ]
      refine wpAnyH_take (i := 22) (oi := ⟨some 36, _, _, _, _, _⟩) (v := ?_) rfl (by kernel_rfl) (by kernel_rfl) (by kernel_rfl) (fun _ _ _ h => h) (Or.inl ⟨by rfl, ?_⟩) (by assumption) ?_
      rotate_left
      · (intro w hSw; (try dsimp only at hSw); go_simp; try with_reducible rfl)
      try simp only [Act.put, List.setIfInBounds_toArray, List.set_cons_zero, List.set_cons_succ]
      refine wpAnyH_take (i := 23) (oi := ⟨some 37, _, _, _, _, _⟩) (v := ?_) rfl (by kernel_rfl) (by kernel_rfl) (by kernel_rfl) (fun _ _ _ h => h) (Or.inl ⟨by rfl, ?_⟩) (by assumption) ?_
      rotate_left
      · (intro w hSw; (try dsimp only at hSw); go_simp; try with_reducible rfl)
      try simp only [Act.put, List.setIfInBounds_toArray, List.set_cons_zero, List.set_cons_succ]
      refine wpAnyH_ready (rs := [14]) (by kernel_rfl) (by simp) ?_
      refine AllReadyH.cons (o := ⟨some 28, _, _, _, _, _⟩) rfl (fun K hK => ?_) AllReadyH.nil
      go_simp
      refine HFE.out.mono ?_
      rintro e' w4 ⟨rfl, hb4⟩
      have HBD := Lib.hid ((below_drew8 w2 w2.heap.size).trans (hb4.mono (Nat.le_refl _)))
      have HB4 := Lib.hid (HB2.out.trans (HBD.out.mono HWS.out))
      have HG4 := Lib.hid (HG2.out.past HBD.out HG2.out.lt)
      have HS4 := Lib.hid (HSB.out w4 HB4.out HG4.out)
      have HO4 := Lib.hid (ownsRow_past8 HO2.out HBD.out)
      have hs4 : w.heap.size ≤ w4.heap.size := HB4.out.size
      have hrd := HRD.out w4 HB4.out
      clear hb4
      go_wp2_with fail
      refine hK.out _ _ ?_ (fun hHeld => ?_)
      · (try dsimp only); first | exact HS2.out | exact HS4.out | exact HS5.out
      clear hK K
      try simp only [Act.put, List.setIfInBounds_toArray, List.set_cons_zero, List.set_cons_succ]
      refine wpAnyH_take (i := 15) (oi := ⟨some 29, _, _, _, _, _⟩) (v := ?_) rfl (by kernel_rfl) (by kernel_rfl) (by kernel_rfl) (fun _ _ _ h => h) (Or.inl ⟨by rfl, ?_⟩) (by assumption) ?_
      rotate_left
      · (intro w hSw; (try dsimp only at hSw); go_simp; try with_reducible rfl)
      try simp only [Act.put, List.setIfInBounds_toArray, List.set_cons_zero, List.set_cons_succ]
      refine wpAnyH_take (i := 16) (oi := ⟨some 30, _, _, _, _, _⟩) (v := ?_) rfl (by kernel_rfl) (by kernel_rfl) (by kernel_rfl) (fun _ _ _ h => h) (Or.inl ⟨by rfl, ?_⟩) (by assumption) ?_
      rotate_left
      · (intro w hSw; (try dsimp only at hSw); go_simp; try with_reducible rfl)
      try simp only [Act.put, List.setIfInBounds_toArray, List.set_cons_zero, List.set_cons_succ]
      refine wpAnyH_take (i := 17) (oi := ⟨some 31, _, _, _, _, _⟩) (v := ?_) rfl (by kernel_rfl) (by kernel_rfl) (by kernel_rfl) (fun _ _ _ h => h) (Or.inl ⟨by rfl, ?_⟩) (by assumption) ?_
      rotate_left
      · (intro w hSw; (try dsimp only at hSw); go_simp; try with_reducible rfl)
      try simp only [Act.put, List.setIfInBounds_toArray, List.set_cons_zero, List.set_cons_succ]
      refine wpAnyH_take (i := 18) (oi := ⟨some 32, _, _, _, _, _⟩) (v := ?_) rfl (by kernel_rfl) (by kernel_rfl) (by kernel_rfl) (fun _ _ _ h => h) (Or.inl ⟨by rfl, ?_⟩) (by assumption) ?_
      rotate_left
      · (intro w hSw; (try dsimp only at hSw); go_simp; try with_reducible rfl)
      try simp only [Act.put, List.setIfInBounds_toArray, List.set_cons_zero, List.set_cons_succ]
      refine wpAnyH_take (i := 19) (oi := ⟨some 33, _, _, _, _, _⟩) (v := ?_) rfl (by kernel_rfl) (by kernel_rfl) (by kernel_rfl) (fun _ _ _ h => h) (Or.inl ⟨by rfl, ?_⟩) (by assumption) ?_
      rotate_left
      · (intro w hSw; (try dsimp only at hSw); go_simp; try with_reducible rfl)
      try simp only [Act.put, List.setIfInBounds_toArray, List.set_cons_zero, List.set_cons_succ]
      refine wpAnyH_take (i := 24) (oi := ⟨some 38, _, _, _, _, _⟩) (v := ?_) rfl (by kernel_rfl) (by kernel_rfl) (by kernel_rfl) (fun _ _ _ h => h) (Or.inl ⟨by rfl, ?_⟩) (by assumption) ?_
      rotate_left
      · (intro w hSw; (try dsimp only at hSw); go_simp; try with_reducible rfl)
      try simp only [Act.put, List.setIfInBounds_toArray, List.set_cons_zero, List.set_cons_succ]
      refine wpAnyH_ready (rs := [25]) (by kernel_rfl) (by simp) ?_
      refine AllReadyH.cons (o := ⟨some 39, _, _, _, _, _⟩) rfl (fun K hK => ?_) AllReadyH.nil
      refine step_append_rd _ rfl (.tmp 14) (.tmp 38) _ (by rfl) w.heap.size 4 i0 _ 1 1 Try.underlying33 HI0.out HZ0.out HZ1.out HZ2.out rfl (by decide) _ n0 _ (by rfl) HO4.out _ _ (p.t - p.f) _ _ (by rfl) hrd (by intro u hu; obtain ⟨_, _, rfl⟩ := List.mem_map.1 hu; rfl) (by unfold maxLen; omega) (by omega) hs4 ?_
      intro v' w5 ho5 hg5
      have HO5 := Lib.hid ho5
      have HB5 := Lib.hid (HB4.out.grown hg5 hs4 (fun j hj => (HO4.out.lt j hj).1))
      have HS5 := Lib.hid (HSB.out w5 HB5.out (grown_cell8 HO4.out hg5 HG4.out (by decide)))
      clear ho5 hg5
      refine hK.out _ _ ?_ (fun hHeld => ?_)
      · (try dsimp only); first | exact HS2.out | exact HS4.out | exact HS5.out
      clear hK K
      try simp only [Act.put, List.setIfInBounds_toArray, List.set_cons_zero, List.set_cons_succ]
      refine wpAnyH_take (i := 26) (oi := ⟨some 5, _, _, _, _, _⟩) (v := ?_) rfl (by kernel_rfl) (by kernel_rfl) (by kernel_rfl) (fun _ _ _ h => h) (Or.inl ⟨by rfl, ?_⟩) (by assumption) ?_
      rotate_left
      · (intro w hSw; (try dsimp only at hSw); go_simp; try with_reducible rfl)
      try simp only [Act.put, List.setIfInBounds_toArray, List.set_cons_zero, List.set_cons_succ]
      refine wpAnyH_done (by kernel_rfl) ?_ _
      go_wp2_with fail
      go_roundw
      case rel => exact ⟨i + 1, by omega, by go_num, by rw [HTK.out, List.map_append, List.length_append, ← HN0.out, show (bitsP s.j.keys p).length = p.t - p.f from by rw [HPB.out, List.length_take, List.length_drop]; omega]; exact HO5.out, HB5.out⟩
      case measure => simp [intOf]; omega
-- REGION>
    · have hki : ¬ (i : Int) < (ps.length : Int) := by omega
      obtain rfl : i = ps.length := by omega
      go_wp2_with fail
      go_ret
      have h := HO.out
      rw [List.take_of_length_le (Nat.le_refl _)] at h
      exact ⟨_, rfl, h, HB.out⟩
#print axioms bits_any
end Go.Proofs.Ytdgmjedkhjeadaa
/- Take, plainly. Conditions: as each statement says. -/
namespace Go.Proofs.Ytdgmjedkhjeadaa
set_option linter.unusedVariables false
/-- A state is as a store may have it. -/
structure JnW (j : Jn) : Prop where
  inc : j.keys.Pairwise (fun a b => a.id < b.id)
  key : ∀ k ∈ j.keys, 1 ≤ k.id ∧ k.id ≤ j.last ∧ k.bits.length = k.used.length ∧ 1 ≤ k.used.length ∧ k.used.length ≤ 512
  last : j.last ≤ 2147483647
  tail : j.tail.kind = 1 → 320 < j.tail.a → j.tail.id = j.last ∧ 1 ≤ j.last ∧ (∀ k ∈ j.keys, k.id < j.last) ∧ j.tail.a ≤ 512
theorem unpB_length {b : List Nat} {n : Nat} {l : List Bool} (h : unpB b n = some l) : l.length = n := by
  unfold unpB at h
  split at h
  · injection h with h; subst h; exact unL_len _ _
  · cases h
theorem JnW.zero (p : Nat) : JnW (Jn.zero p) := ⟨by simp [Jn.zero], by simp [Jn.zero], by simp [Jn.zero], fun h => by simp [Jn.zero, rc0] at h⟩
/-- A key is added. -/
theorem JnW.snoc {ks : List Ky} {k : Ky} (h : ks.Pairwise (fun a b => a.id < b.id)) (hk : ∀ x ∈ ks, x.id < k.id) : (ks ++ [k]).Pairwise (fun a b => a.id < b.id) := by
  rw [List.pairwise_append]
  refine ⟨h, by simp, fun a ha b hb => ?_⟩
  rw [List.mem_singleton] at hb
  subst hb
  exact hk a ha
theorem markU_len8 (u : List Bool) (a b : Nat) (h1 : a ≤ b) (h2 : b ≤ u.length) : (markU u a b).length = u.length := by
  unfold markU
  simp only [List.length_append, List.length_take, List.length_replicate, List.length_drop]
  omega
theorem getD_some {α : Type} {l : List α} {i : Nat} {x z : α} (h : l[i]? = some x) : l.getD i z = x := by
  rw [List.getD_eq_getElem?_getD, h]; rfl
theorem JnW.follow {j j' : Jn} {r : Rc} (h : JnW j) (hr : RcG r) (hf : j.follow r = some j') : JnW j' := by
  obtain ⟨j1, h1, rfl⟩ := follow_some hf
  obtain ⟨hi, hk, hl, ht⟩ := h
  have e2 := hr.id
  unfold Jn.step at h1
  rcases hr.form with ⟨e, g1, g2, g3, _⟩ | ⟨e, g1, g2, _⟩ | ⟨e, g1, _⟩ | ⟨e, g1, _⟩ | ⟨e, g1, _⟩
  · rw [if_pos e] at h1
    split at h1
    · cases h1
    · rename_i hid
      split at h1
      · injection h1 with h1; subst h1
        exact ⟨hi, fun k hk2 => by have := hk k hk2; exact ⟨this.1, by show k.id ≤ r.id; omega, this.2.2⟩, hr.id, fun _ _ => ⟨rfl, g1, fun k hk2 => by have := hk k hk2; show k.id < r.id; omega, g3⟩⟩
      · rename_i ha
        unfold Jn.add at h1
        rw [Option.map_eq_some_iff] at h1
        obtain ⟨bits, hb, rfl⟩ := h1
        have hbl := unpB_length hb
        refine ⟨JnW.snoc hi fun x hx => ?_, fun k hk2 => ?_, hr.id, fun _ h2 => absurd h2 ha⟩
        · have := hk x hx; show x.id < r.id; omega
        · rcases List.mem_append.1 hk2 with hk2 | hk2
          · have := hk k hk2; exact ⟨this.1, by show k.id ≤ r.id; omega, this.2.2⟩
          · rw [List.mem_singleton] at hk2
            subst hk2
            exact ⟨g1, Nat.le_refl _, by dsimp only; rw [hbl, List.length_replicate], by dsimp only; rw [List.length_replicate]; omega, by dsimp only; rw [List.length_replicate]; omega⟩
  · rw [if_neg (by omega), if_pos e] at h1
    split at h1
    · rename_i hc
      obtain ⟨t1, t2, t3, t4⟩ := ht hc.1 hc.2
      unfold Jn.add at h1
      rw [Option.map_eq_some_iff] at h1
      obtain ⟨bits, hb, rfl⟩ := h1
      have hbl := unpB_length hb
      refine ⟨JnW.snoc hi fun x hx => ?_, fun k hk2 => ?_, hl, fun h2 => by dsimp only at h2; omega⟩
      · have := t3 x hx; show x.id < j.tail.id; omega
      · rcases List.mem_append.1 hk2 with hk2 | hk2
        · exact hk k hk2
        · rw [List.mem_singleton] at hk2
          subst hk2
          exact ⟨by dsimp only; omega, by dsimp only; omega, by dsimp only; rw [hbl, List.length_replicate], by dsimp only; rw [List.length_replicate]; omega, by dsimp only; rw [List.length_replicate]; omega⟩
    · cases h1
  · rw [if_neg (by omega), if_neg (by omega), if_pos e] at h1
    split at h1
    · cases h1
    · rename_i i hi2
      obtain ⟨k0, hk0, hid0, hlt⟩ := findK_get hi2
      dsimp only at h1
      rw [getD_some hk0] at h1
      split at h1
      · cases h1
      · rename_i hc
        injection h1 with h1; subst h1
        have hm := hk k0 (List.mem_of_getElem? hk0)
        have hids : (j.keys.set i { k0 with used := markU k0.used r.a r.b }).map (·.id) = j.keys.map (·.id) := by
          rw [List.map_set]
          refine List.ext_getElem? fun n => ?_
          rw [List.getElem?_set]
          split
          · rename_i e; subst e
            rw [if_pos (by rw [List.length_map]; exact hlt), List.getElem?_map, hk0]; rfl
          · rfl
        refine ⟨?_, fun k hk2 => ?_, hl, fun h2 => by dsimp only at h2; omega⟩
        · have h3 := (List.pairwise_map (f := Ky.id) (R := fun a b : Nat => a < b)).2 hi
          rw [← hids] at h3
          exact List.pairwise_map.1 h3
        · rcases List.mem_or_eq_of_mem_set hk2 with hk2 | rfl
          · exact hk k hk2
          · dsimp only
            rw [markU_len8 _ _ _ (by omega) (by omega)]
            exact hm
  · rw [if_neg (by omega), if_neg (by omega), if_neg (by omega), if_pos e] at h1
    rw [Option.map_eq_some_iff] at h1
    obtain ⟨i, hi2, rfl⟩ := h1
    exact ⟨hi.sublist (List.eraseIdx_sublist _ _), fun k hk2 => hk k (List.mem_of_mem_eraseIdx hk2), hl, fun h2 => by dsimp only at h2; omega⟩
  · rw [if_neg (by omega), if_neg (by omega), if_neg (by omega), if_neg (by omega)] at h1
    split at h1
    · cases h1
    · rename_i hc
      injection h1 with h1; subst h1
      exact ⟨hi, fun k hk2 => by have := hk k hk2; exact ⟨this.1, by show k.id ≤ r.id; omega, this.2.2⟩, hr.id, fun h2 => by dsimp only at h2; omega⟩
theorem JnW.find {j : Jn} (h : JnW j) {i : Nat} {k : Ky} (hk : j.keys[i]? = some k) : findK j.keys k.id = some i := by
  refine fidx_some hk rfl fun i' k' hi hk' e => ?_
  have h2 := List.pairwise_iff_getElem.1 h.inc i' i (List.getElem?_eq_some_iff.1 hk').1 (List.getElem?_eq_some_iff.1 hk).1 hi
  rw [(List.getElem?_eq_some_iff.1 hk').2, (List.getElem?_eq_some_iff.1 hk).2] at h2
  omega
/-- A piece of a key. -/
def PcG (keys : List Ky) (p : Pc) : Prop := ∃ k ∈ keys, p.id = k.id ∧ p.f < p.t ∧ p.t ≤ k.used.length
theorem endB_lt (l : List Bool) (v : Bool) {k i : Nat} (hk : 0 < k) (h : l[i]? = some v) : i < endB l v k i := by
  obtain ⟨k, rfl⟩ : ∃ m, k = m + 1 := ⟨k - 1, by omega⟩
  rw [endB, if_pos h]
  have := (endB_le l v k (i + 1)).1
  omega
theorem runsB_mem (l : List Bool) (v : Bool) (hi : Nat) : ∀ f i x, x ∈ runsB l v hi f i → i ≤ x.1 ∧ x.1 < x.2 ∧ x.2 ≤ hi
  | 0, _, x, h => by simp [runsB] at h
  | f + 1, i, x, h => by
    rw [runsB] at h
    split at h
    · simp at h
    · rename_i hlt
      split at h
      · rename_i hv
        have h1 := endB_le l v (hi - i) i
        rcases List.mem_cons.1 h with rfl | h
        · exact ⟨Nat.le_refl _, endB_lt l v (by omega) hv, by dsimp only; omega⟩
        · have := runsB_mem l v hi f _ x h
          exact ⟨by omega, this.2⟩
      · have := runsB_mem l v hi f _ x h
        exact ⟨by omega, this.2⟩
theorem freeL_good {keys : List Ky} {side : Int} {p : Pc} (h : p ∈ freeL keys side) : PcG keys p := by
  unfold freeL at h
  obtain ⟨k, hk, h⟩ := List.mem_flatMap.1 h
  unfold freeK runsL at h
  obtain ⟨x, hx, rfl⟩ := List.mem_map.1 h
  have h1 := runsB_mem _ _ _ _ _ _ hx
  have h2 := laneN_le k.used.length side
  exact ⟨k, hk, rfl, h1.2.1, by dsimp only; omega⟩
/-- One piece is taken: the pieces, and how many bits are still wanted. -/
def tkT (p : Pc) (r : Nat) : Nat := min p.t (p.f + min r 512)
def tkStep (q : List Pc × Nat) (p : Pc) : List Pc × Nat := (q.1 ++ [⟨p.id, p.f, tkT p q.2⟩], q.2 - (tkT p q.2 - p.f))
def takeG : List Pc → List Pc × Nat → List Pc × Nat
  | [], q => q
  | p :: ps, q => if q.2 = 0 then q else takeG ps (tkStep q p)
theorem takeG_zero (ps : List Pc) {q : List Pc × Nat} (h : q.2 = 0) : takeG ps q = q := by
  cases ps with
  | nil => rfl
  | cons p ps => rw [takeG, if_pos h]
theorem takeG_append : ∀ (ps rs : List Pc) (q : List Pc × Nat), takeG (ps ++ rs) q = takeG rs (takeG ps q)
  | [], rs, q => rfl
  | p :: ps, rs, q => by
    rw [List.cons_append, takeG]
    split
    · rename_i h
      rw [takeG_zero (p :: ps) h, takeG_zero rs h]
    · rename_i h
      rw [takeG_append ps rs, takeG, if_neg h]
theorem takeG_snoc (ps : List Pc) (p : Pc) {q : List Pc × Nat} (h : (takeG ps q).2 ≠ 0) : takeG (ps ++ [p]) q = tkStep (takeG ps q) p := by
  rw [takeG_append, takeG, if_neg h]; rfl
theorem takeG_pre {ps all : List Pc} {q : List Pc × Nat} (hp : ps <+: all) (h : (takeG ps q).2 = 0) : takeG all q = takeG ps q := by
  obtain ⟨t, rfl⟩ := hp
  rw [takeG_append, takeG_zero t h]
theorem tkT_le {p : Pc} {r : Nat} (hp : p.f < p.t) (hr : r ≠ 0) : p.f < tkT p r ∧ tkT p r ≤ p.t ∧ tkT p r - p.f ≤ r ∧ tkT p r - p.f ≤ 512 := by unfold tkT; omega
theorem takeG_good {keys : List Ky} : ∀ (ps : List Pc) (q : List Pc × Nat), (∀ p ∈ ps, PcG keys p) → (∀ p ∈ q.1, PcG keys p) → ∀ p ∈ (takeG ps q).1, PcG keys p
  | [], q, _, h => h
  | p :: ps, q, h, g => by
    rw [takeG]
    split
    · exact g
    · rename_i hq
      refine takeG_good ps _ (fun x hx => h x (by simp [hx])) fun x hx => ?_
      rcases List.mem_append.1 hx with hx | hx
      · exact g x hx
      · rw [List.mem_singleton] at hx
        subst hx
        obtain ⟨k, hk, h1, h2, h3⟩ := h p (by simp)
        have := tkT_le h2 hq
        exact ⟨k, hk, h1, by dsimp only; omega, by dsimp only; omega⟩
def pcsN (l : List Pc) : Nat := (l.map fun p => p.t - p.f).foldr (· + ·) 0
theorem pcsN_append (a b : List Pc) : pcsN (a ++ b) = pcsN a + pcsN b := by
  induction a with
  | nil => simp [pcsN]
  | cons x a ih => simp only [pcsN, List.cons_append, List.map_cons, List.foldr_cons] at ih ⊢; omega
theorem takeG_sum : ∀ (ps : List Pc) (q : List Pc × Nat), (∀ p ∈ ps, p.f < p.t) → pcsN (takeG ps q).1 + (takeG ps q).2 = pcsN q.1 + q.2
  | [], q, _ => rfl
  | p :: ps, q, h => by
    rw [takeG]
    split
    · rfl
    · rename_i hq
      rw [takeG_sum ps _ fun x hx => h x (by simp [hx])]
      have := tkT_le (h p (by simp)) hq
      unfold tkStep
      dsimp only
      rw [pcsN_append]
      simp only [pcsN, List.map_cons, List.map_nil, List.foldr_cons, List.foldr_nil]
      omega
theorem pcsN_len {l : List Pc} (h : ∀ p ∈ l, p.f < p.t) : l.length ≤ pcsN l := by
  induction l with
  | nil => simp
  | cons x l ih =>
    have h1 := ih fun p hp => h p (by simp [hp])
    have h2 := h x (by simp)
    simp only [pcsN, List.map_cons, List.foldr_cons, List.length_cons] at h1 ⊢
    omega
theorem PcG.lt {keys : List Ky} {p : Pc} (h : PcG keys p) : p.f < p.t := by obtain ⟨k, _, _, h, _⟩ := h; exact h
theorem takeG_bound {keys : List Ky} {ps : List Pc} {n : Nat} (h : ∀ p ∈ ps, PcG keys p) : (takeG ps ([], n)).1.length ≤ n ∧ pcsN (takeG ps ([], n)).1 ≤ n ∧ (takeG ps ([], n)).2 ≤ n := by
  have h1 := takeG_sum ps ([], n) fun p hp => (h p hp).lt
  have h2 := pcsN_len fun p hp => (takeG_good (keys := keys) ps ([], n) h (by simp) p hp).lt
  have h3 : pcsN (([] : List Pc), n).1 = 0 := rfl
  rw [h3] at h1
  dsimp only at h1
  omega
/-- The keys' ids and bits. -/
def shK (ks : List Ky) : List (Nat × List Bool) := ks.map fun k => (k.id, k.bits)
theorem findK_sh {a b : List Ky} (h : shK a = shK b) (id : Nat) : findK a id = findK b id := by
  unfold findK
  have e : ∀ l : List Ky, l.findIdx? (fun k => k.id == id) = (shK l).findIdx? (fun x => x.1 == id) := fun l => by
    unfold shK; rw [List.findIdx?_map]; rfl
  rw [e, e, h]
theorem bitsP_sh {a b : List Ky} (h : shK a = shK b) (p : Pc) : bitsP a p = bitsP b p := by
  have e : ∀ (l : List Ky), bitsP l p = match findK l p.id with | some i => (match (shK l)[i]? with | some k => (k.2.drop p.f).take (p.t - p.f) | none => []) | none => [] := fun l => by
    unfold bitsP shK
    cases findK l p.id with
    | none => rfl
    | some i => dsimp only; rw [List.getElem?_map]; cases l[i]? <;> rfl
  rw [e, e, findK_sh h, h]
theorem bitsL_sh {a b : List Ky} (h : shK a = shK b) (ps : List Pc) : bitsL a ps = bitsL b ps := by
  unfold bitsL
  congr 1
  exact funext fun p => bitsP_sh h p
theorem follow_claim {j j' : Jn} {r : Rc} (hr : r.kind = 3) (h : j.follow r = some j') : shK j'.keys = shK j.keys := by
  obtain ⟨j1, h1, rfl⟩ := follow_some h
  rw [step3 j r hr] at h1
  unfold Jn.claimR at h1
  split at h1
  · cases h1
  · rename_i i hi
    obtain ⟨k0, hk0, _, hlt⟩ := findK_get hi
    dsimp only at h1
    rw [getD_some hk0] at h1
    split at h1
    · cases h1
    · injection h1 with h1; subst h1
      dsimp only
      unfold shK
      rw [List.map_set]
      refine List.ext_getElem? fun n => ?_
      rw [List.getElem?_set]
      split
      · rename_i e; subst e
        rw [if_pos (by rw [List.length_map]; exact hlt), List.getElem?_map, hk0]; rfl
      · rfl
theorem write_claim (d : Dk) (s : StM) (r : Rc) (hr : r.kind = 3) : shK (s.write d r).2.2.j.keys = shK s.j.keys := by
  unfold StM.write
  dsimp only
  split
  · rfl
  · dsimp only
    cases hf : s.j.follow (r.at' s.epoch) with
    | none => rfl
    | some j' => exact follow_claim (r := r.at' s.epoch) hr hf
theorem writes_claim : ∀ (rs : List Rc) (d : Dk) (s : StM), (∀ r ∈ rs, r.kind = 3) → shK (StM.writes d s rs).2.2.j.keys = shK s.j.keys
  | [], d, s, _ => rfl
  | r :: rs, d, s, h => by
    rw [StM.writes]
    split
    · exact write_claim d s r (h r (by simp))
    · rw [writes_claim rs _ _ fun x hx => h x (by simp [hx])]
      exact write_claim d s r (h r (by simp))
theorem commit_claim (d : Dk) (s : StM) (rs : List Rc) (h : ∀ r ∈ rs, r.kind = 3) : shK (s.commit d rs).2.2.j.keys = shK s.j.keys := by
  unfold StM.commit
  split
  · rfl
  · dsimp only
    unfold StM.commitW
    split
    · exact writes_claim rs d s h
    · exact writes_claim rs d s h
/-- Take: what it answers, the pieces, their bits; the disk and the store behind it. -/
def StM.takeR (d : Dk) (s : StM) (n : Int) : Int × List Pc × List Bool × Dk × StM :=
  if s.age ≠ d.age then (13, [], [], d, s)
  else if n < 1 then (2, [], [], d, s)
  else
    let q := takeG (freeL s.j.keys s.j.side) ([], n.toNat)
    if 0 < q.2 then (14, [], [], d, s)
    else
      let c := s.commit d (q.1.map clmR)
      if c.1 ≠ 0 then (c.1, [], [], c.2.1, c.2.2) else (0, q.1, bitsL c.2.2.j.keys q.1, c.2.1, c.2.2)
theorem clm_good {j : Jn} (h : JnW j) {p : Pc} (hp : PcG j.keys p) (e : Nat) (h1 : 1 ≤ e) (h2 : e < 4294967296) : RcG ((clmR p).at' e) := by
  obtain ⟨k, hk, g1, g2, g3⟩ := hp
  have := h.key k hk
  have hl := h.last
  exact ⟨h1, h2, by show p.id ≤ _; omega, by simp [clmR, Rc.at'], .inr (.inr (.inl ⟨rfl, by show 1 ≤ p.id; omega, by show p.f < _; omega, by show p.t < _; omega, rfl⟩))⟩
theorem PcG.bits {j : Jn} (h : JnW j) {ks : List Ky} (hs : shK ks = shK j.keys) {p : Pc} (hp : PcG j.keys p) : ∃ q k, findK ks p.id = some q ∧ ks[q]? = some k ∧ p.f ≤ p.t ∧ p.t ≤ k.bits.length := by
  obtain ⟨k, hk, g1, g2, g3⟩ := hp
  obtain ⟨i, hi, rfl⟩ := List.mem_iff_getElem.1 hk
  have hki : j.keys[i]? = some j.keys[i] := List.getElem?_eq_getElem hi
  have hf := h.find hki
  have h4 := (h.key _ hk).2.2.1
  have he := congrArg (fun l => l[i]?) hs
  unfold shK at he
  simp only [List.getElem?_map, hki, Option.map_some] at he
  cases hq : ks[i]? with
  | none => rw [hq] at he; cases he
  | some k' =>
    rw [hq] at he
    simp only [Option.map_some, Option.some.injEq, Prod.mk.injEq] at he
    exact ⟨i, k', by rw [findK_sh hs, g1]; exact hf, hq, by omega, by rw [he.2]; omega⟩
theorem bitsP_len {j : Jn} (h : JnW j) {ks : List Ky} (hs : shK ks = shK j.keys) {p : Pc} (hp : PcG j.keys p) : (bitsP ks p).length = p.t - p.f := by
  obtain ⟨q, k, h1, h2, h3, h4⟩ := hp.bits h hs
  unfold bitsP
  rw [h1]
  dsimp only
  rw [h2]
  dsimp only
  rw [List.length_take, List.length_drop]
  omega
theorem bitsL_len {j : Jn} (h : JnW j) {ks : List Ky} (hs : shK ks = shK j.keys) {ps : List Pc} (hp : ∀ p ∈ ps, PcG j.keys p) : (bitsL ks ps).length = pcsN ps := by
  induction ps with
  | nil => rfl
  | cons p ps ih =>
    have h1 := ih fun x hx => hp x (by simp [hx])
    have h2 := bitsP_len h hs (hp p (by simp))
    unfold bitsL pcsN at h1 ⊢
    rw [List.flatMap_cons, List.length_append, h1, h2]
    rfl
#print axioms bitsL_len
end Go.Proofs.Ytdgmjedkhjeadaa
/- The contract of Take. Conditions: as the statement says. -/
namespace Go.Proofs.Ytdgmjedkhjeadaa
open Go.RowKit
set_option linter.unusedVariables false
attribute [local go_sem] Oper.semAt_some
def pcC (ps : List Pc) : List Value := ps.flatMap fun p => [.int .i64 (p.id : Int), .int .i64 (p.f : Int), .int .i64 (p.t : Int)]
/-- What a store that is used must be like. -/
structure UseW (d : Dk) (s : StM) : Prop where
  u : UseOK d s
  e : 1 ≤ s.epoch
  w : JnW s.j
def TakP (D S bs bm cp : Nat) (p : Option Addr) (F B : List Nat) (q : Int × List Pc × List Bool × Dk × StM) (w : World) (e : Ending) (w' : World) : Prop :=
  ∃ v bv, e = .returned (.tuple #[v, bv, .int .i64 q.1]) ∧ w'.ownsRow w.heap.size 45 3 v q.2.1.length (pcC q.2.1) ∧ w'.ownsRow w.heap.size 4 1 bv q.2.2.1.length (q.2.2.1.map Value.bool) ∧
    SysM w w' D S bs bm cp p F B [] q.2.2.2.1 q.2.2.2.2
/-- The state of Take's range: the numbers, the pieces. -/
def TkS (w w4 : World) (bn bl : Nat) (q : List Pc × Nat) (W : World) : Prop :=
  ∃ v, Bk W bn #[.int .i64 (q.2 : Int)] 3 ∧ Bk W bl #[v] 34 ∧ W.ownsRow w.heap.size 45 3 v q.1.length (pcC q.1) ∧ Below w.heap.size w W ∧ w4.heap.size ≤ W.heap.size
theorem bk_iter {X Y : World} {row : Option Nat} {n₀ b : Nat} {cs : Array Value} {t : TypeId} (h : Bk X b cs t) (hg : X.grownBy Y row) (hr : ∀ r, row = some r → n₀ ≤ r ∧ ∃ o : Obj, X.heap[r]? = some o ∧ o.isCells = false) : Bk Y b cs t :=
  (hg.block b h.lt (fun e => by
    obtain ⟨_, o, h1, h2⟩ := hr b e.symm
    unfold Bk at h
    rw [h] at h1; cases h1; cases h2)).trans h
theorem own_iter {X Y : World} {row : Option Nat} {n₀ B sz n : Nat} {t : TypeId} {v : Value} {xs : List Value} (h : X.ownsRow B t sz v n xs) (hg : X.grownBy Y row) (hr : ∀ r, row = some r → n₀ ≤ r ∧ ∃ o : Obj, X.heap[r]? = some o ∧ o.isCells = false) : Y.ownsRow B t sz v n xs := by
  refine ⟨h.1, ?_⟩
  rcases h.2 with h1 | ⟨g, cap, cur, h1, h2, h3, h4⟩
  · exact .inl h1
  · exact .inr ⟨g, cap, cur, h1, h2, bk_iter (show Bk X g cur t from h3) hg hr, h4⟩
theorem TkS.iter {w w4 X Y : World} {bn bl : Nat} {q : List Pc × Nat} {row : Option Nat} {n₀ : Nat} (h : TkS w w4 bn bl q X) (hs : w.heap.size ≤ n₀) (hg : X.grownBy Y row) (hr : ∀ r, row = some r → n₀ ≤ r ∧ ∃ o : Obj, X.heap[r]? = some o ∧ o.isCells = false) : TkS w w4 bn bl q Y := by
  obtain ⟨v, h1, h2, h3, h4, h5⟩ := h
  exact ⟨v, bk_iter h1 hg hr, bk_iter h2 hg hr, own_iter h3 hg hr, h4.grown hg h4.size (fun j hj => Nat.le_trans hs (hr j hj).1), Nat.le_trans h5 hg.size⟩
theorem TkS.fresh {w w4 X Y : World} {bn bl : Nat} {q : List Pc × Nat} (h : TkS w w4 bn bl q X) (hb : Below X.heap.size X Y) : ∃ v, Bk Y bl #[v] 34 ∧ v.ownBlock ≠ some X.heap.size := by
  obtain ⟨v, h1, h2, h3, h4, h5⟩ := h
  exact ⟨v, h2.past hb h2.lt, fun e => by have := own_lt h3 _ (mem_ob.2 e); omega⟩
theorem TkS.size {w w4 X : World} {bn bl : Nat} {q : List Pc × Nat} (h : TkS w w4 bn bl q X) : w4.heap.size ≤ X.heap.size := by
  obtain ⟨v, h1, h2, h3, h4, h5⟩ := h
  exact h5
theorem elP8 : ElemB Try.prog 34 45 3 24 := ElemB.of Try.underlying34 (by kernel_rfl : (Try.prog.info? 45).map (fun i => (i.zero, i.size, i.bytes)) = some (some (.agg #[.int .i64 0, .int .i64 0, .int .i64 0]), 3, 24)) rfl (by decide)
theorem keepL_grown {X Y : World} {v : Value} (h : X.grownBy Y v.ownBlock) : KeepL (ob v) X Y := ⟨h.os, h.tape, h.output, h.size, fun k hk hL => h.block k hk (fun e => hL (mem_ob.2 e.symm))⟩
theorem keepsFrom_L {L : List Nat} {X Y : World} (B : Nat) (h : KeepL L X Y) (hL : ∀ k ∈ L, ∃ cs t, Bk X k cs t) : KeepsFrom B X Y := ⟨h.size, fun k o _ ho hc => (h.block k (Array.getElem?_eq_some_iff.1 ho).1 (fun hm => by
  obtain ⟨cs, t, hb⟩ := hL k hm
  unfold Bk at hb
  rw [ho] at hb; cases hb; cases hc)).trans ho⟩
theorem kpS_L {L : List Nat} {X Y : World} {bn : Nat} (h : KeepL L X Y) (hL : ∀ k ∈ L, ∃ cs t, Bk X k cs t ∧ (t = 34 ∨ t = 45 ∨ t = 71 ∨ t = 60 ∨ k = bn)) (hbn : ∃ cs, Bk X bn cs 3) : KpS [bn] X Y := ⟨h.size, fun b cs t hb h1 h2 h3 h4 h5 => hb.keepL h (fun hm => by
  obtain ⟨cs', t', hb', ht⟩ := hL b hm
  have e : t = t' := by
    unfold Bk at hb hb'
    rw [hb] at hb'; cases hb'; rfl
  rcases ht with rfl | rfl | rfl | rfl | rfl
  · exact h1 e
  · exact h2 e
  · exact h3 e
  · exact h4 e
  · obtain ⟨cs2, hb2⟩ := hbn
    have e2 : t = 3 := by
      unfold Bk at hb hb2
      rw [hb] at hb2; cases hb2; rfl
    exact h5 e2 (by simp))⟩
theorem bk_uniq {X : World} {b : Nat} {c1 c2 : Array Value} {t : TypeId} (h : Bk X b c1 t) (k : Bk X b c2 t) : c1 = c2 := by
  unfold Bk at h k
  rw [h] at k; cases k; rfl
theorem nob_ty {X : World} {B sz n b : Nat} {t t' : TypeId} {v : Value} {xs : List Value} {cs : Array Value} (h : X.ownsRow B t sz v n xs) (hb : Bk X b cs t') (ht : t' ≠ t) : b ∉ ob v := fun hm => by
  obtain ⟨cs', hc⟩ := own_bk h b hm
  exact hb.ne hc ht rfl
theorem nob_bl {X : World} {B sz n b : Nat} {v u : Value} {xs : List Value} (h : X.ownsRow B 45 sz v n xs) (hb : Bk X b #[u] 34) : b ∉ ob v := nob_ty h hb (by decide)
theorem pcC_append (a b : List Pc) : pcC (a ++ b) = pcC a ++ pcC b := by unfold pcC; rw [List.flatMap_append]
section
variable {w w' : World} {S D : Nat} {d : Dk} {s : StM} {bs bm cp : Nat} {p : Option Addr} {F B : List Nat}
theorem DkAt.iter {X Y : World} {row : Option Nat} {n₀ : Nat} (h : DkAt X D d bs bm cp p) (hbm : bm < n₀) (hg : X.grownBy Y row) (hr : ∀ r, row = some r → n₀ ≤ r ∧ ∃ o : Obj, X.heap[r]? = some o ∧ o.isCells = false) : DkAt Y D d bs bm cp p := by
  obtain ⟨h1, h2, ⟨sp, h3⟩, ⟨l, h4⟩, h5⟩ := h
  refine ⟨h1, bk_iter h2 hg hr, ⟨sp, bk_iter h3 hg hr⟩, ⟨l, h4.keep (hg.block _ h4.lt (fun e => by have := (hr _ e.symm).1; omega))⟩, ?_⟩
  revert h5
  cases d.plan with
  | none => exact fun h => h
  | some q =>
    rintro ⟨bp, kv, rfl, h6, A, c, h7, h8⟩
    refine ⟨bp, kv, rfl, bk_iter h6 hg hr, A, c, h7, fun hk => ?_⟩
    obtain ⟨g, C, e1, e2, e3⟩ := h8 hk
    exact ⟨g, C, e1, bk_iter e2 hg hr, e3⟩
theorem StIn.iter {X Y : World} {row : Option Nat} {n₀ : Nat} (h : StIn X S D s F B) (hg : X.grownBy Y row) (hr : ∀ r, row = some r → n₀ ≤ r ∧ ∃ o : Obj, X.heap[r]? = some o ∧ o.isCells = false) : StIn Y S D s F B := by
  obtain ⟨T, kv, xs, tb, tc, h1, rfl, rfl⟩ := h
  exact ⟨T, kv, xs, tb, tc, ⟨bk_iter h1.blk hg hr, h1.js.kp (L := []) (KpS.grown hg fun r e => (hr r e).2), h1.ok⟩, rfl, rfl⟩
theorem SysM.iter {X Y : World} {row : Option Nat} {X' : List Nat} {d' : Dk} {s' : StM} (hbm : bm < w.heap.size) (h : SysM w X D S bs bm cp p F B X' d' s') (hg : X.grownBy Y row) (hr : ∀ r, row = some r → w.heap.size ≤ r ∧ ∃ o : Obj, X.heap[r]? = some o ∧ o.isCells = false) : SysM w Y D S bs bm cp p F B X' d' s' := by
  obtain ⟨⟨p1, h1, h2⟩, ⟨F1, B1, h3, h4, h5⟩, h6⟩ := h
  exact ⟨⟨p1, h1.iter hbm hg hr, h2⟩, ⟨F1, B1, h3.iter hg hr, h4, h5⟩, ⟨hg.os.trans h6.os, hg.tape.trans h6.tape, hg.output.trans h6.output, Nat.le_trans h6.size hg.size, fun j h7 h8 =>
    (hg.block j (Nat.lt_of_lt_of_le h7 h6.size) (fun e => by have := (hr _ e.symm).1; omega)).trans (h6.block j h7 h8)⟩⟩
theorem TakP.iter {X Y : World} {row : Option Nat} {e : Ending} {q : Int × List Pc × List Bool × Dk × StM} (hbm : bm < w.heap.size) (h : TakP D S bs bm cp p F B q w e X) (hg : X.grownBy Y row) (hr : ∀ r, row = some r → w.heap.size ≤ r ∧ ∃ o : Obj, X.heap[r]? = some o ∧ o.isCells = false) : TakP D S bs bm cp p F B q w e Y := by
  obtain ⟨v, bv, h1, h2, h3, h4⟩ := h
  exact ⟨v, bv, h1, own_iter h2 hg hr, own_iter h3 hg hr, h4.iter hbm hg hr⟩
theorem pcC_get : ∀ (ps : List Pc) (i j : Nat) (p : Pc), ps[i]? = some p → j < 3 → (pcC ps)[i * 3 + j]? = [Value.int .i64 (p.id : Int), .int .i64 (p.f : Int), .int .i64 (p.t : Int)][j]?
  | [], i, j, p, h, _ => by simp at h
  | y :: ps, 0, j, p, h, hj => by
    simp only [List.getElem?_cons_zero, Option.some.injEq] at h
    subst h
    unfold pcC
    rw [List.flatMap_cons, Nat.zero_mul, Nat.zero_add, List.getElem?_append_left (by simpa using hj)]
  | y :: ps, i + 1, j, p, h, hj => by
    have ih := pcC_get ps i j p (by simpa using h) hj
    unfold pcC at ih ⊢
    rw [List.flatMap_cons, List.getElem?_append_right (by simp; omega)]
    simp only [List.length_cons, List.length_nil]
    rw [show (i + 1) * 3 + j - (0 + 1 + 1 + 1) = i * 3 + j by omega]
    exact ih
theorem PcR.of_own {X : World} {N : Nat} {v : Value} {ps : List Pc} (h : X.ownsRow N 45 3 v ps.length (pcC ps)) : PcR X v ps := by
  rcases h.2 with ⟨rfl, h0⟩ | ⟨g, cap, cur, rfl, hg, hh, hcap, hm, hs, htk⟩
  · exact ⟨none, 0, by rw [h0], fun i p hp => by have := (List.getElem?_eq_some_iff.1 hp).1; omega⟩
  · refine ⟨some ⟨g, 0, none⟩, cap, rfl, fun i p hp => ?_⟩
    have hb : Bk X g cur 45 := hh
    have key : ∀ j, j < 3 → X.cell? ⟨g, i * 3 + j, none⟩ = [Value.int .i64 (p.id : Int), .int .i64 (p.f : Int), .int .i64 (p.t : Int)][j]? := fun j hj => by
      have hi := (List.getElem?_eq_some_iff.1 hp).1
      rw [hb.cell, ← Array.getElem?_toList]
      have h3 := pcC_get ps i j p hp hj
      rw [← htk, List.getElem?_take, if_pos (by omega)] at h3
      exact h3
    exact ⟨g, rfl, hb.lt, key 0 (by omega), key 1 (by omega), key 2 (by omega)⟩
theorem TakP.none {q : Int × List Pc × List Bool × Dk × StM} (hd : DkAt w D d bs bm cp p) (hs : StIn w S D s F B) {z : Int} (hq : q = (z, [], [], d, s)) (hb : Below w.heap.size w w') : TakP D S bs bm cp p F B q w (.returned (.tuple #[.slice none 0 0, .slice none 0 0, .int .i64 z])) w' := by
  subst hq
  exact ⟨_, _, rfl, World.ownsRow_nil _ _ _ _, World.ownsRow_nil _ _ _ _, SysM.refl hd hs [] hb⟩
set_option maxRecDepth 100000 in
set_option maxHeartbeats 2000000 in
theorem take_any (hd : DkAt w D d bs bm cp p) (hs : StIn w S D s F B) (hu : s.age = d.age → UseW d s) (n : Int) (hn : n ≤ 500) :
    Calls Try.prog 11 #[.pointer (some ⟨S, 0, none⟩), .int .i64 n] w (TakP D S bs bm cp p F B (s.takeR d n) w) := by
  obtain ⟨w1, hw1⟩ : ∃ z, z = w.alloc (.cells #[.int .i64 n] 3) := ⟨_, rfl⟩
  have hb1 : Below w.heap.size w w1 := by rw [hw1]; exact balloc _ _
  have hbn : Bk w1 w.heap.size #[.int .i64 n] 3 := by rw [hw1]; exact Bk.new _ _ _
  have HC := Lib.hid (check_any (hd.far hb1) (hs.far hb1))
  have HD := Lib.hid hd; have HS := Lib.hid hs; have HB1 := Lib.hid hb1; have HBN := Lib.hid hbn
  obtain ⟨q, hq⟩ : ∃ q, q = s.takeR d n := ⟨_, rfl⟩
  have HQ := Lib.hid hq
  rw [← hq]
  obtain ⟨bn, hbn2⟩ : ∃ b, b = w.heap.size := ⟨_, rfl⟩
  have HBE := Lib.hid hbn2
  rw [← hbn2] at hbn HBN
  by_cases he : s.age = d.age
  · have HU := Lib.hid (hu he); have HAL := Lib.hid he
    rw [if_pos he] at HC
    have HQ1 : Hid (q = s.takeR d n) := Lib.hid hq
    clear hd hs hq hu he hbn
    refine (callsIn_wide (n := 6)).1 ?_
    refine callsIn_of_wp_marks Try.func11 rfl trivial ?_ rfl
    simp only [Try.ntmps11, List.size_toArray, List.length_cons, List.length_nil, Nat.reduceAdd, Nat.reduceSub, Array.replicate_succ, Array.replicate_zero, List.push_toArray, List.append_toArray, List.nil_append, List.cons_append]
    refine wpIn_wide.2 ?_
    go_upto_region 1 with fail
    rw [← hw1, ← hbn2]
    clear hw1 hb1 hbn2
    go_wp2_with fail
    refine HC.out.mono ?_
    rintro e w2 ⟨rfl, nq, rfl⟩
    have hqw : Below w1.heap.size w1 (w1.drewN nq) := Qw.below ⟨nq, rfl⟩ _
    have hc : (w1.drewN nq).cell? ⟨bn, 0, none⟩ = some (.int .i64 n) := (HBN.out.past hqw HBN.out.lt).cell 0
    have HB2 := Lib.hid (bnextK HB1.out hqw)
    have HBN2 := Lib.hid (HBN.out.past hqw HBN.out.lt)
    generalize w1.drewN nq = w2 at hc HB2 HBN2
    clear hqw HC
    by_cases c1 : n < 1
    · have HQ2 : Hid (q = (2, [], [], d, s)) := Lib.hid (by rw [HQ1.out]; unfold StM.takeR; rw [if_neg (by simpa using HAL.out), if_pos c1])
      go_wp2_with fail
      refine ⟨_, results_tmp3 rfl _ _ _, ?_⟩
      exact TakP.none HD.out HS.out HQ2.out HB2.out
    have HQ2 : Hid (q = (let q := takeG (freeL s.j.keys s.j.side) ([], n.toNat); if 0 < q.2 then (14, [], [], d, s) else let c := s.commit d (q.1.map clmR); if c.1 ≠ 0 then (c.1, [], [], c.2.1, c.2.2) else (0, q.1, bitsL c.2.2.j.keys q.1, c.2.1, c.2.2))) := Lib.hid (by
      rw [HQ1.out]; unfold StM.takeR; rw [if_neg (by simpa using HAL.out), if_neg c1])
    obtain ⟨m, rfl⟩ : ∃ m : Nat, n = (m : Int) := ⟨n.toNat, by omega⟩
    rw [Int.toNat_natCast] at HQ2
    clear HQ HQ1
    go_upto_region 7 with fail
    obtain ⟨w3, hw3⟩ : ∃ z, z = w2.alloc (.cells #[.slice none 0 0] 34) := ⟨_, rfl⟩
    have hb3 : Below w2.heap.size w2 w3 := by rw [hw3]; exact balloc _ _
    have hbl : Bk w3 w2.heap.size #[.slice none 0 0] 34 := by rw [hw3]; exact Bk.new _ _ _
    obtain ⟨bl, hbl2⟩ : ∃ b, b = w2.heap.size := ⟨_, rfl⟩
    rw [← hbl2] at hbl
    rw [← hw3, ← hbl2]
    have HB3 := Lib.hid (bnextK HB2.out hb3); have HBL := Lib.hid hbl
    have HBN3 := Lib.hid (HBN2.out.past hb3 HBN2.out.lt)
    have HBLE : Hid (w.heap.size ≤ bl) := Lib.hid (by rw [hbl2]; exact HB2.out.size)
    obtain ⟨T, kv, xs, tb, tc, hst, hF, hB⟩ := HS.out.far HB3.out
    have HST := Lib.hid hst
    have c4 : w3.cell? ⟨S, 4, none⟩ = some (.pointer (some ⟨T, 0, none⟩)) := hst.blk.cell 4
    have t4 : w3.cell? ⟨T, 4, none⟩ = some (.int .i64 (s.j.side : Int)) := hst.js.blk.cell 4
    have HFR := Lib.hid (free_any (L := [bn]) HST.out (s.j.side : Int) (fun k hk => by rw [List.mem_singleton] at hk; subst hk; exact HBN3.out.lt))
    generalize (s.j.side : Int) = sd at t4 HFR HQ2
    clear hst hF hB hw3 hb3 hbl hbl2 hc
    go_wp2_with fail
    refine HFR.out.mono ?_
    rintro e w4 ⟨rfl, hcap, hb4⟩
    have HCAP := Lib.hid hcap
    have HB4 := Lib.hid (bnextK HB3.out hb4)
    have HBN4 := Lib.hid (HBN3.out.past hb4 HBN3.out.lt); have HBL4 := Lib.hid (HBL.out.past hb4 HBL.out.lt)
    have HST4 := Lib.hid (HST.out.far hb4)
    have HSQ := Lib.hid (free1_any (L := [bn]) (side := sd) 5 HCAP.out (fun k hk => by rw [List.mem_singleton] at hk; subst hk; exact HBN4.out.lt))
    have HGD : Hid (∀ x ∈ freeL s.j.keys sd, PcG s.j.keys x) := Lib.hid fun x hx => freeL_good hx
    obtain ⟨fl, hfl⟩ : ∃ l, l = freeL s.j.keys sd := ⟨_, rfl⟩
    have HFL := Lib.hid hfl
    rw [← hfl] at HSQ HQ2 HGD
    clear hcap hb4 hfl c4 t4 HFR HST HBN3 HBL HBN2 HB2 HB1 HBN
    go_wp2_with fail
    -- <RANGE
    clear HB3
    refine (wpIn_wide (n := 6)).1 ?_
    refine wpIn_rangeFunc_ownB rfl (by decide) (gf := 49) (lb := freeLb w3.heap.size (w3.heap.size + 1)) rfl trivial (enters_of Try.func49 (by kernel_rfl) rfl) HSQ.out (fun _ _ _ _ _ _ h _ _ _ => h) (fun h1 h2 => h1.trans h2) (fun W l o o' _ ho hc _ => KpS.putObj [bn] W l o o' ho hc) (Below.refl _ _) (fun x v W h => by subst h; rfl)
      (fun pre WW => (takeG pre ([], m)).2 ≠ 0 ∧ TkS w w4 bn bl (takeG pre ([], m)) WW)
      (fun c pre WW => c = .exit 0 ∧ (takeG pre ([], m)).2 = 0 ∧ TkS w w4 bn bl (takeG pre ([], m)) WW)
      ?hI ?hIx ⟨?h0a, ?h0b⟩
      (fun x a' WW => ∃ b, a' = { tmps := #[.pointer (some ⟨S, 0, none⟩), .int .i64 (m : Int), undef, .pointer (some ⟨bn, 0, none⟩), .slice none 0 0, .slice none 0 0, .int .i64 0, .int .i64 0, .pointer (some ⟨bl, 0, none⟩), .pointer (some ⟨b, 0, none⟩), undef, .pointer (some ⟨S, 0, none⟩), .int .i64 0, .int .i64 0, .bool false, undef, .int .i64 (m : Int), .bool (decide ((m : Int) < 1)), .pointer (some ⟨S, 0, none⟩), .pointer (some ⟨S, 0, none⟩), .pointer (some ⟨S, 0, none⟩), .pointer (some ⟨S, 4, none⟩), .pointer (some ⟨T, 0, none⟩), .pointer (some ⟨T, 0, none⟩), .pointer (some ⟨T, 4, none⟩), .int .i64 sd, .func (.func 49) #[] (freeLb w3.heap.size (w3.heap.size + 1)), pcV x, undef, undef, undef, undef, undef, undef, undef, undef, undef, undef, undef, undef, undef, undef, undef, undef, undef, undef, undef, undef, undef, undef, undef, undef, undef, undef, undef, undef, undef, undef, undef, undef, undef, undef, undef], defers := [] } ∧ Bk WW b #[.int .i64 (x.id : Int), .int .i64 (x.f : Int), .int .i64 (x.t : Int)] 45 ∧ w4.heap.size ≤ b ∧ ∃ v, Bk WW bl #[v] 34 ∧ v.ownBlock ≠ some b)
      ?hAx ?assign ?body ?done ?stop
    case hI =>
      rintro pre X Y row ⟨h1, h2⟩ hg hr
      exact ⟨h1, h2.iter HB4.out.size hg hr⟩
    case hIx =>
      rintro c pre X Y row ⟨h0, h1, h2⟩ hg hr
      exact ⟨h0, h1, h2.iter HB4.out.size hg hr⟩
    case h0a => show m ≠ 0; omega
    case h0b => exact ⟨.slice none 0 0, HBN4.out, HBL4.out, World.ownsRow_nil _ _ _ _, HB4.out, Nat.le_refl _⟩
    case hAx =>
      rintro x a' s X Y row ⟨b, h1, h2, h3, v, h4, h5⟩ hg hr
      exact ⟨b, h1, bk_iter h2 hg hr, h3, v, bk_iter h4 hg hr, h5⟩
    case assign =>
      rintro l pre x v W K hpre rfl ⟨hi, hts⟩ hK
      unfold pcV at hK ⊢
      refine wpIn_region_lit (wpListIn_of_plain8 (fun a w h => h) _ _ _ (by rfl) ?_)
      go_wp2_with fail
      have hb5 := balloc W (.cells #[.int .i64 (x.id : Int), .int .i64 (x.f : Int), .int .i64 (x.t : Int)] 45)
      exact hK _ _ ⟨hb5.size, fun k o _ ho _ => (hb5.block k (Array.getElem?_eq_some_iff.1 ho).1).trans ho⟩ (KpS.of_below hb5) ⟨hi, hts.iter (n₀ := w4.heap.size) HB4.out.size (grown_of_below8 hb5) (fun r e => by cases e)⟩ ⟨W.heap.size, rfl, Bk.new _ _ _, hts.size, hts.fresh hb5⟩
    case body =>
      rintro l pre x a' WW hpre ⟨hr0, hts⟩ ⟨b, rfl, hbx, hbge, v', hv1, hv2⟩
      obtain ⟨r, hr⟩ : ∃ r, r = (takeG pre ([], m)).2 := ⟨_, rfl⟩
      have hxg := HGD.out x (hpre.subset (by simp))
      have HSN := Lib.hid (takeG_snoc pre x hr0)
      have hbd := takeG_bound (n := m) (fun y hy => HGD.out y (hpre.subset (List.mem_append_left _ hy)))
      rw [← hr] at hr0 hbd
      have hTS := hts
      obtain ⟨v, h1, h2, h3, h4, h5⟩ := hts
      rw [← hr] at h1
      have hvv := bk_uniq h2 hv1
      injection hvv with hvv
      injection hvv with hvv
      subst hvv
      clear hv1
      have hx2 : x.f < x.t ∧ x.t ≤ 512 := by
        obtain ⟨k, hk, e1, e2, e3⟩ := hxg
        have := HU.out.w.key k hk
        exact ⟨e2, by omega⟩
      have HTT : Hid ((tkT x r : Int) = if (x.f : Int) + (r : Int) < (x.t : Int) then (x.f : Int) + (r : Int) else (x.t : Int)) := Lib.hid (by unfold tkT; split <;> omega)
      have HBX := Lib.hid hbx; have H1 := Lib.hid h1; have H2 := Lib.hid h2; have H3 := Lib.hid h3; have H4 := Lib.hid h4; have H5 := Lib.hid h5; have HXG := Lib.hid hxg; have HPRE := Lib.hid hpre; have HR := Lib.hid hr
      have x0 : WW.cell? ⟨b, 0, none⟩ = some (.int .i64 (x.id : Int)) := hbx.cell 0
      have x1 : WW.cell? ⟨b, 1, none⟩ = some (.int .i64 (x.f : Int)) := hbx.cell 1
      have x2 : WW.cell? ⟨b, 2, none⟩ = some (.int .i64 (x.t : Int)) := hbx.cell 2
      have xf2 := hbx.froz 2
      have n0 : WW.cell? ⟨bn, 0, none⟩ = some (.int .i64 (r : Int)) := h1.cell 0
      have r512 : (r : Int) < 512 := by omega
      have r512' : ¬ (512 : Int) < (r : Int) := by omega
      have q1 : wrap64 ((x.f : Int) + (r : Int)) = (x.f : Int) + (r : Int) := by unfold wrap64; omega
      clear hpre hr hxg hbx h1 h2 h3 h4 h5 hTS
      gi_upto_region 9 with fail
      refine wpIn_region_lit (wpListIn_of_plain8 (fun a w h => h) _ _ _ (by rfl) ?_)
      go_wp2_with fail
      have HMN : Hid (min (x.t : Int) ((x.f : Int) + min (r : Int) 512) = (tkT x r : Int)) := Lib.hid (by unfold tkT; omega)
      rw [HMN.out]
      obtain ⟨WA, hWA⟩ : ∃ z, z = WW.setCell ⟨b, 2, none⟩ (.int .i64 (tkT x r : Int)) := ⟨_, rfl⟩
      have ka : KeepL [b] WW WA := by rw [hWA]; exact KeepL.set _ _ _ _
      have ba : Bk WA b #[.int .i64 (x.id : Int), .int .i64 (x.f : Int), .int .i64 (tkT x r : Int)] 45 := by rw [hWA]; exact HBX.out.set 2 _
      rw [← hWA]
      have hbn4 := HBN4.out.lt
      have hbl4 := HBL4.out.lt
      have hbb : b ≠ bn ∧ b ≠ bl ∧ bn ≠ bl := ⟨by omega, by omega, fun e => HBN4.out.ne HBL4.out (by decide) e⟩
      have htl := tkT_le hx2.1 hr0
      have n1 : Bk WA bn #[.int .i64 (r : Int)] 3 := H1.out.keepL ka (by simp [Ne.symm hbb.1])
      have l1 : Bk WA bl #[v] 34 := H2.out.keepL ka (by simp [Ne.symm hbb.2.1])
      have o1 : WA.ownsRow w.heap.size 45 3 v (takeG pre ([], m)).1.length (pcC (takeG pre ([], m)).1) := ownsRow_keepB H3.out ka (fun k hk => by rw [mem_ob] at hk; simp only [List.mem_singleton]; rintro rfl; exact hv2 hk)
      obtain ⟨tt, htt⟩ : ∃ z, z = tkT x r := ⟨_, rfl⟩
      have HTE := Lib.hid htt
      rw [← htt] at htl ba HMN ⊢
      clear hWA htt x0 x1 x2 xf2 n0 HTT q1
      have x1 : WA.cell? ⟨b, 1, none⟩ = some (.int .i64 (x.f : Int)) := ba.cell 1
      have x2 : WA.cell? ⟨b, 2, none⟩ = some (.int .i64 (tt : Int)) := ba.cell 2
      have n0 : WA.cell? ⟨bn, 0, none⟩ = some (.int .i64 (r : Int)) := n1.cell 0
      have nf := n1.froz 0
      have q2 : wrap64 ((tt : Int) - (x.f : Int)) = (tt : Int) - (x.f : Int) := by unfold wrap64; omega
      obtain ⟨r', hr'⟩ : ∃ z, z = r - (tt - x.f) := ⟨_, rfl⟩
      have HRE := Lib.hid hr'
      have HRN : Hid ((r : Int) - ((tt : Int) - (x.f : Int)) = (r' : Int)) := Lib.hid (by omega)
      have KA := Lib.hid ka; have BA := Lib.hid ba; have N1 := Lib.hid n1; have L1 := Lib.hid l1; have O1 := Lib.hid o1
      clear ka ba n1 l1 o1 hr'
      gi_upto_region 10 with fail
      refine wpIn_region_lit (wpListIn_of_plain8 (fun a w h => h) _ _ _ (by rfl) ?_)
      go_wp2_with fail
      rw [HRN.out]
      obtain ⟨WB, hWB⟩ : ∃ z, z = WA.setCell ⟨bn, 0, none⟩ (.int .i64 (r' : Int)) := ⟨_, rfl⟩
      have kb : KeepL [bn] WA WB := by rw [hWB]; exact KeepL.set _ _ _ _
      have nb : Bk WB bn #[.int .i64 (r' : Int)] 3 := by rw [hWB]; exact N1.out.set 0 _
      rw [← hWB]
      have bb : Bk WB b #[.int .i64 (x.id : Int), .int .i64 (x.f : Int), .int .i64 (tt : Int)] 45 := BA.out.keepL kb (by simp [hbb.1])
      have lb : Bk WB bl #[v] 34 := L1.out.keepL kb (by simp [Ne.symm hbb.2.2])
      have ob1 : WB.ownsRow w.heap.size 45 3 v (takeG pre ([], m)).1.length (pcC (takeG pre ([], m)).1) := ownsRow_keepB O1.out kb (fun k hk hm => by
        rw [List.mem_singleton] at hm; subst hm
        obtain ⟨cs, hc⟩ := own_bk O1.out k hk
        exact N1.out.ne hc (by decide) rfl)
      have KB := Lib.hid kb; have NB := Lib.hid nb; have BB := Lib.hid bb; have LB := Lib.hid lb; have OB := Lib.hid ob1
      have b0 : WB.cell? ⟨b, 0, none⟩ = some (.int .i64 (x.id : Int)) := bb.cell 0
      have b1 : WB.cell? ⟨b, 1, none⟩ = some (.int .i64 (x.f : Int)) := bb.cell 1
      have b2 : WB.cell? ⟨b, 2, none⟩ = some (.int .i64 (tt : Int)) := bb.cell 2
      have l0 : WB.cell? ⟨bl, 0, none⟩ = some v := lb.cell 0
      have hsB : w.heap.size ≤ WB.heap.size := Nat.le_trans HB4.out.size (Nat.le_trans H5.out (Nat.le_trans KA.out.size KB.out.size))
      have hlen1 : (takeG pre ([], m)).1.length ≤ 500 := by omega
      clear hWB kb nb bb lb ob1 x1 x2 n0 nf
      gi_upto_region 11 with fail
      refine wpIn_region_lit (wpListIn_of_plain8 (fun a w h => h) _ _ _ (by rfl) ?_)
      go_wp2_with (at_builtin; refine wpList_pushL elP8 (.tmp 44) (.tmp 46) rfl rfl w.heap.size (takeG pre ([], m)).1.length _ rfl OB.out rfl (by rfl) (fun u hu => by simp at hu; rcases hu with rfl | rfl | rfl <;> rfl) (by omega) (by decide) hsB ?_; intro v' w5 ho5 hb5 hg5 _; obtain ⟨A9, d9, rfl, hd9⟩ := own_form ho5; have HO5 := Lib.hid ho5; have HK5 := Lib.hid (keepL_grown hg5); have HL5 := Lib.hid (LB.out.keepL HK5.out (nob_bl OB.out LB.out)); have l5 := HL5.out.cell 0; have lf5 := HL5.out.froz 0; clear ho5 hb5 hg5)
      have HTQ : Hid (takeG (pre ++ [x]) ([], m) = ((takeG pre ([], m)).1 ++ [⟨x.id, x.f, tt⟩], r')) := Lib.hid (by rw [HSN.out]; unfold tkStep; rw [← HR.out, ← HTE.out, HRE.out])
      obtain ⟨WD, hWD⟩ : ∃ z, z = w5.setCell ⟨bl, 0, none⟩ (.slice A9 ((takeG pre ([], m)).1.length + 1) d9) := ⟨_, rfl⟩
      rw [← hWD]
      have kd : KeepL [bl] w5 WD := by rw [hWD]; exact KeepL.set _ _ _ _
      have kall : KeepL (b :: bn :: bl :: ob v) WW WD := (KA.out.sub (by simp)).trans ((KB.out.sub (by simp)).trans ((HK5.out.sub (fun k hk => List.mem_cons_of_mem _ (List.mem_cons_of_mem _ (List.mem_cons_of_mem _ hk)))).trans (kd.sub (by simp))))
      have ld : Bk WD bl #[.slice A9 ((takeG pre ([], m)).1.length + 1) d9] 34 := by rw [hWD]; exact HL5.out.set 0 _
      have nd : Bk WD bn #[.int .i64 (r' : Int)] 3 := (NB.out.keepL HK5.out (nob_ty OB.out NB.out (by decide))).keepL kd (by simp [hbb.2.2])
      have od : WD.ownsRow w.heap.size 45 3 (.slice A9 ((takeG pre ([], m)).1.length + 1) d9) ((takeG pre ([], m)).1.length + 1) (pcC (takeG pre ([], m)).1 ++ [.int .i64 (x.id : Int), .int .i64 (x.f : Int), .int .i64 (tt : Int)]) := ownsRow_keepB HO5.out kd (fun k hk hm => by
        rw [List.mem_singleton] at hm; subst hm
        obtain ⟨cs, hc⟩ := own_bk HO5.out k hk
        exact HL5.out.ne hc (by decide) rfl)
      have HBW : Hid (Below w.heap.size w WD) := Lib.hid (H4.out.trans (kall.below H4.out.size (fun k hk => by
        simp only [List.mem_cons] at hk
        rcases hk with rfl | rfl | rfl | hk
        · exact Nat.le_trans HB4.out.size hbge
        · rw [HBE.out]; exact Nat.le_refl _
        · exact HBLE.out
        · rw [mem_ob] at hk; exact (H3.out.lt k hk).1)))
      have HTD : Hid (TkS w w4 bn bl (takeG (pre ++ [x]) ([], m)) WD) := Lib.hid (by
        rw [HTQ.out]
        refine ⟨_, nd, ld, ?_, HBW.out, Nat.le_trans H5.out kall.size⟩
        rw [pcC_append, List.length_append]
        exact od)
      have HKF : Hid (KeepsFrom w4.heap.size WW WD) := Lib.hid (keepsFrom_L _ kall (fun k hk => by
        simp only [List.mem_cons] at hk
        rcases hk with rfl | rfl | rfl | hk
        · exact ⟨_, _, HBX.out⟩
        · exact ⟨_, _, H1.out⟩
        · exact ⟨_, _, H2.out⟩
        · obtain ⟨cs, hc⟩ := own_bk H3.out k hk
          exact ⟨_, _, hc⟩))
      have HKP : Hid (KpS [bn] WW WD) := Lib.hid (kpS_L kall (fun k hk => by
        simp only [List.mem_cons] at hk
        rcases hk with rfl | rfl | rfl | hk
        · exact ⟨_, _, HBX.out, .inr (.inl rfl)⟩
        · exact ⟨_, _, H1.out, .inr (.inr (.inr (.inr rfl)))⟩
        · exact ⟨_, _, H2.out, .inl rfl⟩
        · obtain ⟨cs, hc⟩ := own_bk H3.out k hk
          exact ⟨_, _, hc, .inr (.inl rfl)⟩) ⟨_, H1.out⟩)
      have n5 : WD.cell? ⟨bn, 0, none⟩ = some (.int .i64 (r' : Int)) := nd.cell 0
      clear hWD kd kall ld nd od l5 lf5 b0 b1 b2 l0
      by_cases hz : r' = 0
      · have hzi : ((r' : Int) == 0) = true := by simp [hz]
        have HZ : Hid ((takeG (pre ++ [x]) ([], m)).2 = 0) := Lib.hid (by rw [HTQ.out]; exact hz)
        clear hz
        gi_wp2_with fail
        exact ⟨HKF.out, rfl, HZ.out, HTD.out⟩
      · have hzi : ((r' : Int) == 0) = false := by simpa using hz
        have HZ : Hid ((takeG (pre ++ [x]) ([], m)).2 ≠ 0) := Lib.hid (by rw [HTQ.out]; exact hz)
        clear hz
        gi_wp2_with fail
        exact ⟨HKF.out, HKP.out, HZ.out, HTD.out⟩
    case done =>
      rintro D1 WW hD ⟨hr0, v, h1, h2, h3, h4, h5⟩ hK
      have HQ3 : Hid (q = (14, [], [], d, s)) := Lib.hid (by rw [HQ2.out]; exact if_pos (by omega))
      have HTK : Hid (TkS w w4 bn bl (takeG fl ([], m)) WW) := Lib.hid ⟨v, h1, h2, h3, h4, h5⟩
      have HM : Hid (Marks8 w4.heap.size [{ target := .collected D1, args := #[] }] WW) := Lib.hid ⟨⟨D1, rfl, hD, hK, by simp⟩, trivial⟩
      generalize (takeG fl ([], m)).2 = r at *
      have c3 : WW.cell? ⟨bn, 0, none⟩ = some (.int .i64 (r : Int)) := h1.cell 0
      have hri : (0 : Int) < (r : Int) := by omega
      clear h1 h2 h3 h4 h5 hK
      go_wp2_with fail
      refine leaves8 (n₀ := w4.heap.size) (I := fun W' => TkS w w4 bn bl (takeG fl ([], m)) W') (fun W' D2 o h h0 ho hc o' => h.iter HB4.out.size (grownBy_putObj' W' D2 o') (fun r e => by cases e; exact ⟨h0, o, ho, hc⟩)) _ _ HM.out HTK.out (fun W' hs' => ?_)
      refine ⟨_, results_tmp3 rfl _ _ _, ?_⟩
      obtain ⟨v, h1, h2, h3, h4, h5⟩ := hs'
      exact TakP.none HD.out HS.out HQ3.out h4
    case stop =>
      rintro D1 c pre WW hD hpre ⟨rfl, hz, hts⟩ hK
      refine wpIn_wide.2 ?_
      have hq := takeG_pre hpre hz
      obtain ⟨v, h1, h2, h3, h4, h5⟩ := hts
      rw [hz] at h1
      rw [← hq] at h3 hz
      have hbd := takeG_bound (n := m) HGD.out
      have HPG := Lib.hid (takeG_good (keys := s.j.keys) fl ([], m) HGD.out (by simp))
      have HQ3 : Hid (q = (let c := s.commit d ((takeG fl ([], m)).1.map clmR); if c.1 ≠ 0 then (c.1, [], [], c.2.1, c.2.2) else (0, (takeG fl ([], m)).1, bitsL c.2.2.j.keys (takeG fl ([], m)).1, c.2.1, c.2.2))) := Lib.hid (by rw [HQ2.out]; exact if_neg (by omega))
      have HM : Hid (Marks8 w4.heap.size [{ target := .collected D1, args := #[] }] WW) := Lib.hid ⟨⟨D1, rfl, hD, hK, by simp⟩, trivial⟩
      clear hq hz hpre hK
      obtain ⟨ps, hps⟩ : ∃ z, z = (takeG fl ([], m)).1 := ⟨_, rfl⟩
      rw [← hps] at h3 hbd HPG HQ3
      obtain ⟨A, c, hv, hc⟩ := own_form h3
      subst hv
      have c3 : WW.cell? ⟨bn, 0, none⟩ = some (.int .i64 0) := h1.cell 0
      have c8 : WW.cell? ⟨bl, 0, none⟩ = some (.slice A ps.length c) := h2.cell 0
      have HCL := Lib.hid (claims_any (PcR.of_own h3) (by omega))
      have H2 := Lib.hid h2; have H3 := Lib.hid h3; have H4 := Lib.hid h4; have H5 := Lib.hid h5
      have HPN : Hid (ps.length ≤ 500 ∧ pcsN ps ≤ 500) := Lib.hid ⟨by omega, by omega⟩
      clear h1 h2 h3 h4 h5 hbd hps hc
      go_wp2_with fail
      refine HCL.out.mono ?_
      rintro e w6 ⟨v', rfl, hra, hb6⟩
      have HB6 := Lib.hid (bnextK H4.out hb6); have HL6 := Lib.hid hb6
      have HRA := Lib.hid hra
      have HD6 := Lib.hid (HD.out.far HB6.out); have HS6 := Lib.hid (HS.out.far HB6.out)
      have HCM := Lib.hid (commit_any HD6.out HS6.out HU.out.u HAL.out (ps.map clmR) v' [] HRA.out (fun y hy => by
        obtain ⟨x, hx, rfl⟩ := List.mem_map.1 hy
        exact clm_good HU.out.w (HPG.out x hx) s.epoch HU.out.e HS.out.ok.epoch) (by rw [List.length_map]; have := HPN.out; omega))
      have hcc := commit_claim d s (ps.map clmR) (fun y hy => by obtain ⟨x, hx, rfl⟩ := List.mem_map.1 hy; rfl)
      obtain ⟨A2, c2, hv2, _⟩ := hra
      have HCC := Lib.hid hcc
      rw [List.length_map] at hv2
      rw [hv2] at HCM ⊢
      clear hb6 hv2 hcc HCL
      go_wp2_with fail
      refine HCM.out.mono ?_
      rintro e w7 ⟨rfl, hsy⟩
      clear HCM
      have hkk := hsy.k
      have HNB : Hid (∀ b cs t, Bk w6 b cs t → t ≠ 52 ∧ t ≠ 86 ∧ t ≠ 112 ∧ t ≠ 56 ∧ t ≠ 62 ∧ t ≠ 66 ∧ t ≠ 68 ∧ t ≠ 4 → Bk w7 b cs t) := Lib.hid (hsy.bk HD6.out HS6.out)
      have HO7 : Hid (w7.ownsRow w.heap.size 45 3 (.slice A ps.length c) ps.length (pcC ps)) := Lib.hid (by
        have h := ownsRow_past8 H3.out HL6.out
        refine ⟨h.1, ?_⟩
        rcases h.2 with g1 | ⟨g, cap, cur, g1, g2, g3, g4⟩
        · exact .inl g1
        · exact .inr ⟨g, cap, cur, g1, g2, HNB.out g cur _ g3 (by decide), g4⟩)
      have HL7 : Hid (Bk w7 bl #[.slice A ps.length c] 34) := Lib.hid (HNB.out _ _ _ (H2.out.past HL6.out H2.out.lt) (by decide))
      have HBM : Hid (bm < w.heap.size) := Lib.hid (by obtain ⟨l, hl⟩ := HD.out.cch; exact hl.lt)
      have HM7 : Hid (Marks8 w4.heap.size [{ target := .collected D1, args := #[] }] w7) := Lib.hid (by
        refine Marks8.keepF (B := w.heap.size) HB4.out.size (W := w6) ⟨hkk.size, fun k o h1 h2 _ => (hkk.block k (Array.getElem?_eq_some_iff.1 h2).1 (fun hm => ?_)).trans h2⟩ (HM.out.keep (fun k o h1 _ => (HL6.out.block k (Array.getElem?_eq_some_iff.1 h1).1).trans h1))
        rcases List.mem_append.1 hm with hm | hm
        · have := HD.out.fpLt k hm; omega
        · have := HS.out.lt.1 k hm; omega)
      have HSY : Hid (SysM w w7 D S bs bm cp p F B [] (s.commit d (ps.map clmR)).2.1 (s.commit d (ps.map clmR)).2.2) := Lib.hid (SysM.news HB6.out hsy (by simp) (NewP.refl _ _))
      obtain ⟨cr, hcr⟩ : ∃ z, z = (s.commit d (ps.map clmR)).1 := ⟨_, rfl⟩
      have HCR := Lib.hid hcr
      rw [← hcr]
      have HS7 : Hid (w.heap.size ≤ w7.heap.size) := Lib.hid (Nat.le_trans HB6.out.size hkk.size)
      have l7 : w7.cell? ⟨bl, 0, none⟩ = some (.slice A ps.length c) := HL7.out.cell 0
      clear hsy hkk hcr c3 c8
      by_cases hz : cr = 0
      · have hzi : (cr != 0) = false := by simp [hz]
        have HQ4 : Hid (q = (0, ps, bitsL (s.commit d (ps.map clmR)).2.2.j.keys ps, (s.commit d (ps.map clmR)).2.1, (s.commit d (ps.map clmR)).2.2)) := Lib.hid (by rw [HQ3.out]; exact if_neg (by rw [← HCR.out]; simpa using hz))
        obtain ⟨_, ⟨F7, B7, hs7, _, _⟩, _⟩ := HSY.out
        obtain ⟨T7, kv7, xs7, tb7, tc7, hst7, _, _⟩ := hs7
        have HBT := Lib.hid (bits_any (hst7.far (below_drew8 w7 _)) ((PcR.of_own HO7.out).far (below_drew8 w7 _)) (by have := HPN.out; omega) (by rw [bitsL_len HU.out.w HCC.out HPG.out]; have := HPN.out; omega) (fun x hx => (HPG.out x hx).bits HU.out.w HCC.out))
        clear hz hst7
        generalize bitsL (s.commit d (ps.map clmR)).2.2.j.keys ps = bl8 at HQ4 HBT
        go_upto_region 18 with fail
        refine wp_region_noPanic ?_
        refine wp_region_held_drew (S := (fun W => W.cell? ⟨bl, 0, none⟩ = some (.slice A ps.length c))) (by kernel_rfl) ?_ (fun hHeld => ?_)
        · (try dsimp only); first | exact l7 | exact l8
        refine wpAnyH_take (i := 0) (oi := ⟨some 59, _, _, _, _, _⟩) (v := ?_) rfl (by kernel_rfl) (by kernel_rfl) (by kernel_rfl) (fun _ _ _ h => h) (Or.inl ⟨by rfl, ?_⟩) (by assumption) ?_
        rotate_left
        · (intro w hSw; (try dsimp only at hSw); go_simp; try with_reducible rfl)
        try simp only [Act.put, List.setIfInBounds_toArray, List.set_cons_zero, List.set_cons_succ]
        refine wpAnyH_take (i := 1) (oi := ⟨some 60, _, _, _, _, _⟩) (v := ?_) rfl (by kernel_rfl) (by kernel_rfl) (by kernel_rfl) (fun _ _ _ h => h) (Or.inl ⟨by rfl, ?_⟩) (by assumption) ?_
        rotate_left
        · (intro w hSw; (try dsimp only at hSw); go_simp; try with_reducible rfl)
        try simp only [Act.put, List.setIfInBounds_toArray, List.set_cons_zero, List.set_cons_succ]
        refine wpAnyH_take (i := 2) (oi := ⟨some 61, _, _, _, _, _⟩) (v := ?_) rfl (by kernel_rfl) (by kernel_rfl) (by kernel_rfl) (fun _ _ _ h => h) (Or.inl ⟨by rfl, ?_⟩) (by assumption) ?_
        rotate_left
        · (intro w hSw; (try dsimp only at hSw); go_simp; try with_reducible rfl)
        try simp only [Act.put, List.setIfInBounds_toArray, List.set_cons_zero, List.set_cons_succ]
        refine wpAnyH_ready (rs := [3]) (by kernel_rfl) (by simp) ?_
        refine AllReadyH.cons (o := ⟨some 62, _, _, _, _, _⟩) rfl (fun K hK => ?_) AllReadyH.nil
        go_simp
        refine HBT.out.mono ?_
        rintro e' w8 ⟨bv, rfl, hob, hb8⟩
        obtain ⟨A8, c8, rfl, _⟩ := own_form hob
        have HOB := Lib.hid hob; have HB8 := Lib.hid ((below_drew8 w7 w7.heap.size).trans (hb8.mono (below_drew8 w7 w7.heap.size).size))
        have l8 : w8.cell? ⟨bl, 0, none⟩ = some (.slice A ps.length c) := (HB8.out.cell (p := ⟨bl, 0, none⟩) HL7.out.lt).trans l7
        clear hob hb8
        go_wp2_with fail
        refine hK.out _ _ ?_ (fun hHeld => ?_)
        · (try dsimp only); first | exact l7 | exact l8
        clear hK K
        try simp only [Act.put, List.setIfInBounds_toArray, List.set_cons_zero, List.set_cons_succ]
        refine wpAnyH_take (i := 4) (oi := ⟨some 4, _, _, _, _, _⟩) (v := ?_) rfl (by kernel_rfl) (by kernel_rfl) (by kernel_rfl) (fun _ _ _ h => h) (Or.inl ⟨by rfl, ?_⟩) (by assumption) ?_
        rotate_left
        · (intro w hSw; (try dsimp only at hSw); go_simp; try with_reducible rfl)
        try simp only [Act.put, List.setIfInBounds_toArray, List.set_cons_zero, List.set_cons_succ]
        refine wpAnyH_take (i := 5) (oi := ⟨some 5, _, _, _, _, _⟩) (v := ?_) rfl (by kernel_rfl) (by kernel_rfl) (by kernel_rfl) (fun _ _ _ h => h) (Or.inl ⟨by rfl, ?_⟩) (by assumption) ?_
        rotate_left
        · (intro w hSw; (try dsimp only at hSw); go_simp; try with_reducible rfl)
        try simp only [Act.put, List.setIfInBounds_toArray, List.set_cons_zero, List.set_cons_succ]
        refine wpAnyH_take (i := 6) (oi := ⟨some 6, _, _, _, _, _⟩) (v := ?_) rfl (by kernel_rfl) (by kernel_rfl) (by kernel_rfl) (fun _ _ _ h => h) (Or.inl ⟨by rfl, ?_⟩) (by assumption) ?_
        rotate_left
        · (intro w hSw; (try dsimp only at hSw); go_simp; try with_reducible rfl)
        try simp only [Act.put, List.setIfInBounds_toArray, List.set_cons_zero, List.set_cons_succ]
        refine wpAnyH_done (by kernel_rfl) ?_ _
        refine NoPanic.normal ?_
        have HT : Hid (TakP D S bs bm cp p F B q w (.returned (.tuple #[.slice A ps.length c, .slice A8 bl8.length c8, .int .i64 0])) w8) := Lib.hid (by
          rw [HQ4.out]
          exact ⟨_, _, rfl, ownsRow_past8 HO7.out HB8.out, ownsRow_mono HOB.out (Nat.le_trans HS7.out (below_drew8 w7 w7.heap.size).size), HSY.out.below HB8.out⟩)
        have HM8 : Hid (Marks8 w4.heap.size [{ target := .collected D1, args := #[] }] w8) := Lib.hid (HM7.out.keep (fun k o h1 _ => (HB8.out.block k (Array.getElem?_eq_some_iff.1 h1).1).trans h1))
        go_wp2_with fail
        refine leaves8 (n₀ := w4.heap.size) (I := fun W' => TakP D S bs bm cp p F B q w (.returned (.tuple #[.slice A ps.length c, .slice A8 bl8.length c8, .int .i64 0])) W') (fun W' D2 o h h0 ho hc o' => h.iter HBM.out (grownBy_putObj' W' D2 o') (fun r e => by cases e; exact ⟨Nat.le_trans HB4.out.size h0, o, ho, hc⟩)) _ _ HM8.out HT.out (fun W' hs' => ?_)
        refine ⟨_, results_tmp3 rfl _ _ _, ?_⟩
        exact hs'
      · have hzi : (cr != 0) = true := by simpa using hz
        have HQ4 : Hid (q = (cr, [], [], (s.commit d (ps.map clmR)).2.1, (s.commit d (ps.map clmR)).2.2)) := Lib.hid (by rw [HQ3.out, HCR.out]; exact if_pos (by rw [← HCR.out]; exact hz))
        have HT : Hid (TakP D S bs bm cp p F B q w (.returned (.tuple #[.slice none 0 0, .slice none 0 0, .int .i64 cr])) w7) := Lib.hid (by rw [HQ4.out]; exact ⟨_, _, rfl, World.ownsRow_nil _ _ _ _, World.ownsRow_nil _ _ _ _, HSY.out⟩)
        clear hz
        go_wp2_with fail
        refine leaves8 (n₀ := w4.heap.size) (I := fun W' => TakP D S bs bm cp p F B q w (.returned (.tuple #[.slice none 0 0, .slice none 0 0, .int .i64 cr])) W') (fun W' D2 o h h0 ho hc o' => h.iter HBM.out (grownBy_putObj' W' D2 o') (fun r e => by cases e; exact ⟨Nat.le_trans HB4.out.size h0, o, ho, hc⟩)) _ _ HM7.out HT.out (fun W' hs' => ?_)
        refine ⟨_, results_tmp3 rfl _ _ _, ?_⟩
        exact hs'
    -- RANGE>
  · rw [if_neg he] at HC
    have HQ1 : Hid (q = (13, [], [], d, s)) := Lib.hid (by rw [HQ.out]; unfold StM.takeR; rw [if_pos he])
    clear hd hs hq hu he hbn
    go_enter Try.func11, Try.ntmps11
    go_upto_region 1 with fail
    rw [← hw1, ← hbn2]
    clear hw1 hb1 hbn2
    go_wp2_with fail
    refine HC.out.mono ?_
    rintro e w2 ⟨rfl, hqw⟩
    have HB2 := Lib.hid (bnextK HB1.out (hqw.below _))
    clear hqw HC
    go_wp2_with fail
    refine bodyPost_ret (results_tmp3 rfl _ _ _) rfl ?_
    exact TakP.none HD.out HS.out HQ1.out HB2.out
end
#print axioms take_any
end Go.Proofs.Ytdgmjedkhjeadaa
/- The contract of Open's closure. Conditions: as each statement says. -/
namespace Go.Proofs.Ytdgmjedkhjeadaa
open Go.RowKit
set_option linter.unusedVariables false
def rdyR (side : Nat) : Rc := ⟨0, 5, 0, side, 0, []⟩
/-- The store that Open makes of what it reads. -/
def Dk.first (d : Dk) : StM :=
  if (d.journal 1).ready = true ∧ ((d.journal 0).ready = false ∨ (d.journal 0).age < (d.journal 1).age) then ⟨0, 1, d.greatest + 1, d.journal 1⟩ else ⟨0, 0, d.greatest + 1, d.journal 0⟩
/-- What is done to a disk that has no ready area. -/
def Dk.begin8 (d : Dk) (side : Nat) : Bool × Dk × StM := StM.commitW { d with age := d.age + 1 } ⟨d.age + 1, 0, d.greatest + 1, Jn.zero 0⟩ [rdyR side]
def Dk.openR (d : Dk) (side : Int) : Int × Dk × Option StM :=
  if side ≠ 0 ∧ side ≠ 1 then (2, d, none)
  else if d.down = true then (13, d, none)
  else if d.greatest = 4294967295 then (8, d, none)
  else if d.first.j.ready = true ∧ (d.first.j.side : Int) ≠ side then (11, d, none)
  else if d.first.j.ready = true then (0, { d with age := d.age + 1 }, some { d.first with age := d.age + 1 })
  else if (d.begin8 side.toNat).1 = true then (13, (d.begin8 side.toNat).2.1, none) else (0, (d.begin8 side.toNat).2.1, some (d.begin8 side.toNat).2.2)
theorem rdyV (side : Nat) : recV (rdyR side) none 0 = .agg #[.int .i64 0, .int .i64 5, .int .i64 0, .int .i64 (side : Int), .int .i64 0, .slice none 0 0] := rfl
theorem rdy_good (side e : Nat) (h : side ≤ 1) (h1 : 1 ≤ e) (h2 : e < 4294967296) : RcG ((rdyR side).at' e) := ⟨h1, h2, by simp [rdyR, Rc.at'], by simp [rdyR, Rc.at'], .inr (.inr (.inr (.inr ⟨rfl, h, rfl, rfl⟩)))⟩
section
variable {w w' : World} {S D : Nat} {d : Dk} {s : StM} {bs bm cp : Nat} {p : Option Addr} {T : Nat} {kv : Value} {xs : List KB} {tb : Option Addr} {tc : Nat}
set_option maxRecDepth 100000 in
set_option maxHeartbeats 2000000 in
theorem open1_rdy (hd : DkAt w D d bs bm cp p) (hst : StAt w S D s T kv xs tb tc) (hr : s.j.ready = true) {b7 b3 b2 : Nat} (h7 : Bk w b7 #[.pointer (some ⟨S, 0, none⟩)] 26) :
    Calls Try.prog 23 #[.pointer (some ⟨b7, 0, none⟩), .pointer (some ⟨b3, 0, none⟩), .pointer (some ⟨b2, 0, none⟩)] w (ComR D S bs bm cp p (S :: fpJ T kv xs) (obT tb) [] (false, d, s) w) := by
  have c0 : w.cell? ⟨b7, 0, none⟩ = some (.pointer (some ⟨S, 0, none⟩)) := h7.cell 0
  have c4 : w.cell? ⟨S, 4, none⟩ = some (.pointer (some ⟨T, 0, none⟩)) := hst.blk.cell 4
  have t2 : w.cell? ⟨T, 2, none⟩ = some (.bool true) := by rw [hst.js.blk.cell, ← hr]; rfl
  have HD := Lib.hid hd; have HST := Lib.hid hst
  clear hd hst hr h7
  go_enter Try.func23, Try.ntmps23
  go_wp2_with fail
  go_ret
  exact ⟨fun h => Bool.noConfusion h, fun _ => rfl, SysM.refl HD.out ⟨T, kv, xs, tb, tc, HST.out, rfl, rfl⟩ [] (Below.refl _ _), fun b cs t h _ => h⟩
set_option maxRecDepth 100000 in
set_option maxHeartbeats 2000000 in
theorem open1_new (hd : DkAt w D d bs bm cp p) (hst : StAt w S D s T kv xs tb tc) (hr : s.j.ready = false) (ha : AgeOK d) (side : Nat) (hsd : side ≤ 1) (he : 1 ≤ s.epoch) {b7 b3 b2 : Nat} (h7 : Bk w b7 #[.pointer (some ⟨S, 0, none⟩)] 26)
    (h3 : Bk w b3 #[.int .i64 (side : Int)] 3) (h2 : Bk w b2 #[.pointer (some ⟨D, 0, none⟩)] 22) :
    Calls Try.prog 23 #[.pointer (some ⟨b7, 0, none⟩), .pointer (some ⟨b3, 0, none⟩), .pointer (some ⟨b2, 0, none⟩)] w (ComR D S bs bm cp p (S :: fpJ T kv xs) (obT tb) [] (StM.commitW d ⟨s.age, 0, s.epoch, Jn.zero 0⟩ [rdyR side]) w) := by
  have c0 : w.cell? ⟨b7, 0, none⟩ = some (.pointer (some ⟨S, 0, none⟩)) := h7.cell 0
  have c4 : w.cell? ⟨S, 4, none⟩ = some (.pointer (some ⟨T, 0, none⟩)) := hst.blk.cell 4
  have c2 : w.cell? ⟨S, 2, none⟩ = some (.int .i64 (s.area : Int)) := hst.blk.cell 2
  have f2 := hst.blk.froz 2; have f4 := hst.blk.froz 4
  have t2 : w.cell? ⟨T, 2, none⟩ = some (.bool false) := by rw [hst.js.blk.cell, ← hr]; rfl
  have d3 : w.cell? ⟨b3, 0, none⟩ = some (.int .i64 (side : Int)) := h3.cell 0
  have d2 : w.cell? ⟨b2, 0, none⟩ = some (.pointer (some ⟨D, 0, none⟩)) := h2.cell 0
  have hS := hst.blk.lt
  have HD := Lib.hid hd; have HST := Lib.hid hst; have H7 := Lib.hid h7; have H3 := Lib.hid h3; have H2 := Lib.hid h2; have HA := Lib.hid ha
  clear hd hst hr h7 h3 h2 ha
  go_enter Try.func23, Try.ntmps23
  go_upto_region 3 with fail
  obtain ⟨W2, hW2⟩ : ∃ z, z = (((w.setCell ⟨S, 2, none⟩ (.int .i64 0)).setCell ⟨S, 4, none⟩ (.pointer (some ⟨w.heap.size, 0, none⟩))).alloc (.cells #[.slice none 0 0, .int .i64 0, .bool false, .int .i64 0, .int .i64 0, .int .i64 0, .int .i64 0, .int .i64 0, .int .i64 0, .int .i64 0, .int .i64 0, .slice none 0 0] 62)) := ⟨_, rfl⟩
  obtain ⟨W1, hW1⟩ : ∃ z, z = (w.setCell ⟨S, 2, none⟩ (.int .i64 0)).setCell ⟨S, 4, none⟩ (.pointer (some ⟨w.heap.size, 0, none⟩)) := ⟨_, rfl⟩
  rw [← hW2]
  rw [← hW1] at hW2
  have k1 : KeepL [S] w W1 := by rw [hW1]; exact (KeepL.set _ _ _ _).trans (KeepL.set _ _ _ _)
  have s1 : W1.heap.size = w.heap.size := by rw [hW1, size_setCell, size_setCell]
  have b1 : Bk W1 S #[.pointer (some ⟨D, 0, none⟩), .int .i64 s.age, .int .i64 0, .int .i64 (s.epoch : Int), .pointer (some ⟨w.heap.size, 0, none⟩)] 56 := by rw [hW1]; exact (HST.out.blk.set 2 (.int .i64 0)).set 4 (.pointer (some ⟨w.heap.size, 0, none⟩))
  have hb2 : Below W1.heap.size W1 W2 := by rw [hW2]; exact balloc _ _
  have t2 : Bk W2 w.heap.size (stC (.slice none 0 0) (Jn.zero 0) none 0) 62 := by rw [hW2, ← s1]; exact Bk.new _ _ _
  have hk2 : KeepL [S] w W2 := k1.trans (.of_below hb2)
  have HST2 : Hid (StAt W2 S D ⟨s.age, 0, s.epoch, Jn.zero 0⟩ w.heap.size (.slice none 0 0) [] none 0) := Lib.hid
    ⟨b1.past hb2 b1.lt, ⟨⟨by simp [Jn.zero], by simp [Jn.zero], rc0_ok, by show 0 < _; omega⟩, t2, World.ownsRow_nil _ _ _ _, fun i x k hx => by simp at hx, World.ownsRow_nil _ _ _ _, by simp⟩, ⟨by show 0 ≤ 1; omega, HST.out.ok.epoch, JrI.zero 0⟩⟩
  have HS2 : Hid (StIn W2 S D ⟨s.age, 0, s.epoch, Jn.zero 0⟩ (S :: fpJ w.heap.size (.slice none 0 0) []) (obT none)) := Lib.hid ⟨_, _, _, _, _, HST2.out, rfl, rfl⟩
  have HD2 : Hid (DkAt W2 D d bs bm cp p) := Lib.hid (HD.out.keepT hk2 fun b hb => by
    rw [List.mem_singleton] at hb; subst hb
    exact ⟨_, _, HST.out.blk, by decide, by decide, by decide, by decide⟩)
  have HK2 := Lib.hid hk2
  have e7 : W2.cell? ⟨b7, 0, none⟩ = some (.pointer (some ⟨S, 0, none⟩)) := by rw [(H7.out.keepL hk2 (by simp only [List.mem_singleton]; exact H7.out.ne HST.out.blk (by decide))).cell]; rfl
  have e3 : W2.cell? ⟨b3, 0, none⟩ = some (.int .i64 (side : Int)) := by rw [(H3.out.keepL hk2 (by simp only [List.mem_singleton]; exact H3.out.ne HST.out.blk (by decide))).cell]; rfl
  have hb2k := H2.out.keepL hk2 (by simp only [List.mem_singleton]; exact H2.out.ne HST.out.blk (by decide))
  have HB2K := Lib.hid hb2k
  have hX : ∀ k ∈ obT (none : Option Addr), k ∈ ([] : List Nat) := fun k hk => by simp [obT, ob, Value.ownBlock] at hk
  have HWR := Lib.hid (swrite_any HD2.out HS2.out (rdyR side) none 0 (World.ownsRow_nil _ _ _ _) ⟨HA.out, rdy_good side _ hsd he HST.out.ok.epoch, by show 0 < _; have := HD.out.ok.n2; omega⟩ [] hX)
  rw [rdyV] at HWR
  have HTR : Hid (∀ w3 d' s', SysM W2 w3 D S bs bm cp p (S :: fpJ w.heap.size (.slice none 0 0) []) (obT none) [] d' s' → SysM w w3 D S bs bm cp p (S :: fpJ T kv xs) (obT tb) [] d' s' ∧ ∀ b cs t, Bk w b cs t → t ≠ 52 ∧ t ≠ 86 ∧ t ≠ 112 ∧ t ≠ 56 ∧ t ≠ 62 ∧ t ≠ 66 ∧ t ≠ 68 ∧ t ≠ 4 → Bk w3 b cs t) := Lib.hid fun w3 d' s' h =>
    ⟨SysM.trans (NewP.refl w p) (fun k hk => by
        simp only [fpJ, ob, Value.ownBlock, List.mem_cons, List.flatMap_nil, List.append_nil, Option.toList_none, List.not_mem_nil, or_false] at hk
        rcases hk with rfl | rfl
        · exact .inl (by simp)
        · exact .inr (Nat.le_refl _)) (fun k hk => by simp [obT, ob, Value.ownBlock] at hk) (HK2.out.sub (by simp)) h (fun k hk => .inl hk),
      fun b cs t hb ht => h.bk HD2.out HS2.out b cs t (hb.keepL HK2.out (by simp only [List.mem_singleton]; exact hb.ne HST.out.blk ht.2.2.2.1)) ht⟩
  clear hW1 hW2 k1 s1 b1 hb2 t2 hk2 hb2k hX c0 c4 c2 f2 f4 d3 d2
  obtain ⟨s0, hs0⟩ : ∃ z : StM, z = ⟨s.age, 0, s.epoch, Jn.zero 0⟩ := ⟨_, rfl⟩
  rw [← hs0] at HWR
  have HS0 := Lib.hid hs0
  clear hs0
  go_wp2_with fail
  refine HWR.out.mono ?_
  rintro e w3 ⟨hbad, hok, hsy3⟩
  have HSY3 := Lib.hid hsy3
  cases hq : (s0.write d (rdyR side)).1 with
  | true =>
    have he := hbad hq
    subst he
    have HF : Hid (s0.commitW d [rdyR side] = s0.write d (rdyR side)) := Lib.hid (by
      have : StM.writes d s0 [rdyR side] = s0.write d (rdyR side) := by rw [StM.writes, if_pos hq]
      unfold StM.commitW
      rw [this, if_pos hq])
    have HQ := Lib.hid hq
    clear hq hbad hok hsy3
    go_wp2_with fail
    refine ⟨rfl, ?_⟩
    unfold ComR
    rw [← HS0.out, HF.out]
    exact ⟨fun _ => rfl, fun h => Bool.noConfusion (HQ.out.symm.trans h), (HTR.out _ _ _ HSY3.out).1, (HTR.out _ _ _ HSY3.out).2⟩
  | false =>
    have he := hok hq
    subst he
    have hwf := write_false hq
    have HF : Hid (s0.commitW d [rdyR side] = (decide ((s0.write d (rdyR side)).2.1.syncR.1 ≠ 0), (s0.write d (rdyR side)).2.1.syncR.2, (s0.write d (rdyR side)).2.2)) := Lib.hid (by
      have : StM.writes d s0 [rdyR side] = (false, (s0.write d (rdyR side)).2.1, (s0.write d (rdyR side)).2.2) := by
        rw [StM.writes, if_neg (by rw [hq]; simp)]; rfl
      unfold StM.commitW
      rw [this, if_neg (by simp)])
    obtain ⟨p1, q1, q2⟩ := hsy3.d
    obtain ⟨F1, B1, q3, q4, q5⟩ := hsy3.s
    have hkk := hsy3.bk HD2.out HS2.out
    have g2 : w3.cell? ⟨b2, 0, none⟩ = some (.pointer (some ⟨D, 0, none⟩)) := by rw [(hkk _ _ _ HB2K.out (by decide)).cell]; rfl
    generalize (s0.write d (rdyR side)).2.1 = d1 at *
    generalize (s0.write d (rdyR side)).2.2 = s1 at *
    have HSYN := Lib.hid (sync_any q1 (⟨by rw [hwf.1]; exact HA.out.1, by rw [hwf.1]; exact HA.out.2⟩ : AgeOK d1))
    have HTR2 : Hid (∀ w4 d', DkMut w3 w4 D bs bm cp p1 d' → SysM W2 w4 D S bs bm cp p (S :: fpJ w.heap.size (.slice none 0 0) []) (obT none) [] d' s1) := Lib.hid fun w4 d' h =>
      SysM.trans q2 q4 q5 hsy3.k (SysM.ofDisk q1 q3 h []) (fun k hk => .inl hk)
    have hv : d1.syncR.1 = 0 ∨ d1.syncR.1 = 13 := by
      unfold Dk.syncR
      split
      · exact .inr rfl
      · dsimp only; split
        · exact .inr rfl
        · exact .inl rfl
    clear hsy3 hq hbad hok q1 q2 q3 q4 q5 hkk HSY3 hwf HWR
    go_wp2_with fail
    refine HSYN.out.mono ?_
    rintro e w4 ⟨rfl, hm4⟩
    have HM4 := Lib.hid (HTR.out _ _ _ (HTR2.out _ _ hm4))
    clear hm4 HSYN HTR HTR2
    rcases hv with hv | hv
    · rw [hv]
      have HQ : Hid (s0.commitW d [rdyR side] = (false, d1.syncR.2, s1)) := Lib.hid (by rw [HF.out, hv]; rfl)
      clear hv
      go_wp2_with fail
      refine (must_ok _).mono ?_
      rintro e w5 ⟨rfl, rfl⟩
      go_wp2_with fail
      go_ret
      unfold ComR
      rw [← HS0.out, HQ.out]
      exact ⟨fun h => Bool.noConfusion h, fun _ => rfl, HM4.out.1, HM4.out.2⟩
    · rw [hv]
      have HQ : Hid (s0.commitW d [rdyR side] = (true, d1.syncR.2, s1)) := Lib.hid (by rw [HF.out, hv]; rfl)
      clear hv
      go_wp2_with fail
      refine (must_bad _).mono ?_
      rintro e w5 ⟨rfl, rfl⟩
      go_wp2_with fail
      refine ⟨rfl, ?_⟩
      unfold ComR
      rw [← HS0.out, HQ.out]
      exact ⟨fun _ => rfl, fun h => Bool.noConfusion h, HM4.out.1, HM4.out.2⟩
end
#print axioms open1_new
end Go.Proofs.Ytdgmjedkhjeadaa
/- The contract of Open. Conditions: as the statement says. -/
namespace Go.Proofs.Ytdgmjedkhjeadaa
open Go.RowKit
set_option linter.unusedVariables false
def OpnP (D bs bm cp : Nat) (p : Option Addr) (q : Int × Dk × Option StM) (w : World) (e : Ending) (w' : World) : Prop :=
  (∃ p', DkAt w' D q.2.1 bs bm cp p' ∧ NewP w p p') ∧ KeepL (fpL D bs bm p) w w' ∧
  ((q.2.2 = none ∧ e = .returned (.tuple #[.pointer none, .int .i64 q.1])) ∨
   ∃ s S F B, q.2.2 = some s ∧ e = .returned (.tuple #[.pointer (some ⟨S, 0, none⟩), .int .i64 q.1]) ∧ StIn w' S D s F B ∧ (∀ k ∈ F, w.heap.size ≤ k) ∧ ∀ k ∈ B, w.heap.size ≤ k)
section
variable {w w' : World} {D : Nat} {d : Dk} {bs bm cp : Nat} {p : Option Addr}
theorem OpnP.no {q : Int × Dk × Option StM} {z : Int} (hd : DkAt w D d bs bm cp p) (hq : q = (z, d, none)) (hb : Below w.heap.size w w') : OpnP D bs bm cp p q w (.returned (.tuple #[.pointer none, .int .i64 z])) w' := by
  subst hq
  exact ⟨⟨p, hd.far hb, .refl _ _⟩, .of_below hb, .inl ⟨rfl, rfl⟩⟩
/-- The new blocks of Open. -/
structure OpA (w : World) (D b2 b3 : Nat) (side : Int) (W : World) : Prop where
  b2 : Bk W b2 #[.pointer (some ⟨D, 0, none⟩)] 22
  b3 : Bk W b3 #[.int .i64 side] 3
  b : Below w.heap.size w W
theorem OpA.far {b2 b3 : Nat} {side : Int} {W W' : World} (h : OpA w D b2 b3 side W) (hb : Below W.heap.size W W') : OpA w D b2 b3 side W' := ⟨h.b2.past hb h.b2.lt, h.b3.past hb h.b3.lt, bnextK h.b hb⟩
/-- The new store of Open. -/
def OpS (w : World) (D b2 b3 : Nat) (side : Int) (b7 S : Nat) (s : StM) (W : World) : Prop :=
  OpA w D b2 b3 side W ∧ Bk W b7 #[.pointer (some ⟨S, 0, none⟩)] 26 ∧ w.heap.size ≤ S ∧ w.heap.size ≤ b7 ∧ ∃ T kv xs tb tc, StAt W S D s T kv xs tb tc ∧ (∀ k ∈ fpJ T kv xs, w.heap.size ≤ k) ∧ ∀ k ∈ obT tb, w.heap.size ≤ k
theorem OpS.far {b2 b3 b7 S : Nat} {side : Int} {s : StM} {W W' : World} (h : OpS w D b2 b3 side b7 S s W) (hb : Below W.heap.size W W') : OpS w D b2 b3 side b7 S s W' := by
  obtain ⟨h1, h2, h3, h4, T, kv, xs, tb, tc, h5, h6, h7⟩ := h
  exact ⟨h1.far hb, h2.past hb h2.lt, h3, h4, T, kv, xs, tb, tc, h5.far hb, h6, h7⟩
theorem bkA {W : World} {o : Obj} {b : Nat} {cs : Array Value} {t : TypeId} (h : Bk W b cs t) : Bk (W.alloc o) b cs t := h.past (balloc W o) h.lt
theorem bkD {W : World} {b : Nat} {cs : Array Value} {t : TypeId} (h : Bk W b cs t) : Bk W.drew b cs t := h.past (below_drew8 W W.heap.size) h.lt
theorem bkN (W : World) (o : Obj) (cs : Array Value) (t : TypeId) : Bk ((W.alloc o).alloc (.cells cs t)) (W.heap.size + 1) cs t := by
  have := Bk.new (W.alloc o) cs t
  rw [World.size_alloc] at this
  exact this
theorem bkNs (W : World) (a : Addr) (u : Value) (cs : Array Value) (t : TypeId) : Bk ((W.setCell a u).alloc (.cells cs t)) W.heap.size cs t := by
  have := Bk.new (W.setCell a u) cs t
  rw [size_setCell] at this
  exact this
theorem opn_end {b2 b3 : Nat} {w3 w4 W : World} {T gr : Nat} {kv : Value} {xs : List KB} {tb : Option Addr} {tc : Nat} {side : Int} {j : Jn} {L : List Nat} (h3 : OpA w D b2 b3 side w3) (hb4 : Below w3.heap.size w3 w4) (hj : JnAt w4 T j kv xs tb tc) (hr : JrI j) (hf : ∀ k ∈ fpJ T kv xs, w3.heap.size ≤ k) (ho : ∀ k ∈ obT tb, w3.heap.size ≤ k) (hg : gr + 1 < 4294967296)
    (hbW : KeepL L w4 W) (hL : ∀ b ∈ L, ∃ cs, Bk w4 b cs 26 ∧ w3.heap.size ≤ b) {b7 S : Nat} (hb7 : Bk W b7 #[.pointer (some ⟨S, 0, none⟩)] 26) (hS : Bk W S #[.pointer (some ⟨D, 0, none⟩), .int .i64 0, .int .i64 0, .int .i64 ((gr : Int) + 1), .pointer (some ⟨T, 0, none⟩)] 56) (h7 : w3.heap.size ≤ b7) (hSz : w3.heap.size ≤ S) :
    OpS w D b2 b3 side b7 S ⟨0, 0, gr + 1, j⟩ W := by
  have hs := h3.b.size
  have h4 := h3.far hb4
  have hno : ∀ b cs t, Bk w4 b cs t → t ≠ 26 → b ∉ L := fun b cs t hb ht hm => by
    obtain ⟨cs', h1, _⟩ := hL b hm
    exact hb.ne h1 ht rfl
  refine ⟨⟨h4.b2.keepL hbW (hno _ _ _ h4.b2 (by decide)), h4.b3.keepL hbW (hno _ _ _ h4.b3 (by decide)), h4.b.trans (hbW.below h4.b.size (fun k hk => by obtain ⟨_, _, h⟩ := hL k hk; omega))⟩, hb7, by omega, by omega, T, kv, xs, tb, tc, ⟨hS, hj.keepL hbW (fun k hk => ?_) (fun k hk => ?_), ⟨by show 0 ≤ 1; omega, hg, hr⟩⟩, fun k hk => Nat.le_trans hs (hf k hk), fun k hk => Nat.le_trans hs (ho k hk)⟩
  · obtain ⟨cs, t, h1, h2⟩ := hj.fpT k hk
    exact hno _ _ _ h1 (by rcases h2 with rfl | rfl | rfl | rfl <;> decide)
  · obtain ⟨cs, h1⟩ := own_bk hj.tail k (by rw [ob_tb]; exact hk)
    exact hno _ _ _ h1 (by decide)
theorem opn_sw {b2 b3 : Nat} {w5 W : World} {T T1 gr b7 S : Nat} {kv kv1 : Value} {xs xs1 : List KB} {tb tb1 : Option Addr} {tc tc1 : Nat} {side : Int} {s : StM} {j : Jn} (h : OpS w D b2 b3 side b7 S s w5) (hst : StAt w5 S D s T kv xs tb tc) (hj : JnAt w5 T1 j kv1 xs1 tb1 tc1) (hr : JrI j) (hf : ∀ k ∈ fpJ T1 kv1 xs1, w.heap.size ≤ k) (ho : ∀ k ∈ obT tb1, w.heap.size ≤ k) (hg : gr + 1 < 4294967296)
    (hk : KeepL [S] w5 W) (hS : Bk W S #[.pointer (some ⟨D, 0, none⟩), .int .i64 0, .int .i64 1, .int .i64 ((gr : Int) + 1), .pointer (some ⟨T1, 0, none⟩)] 56) : OpS w D b2 b3 side b7 S ⟨0, 1, gr + 1, j⟩ W := by
  obtain ⟨h1, h2, h3, h4, _⟩ := h
  have hno : ∀ b cs t, Bk w5 b cs t → t ≠ 56 → b ∉ [S] := fun b cs t hb ht => by
    simp only [List.mem_singleton]
    exact hb.ne hst.blk ht
  refine ⟨⟨h1.b2.keepL hk (hno _ _ _ h1.b2 (by decide)), h1.b3.keepL hk (hno _ _ _ h1.b3 (by decide)), h1.b.trans (hk.below h1.b.size (fun k hk => by rw [List.mem_singleton] at hk; omega))⟩, h2.keepL hk (hno _ _ _ h2 (by decide)), h3, h4, T1, kv1, xs1, tb1, tc1, ⟨hS, hj.keepL hk (fun k hk => ?_) (fun k hk => ?_), ⟨by show 1 ≤ 1; omega, hg, hr⟩⟩, hf, ho⟩
  · obtain ⟨cs, t, h1, h2⟩ := hj.fpT k hk
    exact hno _ _ _ h1 (by rcases h2 with rfl | rfl | rfl | rfl <;> decide)
  · obtain ⟨cs, h1⟩ := own_bk hj.tail k (by rw [ob_tb]; exact hk)
    exact hno _ _ _ h1 (by decide)
theorem opn_fin {W w4 w5 : World} {S b7 : Nat} {d' : Dk} {s : StM} {p9 : Option Addr} {F B : List Nat} {q0 : Bool × Dk × StM} {e : Ending} (hd : DkAt W D d' bs bm cp p9) (hs : StIn W S D s F B) (hk : KeepL (fpL D bs bm p) w W) (hp : NewP w p p9) (hF : ∀ k ∈ F, w.heap.size ≤ k) (hB : ∀ k ∈ B, w.heap.size ≤ k)
    (h7 : Bk W b7 #[.pointer (some ⟨S, 0, none⟩)] 26) (hr : ComR D S bs bm cp p9 F B [] q0 (W.alloc (.cells #[.int .i64 0] 23)) e w4) (hk5 : KeepL [W.heap.size] w4 w5) :
    endI e = (if q0.1 = true then 13 else 0) ∧ (∃ p', DkAt w5 D q0.2.1 bs bm cp p' ∧ NewP w p p') ∧ KeepL (fpL D bs bm p) w w5 ∧ (∃ F' B', StIn w5 S D q0.2.2 F' B' ∧ (∀ k ∈ F', w.heap.size ≤ k) ∧ ∀ k ∈ B', w.heap.size ≤ k) ∧ Bk w5 b7 #[.pointer (some ⟨S, 0, none⟩)] 26 := by
  obtain ⟨h1, h1', h4, h5⟩ := hr
  have hb := balloc W (.cells #[.int .i64 0] 23)
  have h6 : SysM W w4 D S bs bm cp p9 F B [] q0.2.1 q0.2.2 := SysM.trans (NewP.refl W p9) (fun k hk => .inl hk) (fun k hk => .inl hk) (.of_below hb) h4 (fun k hk => .inl hk)
  have h7' := h6.own (h5 _ _ _ (Bk.new W _ _) (by decide)) (Nat.le_refl _) hk5 (by decide) (by decide) (by decide)
  obtain ⟨⟨p', e1, e2⟩, ⟨F', B', e3, e4, e5⟩, e6⟩ := h7'
  have hsz := hk.size
  refine ⟨?_, ⟨p', e1, hp.trans e2 hsz⟩, hk.then e6 fun b hb => ?_, ⟨F', B', e3, fun k hk => ?_, fun k hk => ?_⟩, (h5 _ _ _ (bkA h7) (by decide)).keepL hk5 (by simp only [List.mem_singleton]; have := h7.lt; omega)⟩
  · cases hq : q0.1 with
    | true => rw [h1 hq]; rfl
    | false => rw [h1' hq]; rfl
  · rcases List.mem_append.1 hb with hb | hb
    · by_cases hlt : b < w.heap.size
      · exact .inl (hp.fp D bs bm b hb hlt)
      · exact .inr (by omega)
    · exact .inr (hF b hb)
  · rcases e4 k hk with h | h
    · exact hF k h
    · omega
  · rcases e5 k hk with h | h | h
    · exact hB k h
    · simp at h
    · omega
theorem greatest_lt (h : DkAt w D d bs bm cp p) : d.greatest < 4294967296 := by
  have key : ∀ k, k ≤ d.dur.length → grtN d k < 4294967296 := by
    intro k
    induction k with
    | zero => intro _; show (0 : Nat) < _; omega
    | succ k ih =>
      intro hk
      rw [grtN_succ]
      have := ih (by omega)
      have := epoS_lt (h.newOK (i := k) (by omega))
      omega
  exact key _ (Nat.le_refl _)
set_option maxRecDepth 100000 in
set_option maxHeartbeats 2000000 in
theorem open_any (hd : DkAt w D d bs bm cp p) (ha : 0 ≤ d.age ∧ d.age < 4611686018427380000) (side : Int) :
    Calls Try.prog 5 #[.pointer (some ⟨D, 0, none⟩), .int .i64 side] w (OpnP D bs bm cp p (d.openR side) w) := by
  obtain ⟨w1, hw1⟩ : ∃ z, z = w.alloc (.cells #[.pointer (some ⟨D, 0, none⟩)] 22) := ⟨_, rfl⟩
  obtain ⟨w2, hw2⟩ : ∃ z, z = w1.alloc (.cells #[.int .i64 side] 3) := ⟨_, rfl⟩
  obtain ⟨b2, hb2⟩ : ∃ z, z = w.heap.size := ⟨_, rfl⟩
  have hB1 : Below w.heap.size w w1 := by rw [hw1]; exact balloc _ _
  have hB2 : Below w1.heap.size w1 w2 := by rw [hw2]; exact balloc _ _
  have hs1 : w1.heap.size = b2 + 1 := by rw [hw1, World.size_alloc, hb2]
  have HOA : Hid (OpA w D b2 (b2 + 1) side w2) := Lib.hid ⟨by rw [hb2]; exact (show Bk w1 w.heap.size _ _ by rw [hw1]; exact Bk.new _ _ _).past hB2 (by rw [← hb2, hs1]; omega), by rw [← hs1, hw2]; exact Bk.new _ _ _, bnextK hB1 hB2⟩
  have HD := Lib.hid hd; have HA := Lib.hid ha
  have HD2 := Lib.hid (hd.far HOA.out.b)
  have HV := Lib.hid (dvalid_any HD2.out)
  have c0 : w2.cell? ⟨b2, 0, none⟩ = some (.pointer (some ⟨D, 0, none⟩)) := HOA.out.b2.cell 0
  have c1 : w2.cell? ⟨b2 + 1, 0, none⟩ = some (.int .i64 side) := HOA.out.b3.cell 0
  have c3 := HD2.out.c3
  obtain ⟨q, hq⟩ : ∃ q, q = d.openR side := ⟨_, rfl⟩
  have HQ := Lib.hid hq
  rw [← hq]
  have HW1 := Lib.hid hw1; have HB2 := Lib.hid hb2
  clear hd ha hB1 hB2 hs1 hq
  go_enter Try.func5, Try.ntmps5
  go_upto_region 1 with fail
  rw [← hw1, ← hw2, ← hb2]
  clear hw1 hw2 hb2
  go_wp2_with fail
  refine HV.out.mono ?_
  rintro e w' ⟨rfl, rfl⟩
  by_cases hs : side ≠ 0 ∧ side ≠ 1
  · have HQ1 : Hid (q = (2, d, none)) := Lib.hid (by rw [HQ.out]; unfold Dk.openR; rw [if_pos hs])
    have e1 : (side != 0) = true := by simpa using hs.1
    have e2 : (side != 1) = true := by simpa using hs.2
    go_wp2_with fail
    refine bodyPost_ret (results_tmp2 rfl _ _ _) rfl ?_
    exact OpnP.no HD.out HQ1.out HOA.out.b
  have hs' : side = 0 ∨ side = 1 := by omega
  have HQ1 := Lib.hid (HQ.out.trans (show d.openR side = _ from if_neg hs))
  clear hs
  go_upto_region 3 with fail
  go_cut [14] from 14 to 21 (fun v14 wd => v14 = .bool false ∧ w2 = wd)
  case first =>
    rcases hs' with rfl | rfl
    · go_wp2_with fail
      go_meet
      exact ⟨rfl, rfl⟩
    · go_wp2_with fail
      go_meet
      exact ⟨rfl, rfl⟩
  case rest =>
    obtain ⟨w2', rfl⟩ : ∃ z : World, z = wc := ⟨_, rfl⟩
    obtain ⟨rfl, rfl⟩ := hcut
    cases hdn : d.down with
    | true =>
      rw [hdn] at c3
      have HQ2 : Hid (q = (13, d, none)) := Lib.hid (HQ1.out.trans (if_pos hdn))
      clear hdn
      go_wp2_with fail
      refine bodyPost_ret (results_tmp2 rfl _ _ _) rfl ?_
      exact OpnP.no HD.out HQ2.out HOA.out.b
    | false =>
    rw [hdn] at c3
    have HQ2 := Lib.hid (HQ1.out.trans (if_neg (by rw [hdn]; simp)))
    have HDN := Lib.hid hdn
    clear hdn HQ HQ1
    have HG := Lib.hid (greatest_any HD2.out)
    have hgl := greatest_lt HD2.out
    obtain ⟨gr, hgr⟩ : ∃ z, z = d.greatest := ⟨_, rfl⟩
    rw [← hgr] at HG HQ2 hgl
    have HGR := Lib.hid hgr
    clear hgr
    go_upto_region 7 with fail
    go_wp2_with fail
    refine HG.out.mono ?_
    rintro e w3 ⟨rfl, hb3⟩
    have HOA3 := Lib.hid (HOA.out.far hb3)
    clear hb3 HG
    by_cases hov : gr = 4294967295
    · have hov2 : ((gr : Int) == 4294967295) = true := by simp; omega
      have HQ3 : Hid (q = (8, d, none)) := Lib.hid (HQ2.out.trans (if_pos hov))
      clear hov
      go_wp2_with fail
      refine bodyPost_ret (results_tmp2 rfl _ _ _) rfl ?_
      exact OpnP.no HD.out HQ3.out HOA3.out.b
    have hov2 : ((gr : Int) == 4294967295) = false := by simp; omega
    have HQ3 := Lib.hid (HQ2.out.trans (if_neg hov))
    clear hov HQ2 c0 c1 c3
    have HD3 := Lib.hid (HD.out.far HOA3.out.b)
    have c0 : w3.cell? ⟨b2, 0, none⟩ = some (.pointer (some ⟨D, 0, none⟩)) := HOA3.out.b2.cell 0
    have q1 : IntKind.i64.wrap ((gr : Int) + 1) = (gr : Int) + 1 := by simp [IntKind.wrap, IntKind.bits, IntKind.signed]; omega
    have HG1 : Hid (gr + 1 < 4294967296) := Lib.hid (by simp at hov2; omega)
    have HJ0 : Hid (∀ W, Below w3.heap.size w3 W → Calls Try.prog 21 #[.pointer (some ⟨D, 0, none⟩), .int .i64 0] W (JouP (d.journal 0) W)) := Lib.hid fun W hW => journal_any (HD3.out.far hW) 0 (by omega)
    go_upto_region 10 with fail
    go_cut [7] from 7 to 37 (fun v7 wd => ∃ b7 S, v7 = .pointer (some ⟨b7, 0, none⟩) ∧ OpS w D b2 (b2 + 1) side b7 S ⟨0, 0, gr + 1, d.journal 0⟩ wd)
    case first => as_aux_lemma =>
      -- <REGION r10
      refine wp_region_held_drew (S := (fun W => W.cell? ⟨b2, 0, none⟩ = some (.pointer (some ⟨D, 0, none⟩)))) (by kernel_rfl) ?_ (fun hHeld => ?_)
      · (try dsimp only); first | exact c0 | exact c4 | exact (bkA HBK4.out).cell 0 | exact (bkA (bkA HBK4.out)).cell 0 | exact (bkA (bkD HOA3.out.b2)).cell 0 | exact (bkA (HBK4.out.keepL (KeepL.set _ _ _ _) (by simp only [List.mem_singleton]; exact HBK4.out.ne HB7.out (by decide)))).cell 0
      refine wpAnyH_take (i := 0) (oi := ⟨some 30, _, _, _, _, _⟩) (v := ?_) rfl (by kernel_rfl) (by kernel_rfl) (by kernel_rfl) (fun _ _ _ h => h) (Or.inl ⟨by rfl, ?_⟩) (by assumption) ?_
      rotate_left
      · (intro w hSw; (try dsimp only at hSw); go_simp; try with_reducible rfl)
      try simp only [Act.put, List.setIfInBounds_toArray, List.set_cons_zero, List.set_cons_succ]
      refine wpAnyH_take (i := 1) (oi := ⟨some 31, _, _, _, _, _⟩) (v := ?_) rfl (by kernel_rfl) (by kernel_rfl) (by kernel_rfl) (fun _ _ _ h => h) (Or.inl ⟨by rfl, ?_⟩) (by assumption) ?_
      rotate_left
      · (intro w hSw; (try dsimp only at hSw); go_simp; try with_reducible rfl)
      try simp only [Act.put, List.setIfInBounds_toArray, List.set_cons_zero, List.set_cons_succ]
      refine wpAnyH_take (i := 2) (oi := ⟨some 32, _, _, _, _, _⟩) (v := ?_) rfl (by kernel_rfl) (by kernel_rfl) (by kernel_rfl) (fun _ _ _ h => h) (Or.inl ⟨by rfl, ?_⟩) (by assumption) ?_
      rotate_left
      · (intro w hSw; (try dsimp only at hSw); go_simp; try with_reducible rfl)
      try simp only [Act.put, List.setIfInBounds_toArray, List.set_cons_zero, List.set_cons_succ]
      refine wpAnyH_take (i := 3) (oi := ⟨some 33, _, _, _, _, _⟩) (v := ?_) rfl (by kernel_rfl) (by kernel_rfl) (by kernel_rfl) (fun _ _ _ h => h) (Or.inl ⟨by rfl, ?_⟩) (by assumption) ?_
      rotate_left
      · (intro w hSw; (try dsimp only at hSw); go_simp; try with_reducible rfl)
      try simp only [Act.put, List.setIfInBounds_toArray, List.set_cons_zero, List.set_cons_succ]
      refine wpAnyH_ready (rs := [4, 7]) (by kernel_rfl) (by simp) ?_
      refine AllReadyH.cons (o := ⟨some 34, _, _, _, _, _⟩) rfl (fun K hK => ?_) ?_
      · skip
        go_simp
        refine (HJ0.out _ (below_drew8 w3 w3.heap.size)).mono ?_
        rintro e' w4 ⟨T, kv, xs, tb, tc, rfl, hj, hjr, hf, hob, hb4⟩
        have HJ4 := Lib.hid hj; have HJR := Lib.hid hjr; have HF4 : Hid (∀ k ∈ fpJ T kv xs, w3.heap.size ≤ k) := Lib.hid fun k hk => Nat.le_trans (below_drew8 w3 w3.heap.size).size (hf k hk); have HO4 : Hid (∀ k ∈ obT tb, w3.heap.size ≤ k) := Lib.hid fun k hk => Nat.le_trans (below_drew8 w3 w3.heap.size).size (hob k hk); have HB4 := Lib.hid (bnextK (below_drew8 w3 w3.heap.size) hb4)
        have HBK4 := Lib.hid (HOA3.out.b2.past HB4.out HOA3.out.b2.lt)
        have c4 : w4.cell? ⟨b2, 0, none⟩ = some (.pointer (some ⟨D, 0, none⟩)) := HBK4.out.cell 0
        have hb4' := hb4
        clear hj hjr hf hob hb4
        clear hb4'
        go_wp2_with fail
        refine hK.out _ _ ?_ (fun hHeld => ?_)
        · (try dsimp only); first | exact c0 | exact c4 | exact (bkA HBK4.out).cell 0 | exact (bkA (bkA HBK4.out)).cell 0 | exact (bkA (bkD HOA3.out.b2)).cell 0 | exact (bkA (HBK4.out.keepL (KeepL.set _ _ _ _) (by simp only [List.mem_singleton]; exact HBK4.out.ne HB7.out (by decide)))).cell 0
        clear hK K
        try simp only [Act.put, List.setIfInBounds_toArray, List.set_cons_zero, List.set_cons_succ]
        refine wpAnyH_take (i := 5) (oi := ⟨some 35, _, _, _, _, _⟩) (v := ?_) rfl (by kernel_rfl) (by kernel_rfl) (by kernel_rfl) (fun _ _ _ h => h) (Or.inl ⟨by rfl, ?_⟩) (by assumption) ?_
        rotate_left
        · (intro w hSw; (try dsimp only at hSw); go_simp; try with_reducible rfl)
        try simp only [Act.put, List.setIfInBounds_toArray, List.set_cons_zero, List.set_cons_succ]
        refine wpAnyH_ready (rs := [6, 7]) (by kernel_rfl) (by simp) ?_
        refine AllReadyH.cons (o := ⟨some 36, _, _, _, _, _⟩) rfl (fun K hK => ?_) ?_
        · skip
          go_simp
          refine hK.out _ _ ?_ (fun hHeld => ?_)
          · (try dsimp only); first | exact c0 | exact c4 | exact (bkA HBK4.out).cell 0 | exact (bkA (bkA HBK4.out)).cell 0 | exact (bkA (bkD HOA3.out.b2)).cell 0 | exact (bkA (HBK4.out.keepL (KeepL.set _ _ _ _) (by simp only [List.mem_singleton]; exact HBK4.out.ne HB7.out (by decide)))).cell 0
          clear hK K
          try simp only [Act.put, List.setIfInBounds_toArray, List.set_cons_zero, List.set_cons_succ]
          refine wpAnyH_ready (rs := [7]) (by kernel_rfl) (by simp) ?_
          refine AllReadyH.cons (o := ⟨some 7, _, _, _, _, _⟩) rfl (fun K hK => ?_) AllReadyH.nil
          go_simp
          refine hK.out _ _ ?_ (fun hHeld => ?_)
          · (try dsimp only); first | exact c0 | exact c4 | exact (bkA HBK4.out).cell 0 | exact (bkA (bkA HBK4.out)).cell 0 | exact (bkA (bkD HOA3.out.b2)).cell 0 | exact (bkA (HBK4.out.keepL (KeepL.set _ _ _ _) (by simp only [List.mem_singleton]; exact HBK4.out.ne HB7.out (by decide)))).cell 0
          clear hK K
          try simp only [Act.put, List.setIfInBounds_toArray, List.set_cons_zero, List.set_cons_succ]
          refine wpAnyH_ready (rs := [8]) (by kernel_rfl) (by simp) ?_
          refine AllReadyH.cons (o := ⟨none, _, _, _, _, _⟩) rfl (fun K hK => ?_) AllReadyH.nil
          go_simp
          refine hK.out _ _ ?_ (fun hHeld => ?_)
          · (try dsimp only); first | exact c0 | exact c4 | exact (bkA HBK4.out).cell 0 | exact (bkA (bkA HBK4.out)).cell 0 | exact (bkA (bkD HOA3.out.b2)).cell 0 | exact (bkA (HBK4.out.keepL (KeepL.set _ _ _ _) (by simp only [List.mem_singleton]; exact HBK4.out.ne HB7.out (by decide)))).cell 0
          clear hK K
          try simp only [Act.put]
          refine wpAnyH_done (by kernel_rfl) ?_ _
          go_wp2_with fail
          go_meet
          exact ⟨_, _, rfl, opn_end (L := []) HOA3.out HB4.out HJ4.out HJR.out HF4.out HO4.out HG1.out (.of_below (bnextK (balloc _ _) (balloc _ _))) (by simp) (bkN _ _ _ _) (bkA (Bk.new _ _ _)) (Nat.le_succ_of_le HB4.out.size) HB4.out.size⟩
        refine AllReadyH.cons (o := ⟨some 7, _, _, _, _, _⟩) rfl (fun K hK => ?_) AllReadyH.nil
        go_simp
        refine hK.out _ _ ?_ (fun hHeld => ?_)
        · (try dsimp only); first | exact c0 | exact c4 | exact (bkA HBK4.out).cell 0 | exact (bkA (bkA HBK4.out)).cell 0 | exact (bkA (bkD HOA3.out.b2)).cell 0 | exact (bkA (HBK4.out.keepL (KeepL.set _ _ _ _) (by simp only [List.mem_singleton]; exact HBK4.out.ne HB7.out (by decide)))).cell 0
        clear hK K
        try simp only [Act.put, List.setIfInBounds_toArray, List.set_cons_zero, List.set_cons_succ]
        refine wpAnyH_ready (rs := [6]) (by kernel_rfl) (by simp) ?_
        refine AllReadyH.cons (o := ⟨some 36, _, _, _, _, _⟩) rfl (fun K hK => ?_) AllReadyH.nil
        go_simp
        refine hK.out _ _ ?_ (fun hHeld => ?_)
        · (try dsimp only); first | exact c0 | exact c4 | exact (bkA HBK4.out).cell 0 | exact (bkA (bkA HBK4.out)).cell 0 | exact (bkA (bkD HOA3.out.b2)).cell 0 | exact (bkA (HBK4.out.keepL (KeepL.set _ _ _ _) (by simp only [List.mem_singleton]; exact HBK4.out.ne HB7.out (by decide)))).cell 0
        clear hK K
        try simp only [Act.put, List.setIfInBounds_toArray, List.set_cons_zero, List.set_cons_succ]
        refine wpAnyH_ready (rs := [8]) (by kernel_rfl) (by simp) ?_
        refine AllReadyH.cons (o := ⟨none, _, _, _, _, _⟩) rfl (fun K hK => ?_) AllReadyH.nil
        go_simp
        refine hK.out _ _ ?_ (fun hHeld => ?_)
        · (try dsimp only); first | exact c0 | exact c4 | exact (bkA HBK4.out).cell 0 | exact (bkA (bkA HBK4.out)).cell 0 | exact (bkA (bkD HOA3.out.b2)).cell 0 | exact (bkA (HBK4.out.keepL (KeepL.set _ _ _ _) (by simp only [List.mem_singleton]; exact HBK4.out.ne HB7.out (by decide)))).cell 0
        clear hK K
        try simp only [Act.put]
        refine wpAnyH_done (by kernel_rfl) ?_ _
        go_wp2_with fail
        go_meet
        exact ⟨_, _, rfl, opn_end (L := []) HOA3.out HB4.out HJ4.out HJR.out HF4.out HO4.out HG1.out (.of_below (bnextK (balloc _ _) (balloc _ _))) (by simp) (bkA (Bk.new _ _ _)) (bkN _ _ _ _) HB4.out.size (Nat.le_succ_of_le HB4.out.size)⟩
      refine AllReadyH.cons (o := ⟨some 7, _, _, _, _, _⟩) rfl (fun K hK => ?_) AllReadyH.nil
      go_simp
      refine hK.out _ _ ?_ (fun hHeld => ?_)
      · (try dsimp only); first | exact c0 | exact c4 | exact (bkA HBK4.out).cell 0 | exact (bkA (bkA HBK4.out)).cell 0 | exact (bkA (bkD HOA3.out.b2)).cell 0 | exact (bkA (HBK4.out.keepL (KeepL.set _ _ _ _) (by simp only [List.mem_singleton]; exact HBK4.out.ne HB7.out (by decide)))).cell 0
      clear hK K
      try simp only [Act.put, List.setIfInBounds_toArray, List.set_cons_zero, List.set_cons_succ]
      refine wpAnyH_ready (rs := [4]) (by kernel_rfl) (by simp) ?_
      refine AllReadyH.cons (o := ⟨some 34, _, _, _, _, _⟩) rfl (fun K hK => ?_) AllReadyH.nil
      go_simp
      refine (HJ0.out _ (bnextK (below_drew8 w3 w3.heap.size) (balloc _ _))).mono ?_
      rintro e' w4 ⟨T, kv, xs, tb, tc, rfl, hj, hjr, hf, hob, hb4⟩
      have HJ4 := Lib.hid hj; have HJR := Lib.hid hjr; have HF4 : Hid (∀ k ∈ fpJ T kv xs, w3.heap.size ≤ k) := Lib.hid fun k hk => Nat.le_trans (bnextK (below_drew8 w3 w3.heap.size) (balloc _ _)).size (hf k hk); have HO4 : Hid (∀ k ∈ obT tb, w3.heap.size ≤ k) := Lib.hid fun k hk => Nat.le_trans (bnextK (below_drew8 w3 w3.heap.size) (balloc _ _)).size (hob k hk); have HB4 := Lib.hid (bnextK (bnextK (below_drew8 w3 w3.heap.size) (balloc _ _)) hb4)
      have HBK4 := Lib.hid (HOA3.out.b2.past HB4.out HOA3.out.b2.lt)
      have c4 : w4.cell? ⟨b2, 0, none⟩ = some (.pointer (some ⟨D, 0, none⟩)) := HBK4.out.cell 0
      have hb4' := hb4
      clear hj hjr hf hob hb4
      have hb7 : Bk w4 w3.heap.size #[.pointer none] 26 := (Bk.new w3.drew #[.pointer none] 26).past hb4' (Bk.new w3.drew #[.pointer none] 26).lt
      have c7 := hb7.cell 0; have f7 := hb7.froz 0; have l7 := hb7.lt
      have c7' : w4.cell? ⟨w3.heap.size, 0, none⟩ = some (.pointer none) := c7
      have HB7 := Lib.hid hb7
      clear hb4' hb7 c7
      go_wp2_with fail
      refine hK.out _ _ ?_ (fun hHeld => ?_)
      · (try dsimp only); first | exact c0 | exact c4 | exact (bkA HBK4.out).cell 0 | exact (bkA (bkA HBK4.out)).cell 0 | exact (bkA (bkD HOA3.out.b2)).cell 0 | exact (bkA (HBK4.out.keepL (KeepL.set _ _ _ _) (by simp only [List.mem_singleton]; exact HBK4.out.ne HB7.out (by decide)))).cell 0
      clear hK K
      try simp only [Act.put, List.setIfInBounds_toArray, List.set_cons_zero, List.set_cons_succ]
      refine wpAnyH_take (i := 5) (oi := ⟨some 35, _, _, _, _, _⟩) (v := ?_) rfl (by kernel_rfl) (by kernel_rfl) (by kernel_rfl) (fun _ _ _ h => h) (Or.inl ⟨by rfl, ?_⟩) (by assumption) ?_
      rotate_left
      · (intro w hSw; (try dsimp only at hSw); go_simp; try with_reducible rfl)
      try simp only [Act.put, List.setIfInBounds_toArray, List.set_cons_zero, List.set_cons_succ]
      refine wpAnyH_ready (rs := [6]) (by kernel_rfl) (by simp) ?_
      refine AllReadyH.cons (o := ⟨some 36, _, _, _, _, _⟩) rfl (fun K hK => ?_) AllReadyH.nil
      go_simp
      refine hK.out _ _ ?_ (fun hHeld => ?_)
      · (try dsimp only); first | exact c0 | exact c4 | exact (bkA HBK4.out).cell 0 | exact (bkA (bkA HBK4.out)).cell 0 | exact (bkA (bkD HOA3.out.b2)).cell 0 | exact (bkA (HBK4.out.keepL (KeepL.set _ _ _ _) (by simp only [List.mem_singleton]; exact HBK4.out.ne HB7.out (by decide)))).cell 0
      clear hK K
      try simp only [Act.put, List.setIfInBounds_toArray, List.set_cons_zero, List.set_cons_succ]
      refine wpAnyH_ready (rs := [8]) (by kernel_rfl) (by simp) ?_
      refine AllReadyH.cons (o := ⟨none, _, _, _, _, _⟩) rfl (fun K hK => ?_) AllReadyH.nil
      go_simp
      refine hK.out _ _ ?_ (fun hHeld => ?_)
      · (try dsimp only); first | exact c0 | exact c4 | exact (bkA HBK4.out).cell 0 | exact (bkA (bkA HBK4.out)).cell 0 | exact (bkA (bkD HOA3.out.b2)).cell 0 | exact (bkA (HBK4.out.keepL (KeepL.set _ _ _ _) (by simp only [List.mem_singleton]; exact HBK4.out.ne HB7.out (by decide)))).cell 0
      clear hK K
      try simp only [Act.put]
      refine wpAnyH_done (by kernel_rfl) ?_ _
      go_wp2_with fail
      go_meet
      exact ⟨_, _, rfl, opn_end HOA3.out HB4.out HJ4.out HJR.out HF4.out HO4.out HG1.out ((KeepL.set _ _ _ _).trans (.alloc _ _ _)) (fun b hb => by rw [List.mem_singleton] at hb; subst hb; exact ⟨_, HB7.out, Nat.le_refl _⟩) (bkA (HB7.out.set 0 _)) (bkNs _ _ _ _ _) (Nat.le_refl _) HB4.out.size⟩
      -- REGION>
    case rest => as_aux_lemma =>
      obtain ⟨w4, rfl⟩ : ∃ z : World, z = wc := ⟨_, rfl⟩
      obtain ⟨b7, S, rfl, hops⟩ := hcut
      have HOS := Lib.hid hops
      clear hops HJ0 c0
      have HD4 := Lib.hid (HD.out.far HOS.out.1.b)
      have HJ1 := Lib.hid (journal_any HD4.out 1 (by omega))
      have c0 : w4.cell? ⟨b2, 0, none⟩ = some (.pointer (some ⟨D, 0, none⟩)) := HOS.out.1.b2.cell 0
      go_upto_region 11 with fail
      go_wp2_with fail
      refine HJ1.out.mono ?_
      rintro e w5 ⟨T1, kv1, xs1, tb1, tc1, rfl, hj1, hjr1, hf1, ho1, hb5⟩
      have HJ := Lib.hid hj1; have HJR := Lib.hid hjr1
      have HF : Hid (∀ k ∈ fpJ T1 kv1 xs1, w.heap.size ≤ k) := Lib.hid fun k hk => Nat.le_trans HOS.out.1.b.size (hf1 k hk)
      have HO : Hid (∀ k ∈ obT tb1, w.heap.size ≤ k) := Lib.hid fun k hk => Nat.le_trans HOS.out.1.b.size (ho1 k hk)
      have HO5 := Lib.hid (HOS.out.far hb5)
      obtain ⟨g1, g2, g3, g4, T, kv, xs, tb, tc, g5, g6, g7⟩ := HO5.out
      have HST := Lib.hid g5; have HB7 := Lib.hid g2; have HS4 := Lib.hid (And.intro g3 g4)
      have m1 : w5.cell? ⟨T1, 2, none⟩ = some (.bool (d.journal 1).ready) := hj1.blk.cell 2
      have m2 : w5.cell? ⟨T1, 3, none⟩ = some (.int .i64 ((d.journal 1).age : Int)) := hj1.blk.cell 3
      have m3 : w5.cell? ⟨b7, 0, none⟩ = some (.pointer (some ⟨S, 0, none⟩)) := g2.cell 0
      have m4 : w5.cell? ⟨S, 4, none⟩ = some (.pointer (some ⟨T, 0, none⟩)) := g5.blk.cell 4
      have m5 : w5.cell? ⟨T, 2, none⟩ = some (.bool (d.journal 0).ready) := g5.js.blk.cell 2
      have m6 : w5.cell? ⟨T, 3, none⟩ = some (.int .i64 ((d.journal 0).age : Int)) := g5.js.blk.cell 3
      obtain ⟨bc, hbc⟩ : ∃ b : Bool, b = decide ((d.journal 1).ready = true ∧ ((d.journal 0).ready = false ∨ (d.journal 0).age < (d.journal 1).age)) := ⟨_, rfl⟩
      have HNO : Hid (bc = false → OpS w D b2 (b2 + 1) side b7 S ⟨0, d.first.area, gr + 1, d.first.j⟩ w5) := Lib.hid fun h => by
        unfold Dk.first; rw [if_neg (by rw [h] at hbc; exact of_decide_eq_false hbc.symm)]; exact HO5.out
      have HYES : Hid (bc = true → ∀ W, KeepL [S] w5 W → Bk W S #[.pointer (some ⟨D, 0, none⟩), .int .i64 0, .int .i64 1, .int .i64 ((gr : Int) + 1), .pointer (some ⟨T1, 0, none⟩)] 56 → OpS w D b2 (b2 + 1) side b7 S ⟨0, d.first.area, gr + 1, d.first.j⟩ W) := Lib.hid fun h W hk hb => by
        unfold Dk.first; rw [if_pos (by rw [h] at hbc; exact of_decide_eq_true hbc.symm)]
        exact opn_sw HO5.out HST.out HJ.out HJR.out HF.out HO.out HG1.out hk hb
      clear hj1 hjr1 hf1 ho1 hb5 g1 g2 g3 g4 g5 g6 g7
      generalize (d.journal 1).ready = r1 at m1 hbc
      generalize (d.journal 0).ready = r0 at m5 hbc
      generalize (d.journal 1).age = a1 at m2 hbc
      generalize (d.journal 0).age = a0 at m6 hbc
      go_upto_region 12 with fail
      go_cut [66] from 39 to 67 (fun v66 wd => v66 = .bool bc ∧ Qw w5 wd)
      case first => as_aux_lemma =>
        cases r1 with
        | false =>
          obtain rfl : bc = false := by rw [hbc]; simp
          clear hbc
          go_quiet (fail)
          go_wp2_with fail
          go_meet
          exact ⟨rfl, ⟨_, rfl⟩⟩
        | true =>
          cases r0 with
          | false =>
            obtain rfl : bc = true := by rw [hbc]; simp
            clear hbc
            go_quiet (fail)
            go_wp2_with fail
            go_meet
            exact ⟨rfl, ⟨_, rfl⟩⟩
          | true =>
            by_cases hlt : a0 < a1
            · have hlti : (a0 : Int) < (a1 : Int) := by omega
              obtain rfl : bc = true := by rw [hbc]; simpa using hlt
              clear hbc
              go_quiet (fail)
              go_wp2_with fail
              go_meet
              exact ⟨rfl, ⟨_, rfl⟩⟩
            · have hlti : ¬ (a0 : Int) < (a1 : Int) := by omega
              obtain rfl : bc = false := by rw [hbc]; simpa using hlt
              clear hbc
              go_quiet (fail)
              go_wp2_with fail
              go_meet
              exact ⟨rfl, ⟨_, rfl⟩⟩
      case rest => as_aux_lemma =>
        obtain ⟨w6, rfl⟩ : ∃ z : World, z = wc := ⟨_, rfl⟩
        obtain ⟨rfl, hqw⟩ := hcut
        have HB6 : Hid (Below w5.heap.size w5 w6) := Lib.hid (hqw.below _)
        clear hqw hbc m1 m2 m5 m6
        go_upto_if 66 with fail
        go_cut [9] from 67 to 74 (fun v9 wd => OpS w D b2 (b2 + 1) side b7 S ⟨0, d.first.area, gr + 1, d.first.j⟩ wd)
        case first => as_aux_lemma =>
          cases bc with
          | false =>
            have HN := Lib.hid ((HNO.out rfl).far HB6.out)
            clear HNO HYES
            go_wp2_with fail
            go_meet
            exact HN.out
          | true =>
            have n3 : w6.cell? ⟨b7, 0, none⟩ = some (.pointer (some ⟨S, 0, none⟩)) := (HB7.out.past HB6.out HB7.out.lt).cell 0
            have hb6 := HST.out.blk.past HB6.out HST.out.blk.lt
            have n2 : w6.cell? ⟨S, 2, none⟩ = some (.int .i64 ((0 : Nat) : Int)) := hb6.cell 2
            have n4 : w6.cell? ⟨S, 4, none⟩ = some (.pointer (some ⟨T, 0, none⟩)) := hb6.cell 4
            have f2 := hb6.froz 2; have f4 := hb6.froz 4
            go_upto_region 13 with fail
            go_region
            go_wp2_with fail
            go_meet
            have hk : KeepL [S] w6 ((w6.setCell ⟨S, 2, none⟩ (.int .i64 1)).setCell ⟨S, 4, none⟩ (.pointer (some ⟨T1, 0, none⟩))) := (KeepL.set _ _ _ _).trans (KeepL.set _ _ _ _)
            have hs : Bk ((w6.setCell ⟨S, 2, none⟩ (.int .i64 1)).setCell ⟨S, 4, none⟩ (.pointer (some ⟨T1, 0, none⟩))) S #[.pointer (some ⟨D, 0, none⟩), .int .i64 0, .int .i64 1, .int .i64 ((gr : Int) + 1), .pointer (some ⟨T1, 0, none⟩)] 56 := (hb6.set 2 (.int .i64 1)).set 4 (.pointer (some ⟨T1, 0, none⟩))
            exact HYES.out trivial _ (((KeepL.of_below HB6.out).trans hk).trans (.of_below (below_drew8 _ _))) (bkD hs)
        case rest => as_aux_lemma =>
          obtain ⟨w7, rfl⟩ : ∃ z : World, z = wc := ⟨_, rfl⟩
          have HO7 := Lib.hid hcut
          clear hcut HNO HYES HB6 HO5 HST HB7 HS4 HF HO HJ HJR HJ1 HOS m3 m4 c0 HD4
          have hcut := HO7.out
          obtain ⟨⟨k2, k3, kb⟩, k7, k4, k5, T, kv, xs, tb, tc, k6, k8, k9⟩ := hcut
          have HST := Lib.hid k6; have HF := Lib.hid k8; have HO := Lib.hid k9; have HB := Lib.hid kb; have H7 := Lib.hid k7; have H2 := Lib.hid k2; have H3 := Lib.hid k3; have HSS := Lib.hid (And.intro k4 k5)
          have m7 : w7.cell? ⟨b7, 0, none⟩ = some (.pointer (some ⟨S, 0, none⟩)) := k7.cell 0
          have m4 : w7.cell? ⟨S, 4, none⟩ = some (.pointer (some ⟨T, 0, none⟩)) := k6.blk.cell 4
          have m3 : w7.cell? ⟨b2 + 1, 0, none⟩ = some (.int .i64 side) := k3.cell 0
          have m2 : w7.cell? ⟨T, 2, none⟩ = some (.bool d.first.j.ready) := k6.js.blk.cell 2
          have mt : w7.cell? ⟨T, 4, none⟩ = some (.int .i64 (d.first.j.side : Int)) := k6.js.blk.cell 4
          have HD7 := Lib.hid (HD.out.far kb)
          obtain ⟨rd, hrd⟩ : ∃ z, z = d.first.j.ready := ⟨_, rfl⟩
          obtain ⟨sd, hsd⟩ : ∃ z, z = d.first.j.side := ⟨_, rfl⟩
          have HRD := Lib.hid hrd
          rw [← hrd] at m2 HQ3
          rw [← hsd] at mt HQ3
          obtain ⟨bd, hbd⟩ : ∃ b : Bool, b = decide (rd = true ∧ (sd : Int) ≠ side) := ⟨_, rfl⟩
          clear k2 k3 kb k7 k4 k5 k6 k8 k9 hrd hsd
          go_upto_region 14 with fail
          go_cut [91] from 74 to 92 (fun v91 wd => v91 = .bool bd ∧ Qw w7 wd)
          case first => as_aux_lemma =>
            cases rd with
            | false =>
              obtain rfl : bd = false := by rw [hbd]; simp
              clear hbd
              go_quiet (fail)
              go_wp2_with fail
              go_meet
              exact ⟨rfl, ⟨_, rfl⟩⟩
            | true =>
              by_cases hlt : (sd : Int) = side
              · have hlti : ((sd : Int) != side) = false := by simp [hlt]
                obtain rfl : bd = false := by rw [hbd]; simpa using hlt
                clear hbd hlt
                go_quiet (fail)
                go_wp2_with fail
                go_meet
                exact ⟨rfl, ⟨_, rfl⟩⟩
              · have hlti : ((sd : Int) != side) = true := by simpa using hlt
                obtain rfl : bd = true := by rw [hbd]; simpa using hlt
                clear hbd hlt
                go_quiet (fail)
                go_wp2_with fail
                go_meet
                exact ⟨rfl, ⟨_, rfl⟩⟩
          case rest => as_aux_lemma =>
            obtain ⟨w8, rfl⟩ : ∃ z : World, z = wc := ⟨_, rfl⟩
            obtain ⟨rfl, hqw⟩ := hcut
            have HB8 : Hid (Below w7.heap.size w7 w8) := Lib.hid (hqw.below _)
            clear hqw m2 m3 m4 mt m7
            cases bd with
            | true =>
              have hb := of_decide_eq_true hbd.symm
              have HQ4 : Hid (q = (11, d, none)) := Lib.hid (HQ3.out.trans (if_pos hb))
              clear hbd hb
              go_wp2_with fail
              refine bodyPost_ret (results_tmp2 rfl _ _ _) rfl ?_
              exact OpnP.no HD.out HQ4.out (bnextK HB.out HB8.out)
            | false =>
              have hb := of_decide_eq_false hbd.symm
              have HQ4 := Lib.hid (HQ3.out.trans (if_neg hb))
              clear hbd hb HQ3
              have HD8 := Lib.hid (HD7.out.far HB8.out)
              have HA8 := HA.out
              obtain ⟨ag, hag⟩ : ∃ z, z = d.age := ⟨_, rfl⟩
              have HAG := Lib.hid hag
              rw [← hag] at HA8
              have e2 : w8.cell? ⟨b2, 0, none⟩ = some (.pointer (some ⟨D, 0, none⟩)) := (H2.out.past HB8.out H2.out.lt).cell 0
              have e4 : w8.cell? ⟨D, 4, none⟩ = some (.int .i64 ag) := by rw [hag]; exact HD8.out.c4
              have f4 := HD8.out.f 4
              clear hag
              go_upto_region 17 with fail
              obtain ⟨w9, hw9⟩ : ∃ z, z = w8.setCell ⟨D, 4, none⟩ (.int .i64 (ag + 1)) := ⟨_, rfl⟩
              rw [← hw9]
              have hdm : DkMut w8 w9 D bs bm cp p { d with age := ag + 1 } := by rw [hw9]; exact HD8.out.setAge (ag + 1)
              have hk9 : KeepL [D] w8 w9 := by rw [hw9]; exact KeepL.set _ _ _ _
              have hno : ∀ b cs t, Bk w8 b cs t → t ≠ 52 → b ∉ [D] := fun b cs t hb ht => by
                simp only [List.mem_singleton]
                exact hb.ne HD8.out.blk ht
              obtain ⟨p9, hd9, hp9⟩ := hdm.1
              have g2 := (H2.out.past HB8.out H2.out.lt).keepL hk9 (hno _ _ _ (H2.out.past HB8.out H2.out.lt) (by decide))
              have g3 := (H3.out.past HB8.out H3.out.lt).keepL hk9 (hno _ _ _ (H3.out.past HB8.out H3.out.lt) (by decide))
              have g7 := (H7.out.past HB8.out H7.out.lt).keepL hk9 (hno _ _ _ (H7.out.past HB8.out H7.out.lt) (by decide))
              have hst8 := HST.out.far HB8.out
              have gS := hst8.blk.keepL hk9 (hno _ _ _ hst8.blk (by decide))
              have gJ := hst8.js.keepL hk9 (fun k hk => by
                obtain ⟨cs, t, h1, h2⟩ := hst8.js.fpT k hk
                exact hno _ _ _ h1 (by rcases h2 with rfl | rfl | rfl | rfl <;> decide)) (fun k hk => by
                obtain ⟨cs, h1⟩ := own_bk hst8.js.tail k (by rw [ob_tb]; exact hk)
                exact hno _ _ _ h1 (by decide))
              have HK9 : Hid (KeepL (fpL D bs bm p) w w9) := Lib.hid ((KeepL.of_below (bnextK HB.out HB8.out)).trans hdm.2)
              have HD9 := Lib.hid hd9; have HP9 := Lib.hid hp9; have G2 := Lib.hid g2; have G3 := Lib.hid g3; have G7 := Lib.hid g7; have GS := Lib.hid gS; have GJ := Lib.hid gJ
              have m7 : w9.cell? ⟨b7, 0, none⟩ = some (.pointer (some ⟨S, 0, none⟩)) := g7.cell 0
              have m2 : w9.cell? ⟨b2, 0, none⟩ = some (.pointer (some ⟨D, 0, none⟩)) := g2.cell 0
              have m4 : w9.cell? ⟨D, 4, none⟩ = some (.int .i64 (ag + 1)) := hd9.c4
              have s1 : w9.cell? ⟨S, 1, none⟩ = some (.int .i64 0) := gS.cell 1
              have sf := gS.froz 1
              clear hw9 hdm hk9 hno hd9 hp9 g2 g3 g7 hst8 gS gJ e2 e4 f4
              go_region
              obtain ⟨W, hW⟩ : ∃ z, z = (w9.setCell ⟨S, 1, none⟩ (.int .i64 (ag + 1))).drew := ⟨_, rfl⟩
              rw [← hW]
              have hkW : KeepL [S] w9 W := by rw [hW]; exact (KeepL.set _ _ _ _).trans (.of_below (below_drew8 _ _))
              have hno : ∀ b cs t, Bk w9 b cs t → t ≠ 56 → b ∉ [S] := fun b cs t hb ht => by
                simp only [List.mem_singleton]
                exact hb.ne GS.out ht
              have hjw := GJ.out.keepL hkW (fun k hk => by
                obtain ⟨cs, t, h1, h2⟩ := GJ.out.fpT k hk
                exact hno _ _ _ h1 (by rcases h2 with rfl | rfl | rfl | rfl <;> decide)) (fun k hk => by
                obtain ⟨cs, h1⟩ := own_bk GJ.out.tail k (by rw [ob_tb]; exact hk)
                exact hno _ _ _ h1 (by decide))
              have HSTW : Hid (StAt W S D ⟨ag + 1, d.first.area, gr + 1, d.first.j⟩ T kv xs tb tc) := Lib.hid ⟨by rw [hW]; exact bkD (GS.out.set 1 (.int .i64 (ag + 1))), hjw, HST.out.ok.area, HST.out.ok.epoch, HST.out.ok.jr⟩
              have HDW : Hid (DkAt W D { d with age := ag + 1 } bs bm cp p9) := Lib.hid (HD9.out.keepT hkW fun b hb => by
                rw [List.mem_singleton] at hb; subst hb
                exact ⟨_, _, GS.out, by decide, by decide, by decide, by decide⟩)
              have HKW : Hid (KeepL (fpL D bs bm p) w W) := Lib.hid (HK9.out.then hkW fun b hb => by rw [List.mem_singleton] at hb; subst hb; exact .inr HSS.out.1)
              have x7 := G7.out.keepL hkW (hno _ _ _ G7.out (by decide))
              have x3 := G3.out.keepL hkW (hno _ _ _ G3.out (by decide))
              have x2 := G2.out.keepL hkW (hno _ _ _ G2.out (by decide))
              have HPW : Hid (NewP w p p9) := Lib.hid (NewP.trans (NewP.refl w p) HP9.out (bnextK HB.out HB8.out).size)
              have hfe : d.first.epoch = gr + 1 := by rw [HGR.out]; unfold Dk.first; split <;> rfl
              have hcl : ∃ q0 : Bool × Dk × StM, q = (if q0.1 = true then (13, q0.2.1, none) else (0, q0.2.1, some q0.2.2)) ∧
                  Calls Try.prog 23 #[.pointer (some ⟨b7, 0, none⟩), .pointer (some ⟨b2 + 1, 0, none⟩), .pointer (some ⟨b2, 0, none⟩)] (W.alloc (.cells #[.int .i64 0] 23)) (ComR D S bs bm cp p9 (S :: fpJ T kv xs) (obT tb) [] q0 (W.alloc (.cells #[.int .i64 0] 23))) := by
                have hba := balloc W (.cells #[.int .i64 0] 23)
                cases hr : rd with
                | true =>
                  refine ⟨(false, { d with age := ag + 1 }, ⟨ag + 1, d.first.area, gr + 1, d.first.j⟩), ?_, open1_rdy (HDW.out.far hba) (HSTW.out.far hba) (by show d.first.j.ready = true; rw [← HRD.out]; exact hr) (bkA x7)⟩
                  rw [HQ4.out, if_pos hr, HAG.out, hfe]
                  rfl
                | false =>
                  obtain ⟨sn, hsn, hs1⟩ : ∃ n : Nat, side = (n : Int) ∧ n ≤ 1 := by
                    rcases hs' with h | h
                    · exact ⟨0, by rw [h]; rfl, by omega⟩
                    · exact ⟨1, by rw [h]; rfl, by omega⟩
                  rw [hsn] at x3
                  refine ⟨StM.commitW { d with age := ag + 1 } ⟨ag + 1, 0, gr + 1, Jn.zero 0⟩ [rdyR sn], ?_, open1_new (HDW.out.far hba) (HSTW.out.far hba) (by show d.first.j.ready = false; rw [← HRD.out]; exact hr) ⟨by show 0 ≤ ag + 1; omega, by show ag + 1 < _; omega⟩ sn hs1 (by show 1 ≤ gr + 1; omega) (bkA x7) (bkA x3) (bkA x2)⟩
                  rw [HQ4.out, if_neg (by rw [hr]; simp)]
                  unfold Dk.begin8
                  rw [← HGR.out, ← HAG.out, hsn, Int.toNat_natCast]
              obtain ⟨q0, hq0, hcall⟩ := hcl
              have HQ0 := Lib.hid hq0
              have X7 := Lib.hid x7
              have HGD := Lib.hid (guard_any (w := W) (K := 23) (caps := #[.pointer (some ⟨b7, 0, none⟩), .pointer (some ⟨b2 + 1, 0, none⟩), .pointer (some ⟨b2, 0, none⟩)]) (fun W => enters_of Try.func23 (by kernel_rfl) rfl _ W) hcall (fun e w2 hr => ⟨hr.2.2.2 _ _ _ (Bk.new W _ _) (by decide), by
                cases hq : q0.1 with
                | true => exact .inr (hr.1 hq)
                | false => exact .inl ⟨0, hr.2.1 hq⟩⟩))
              have hmf : ∀ (fn : Fn) (first cap : Array Value) (w : World), (Instr.makeFunc fn first cap).run Try.prog w = .ok (.func fn first cap) w := fun _ _ _ _ => rfl
              clear hW hkW hno hjw x7 x3 x2 hfe hq0 hcall HQ4 m7 m2 m4 s1 sf HST GS GJ G2 G3 G7 HD9 HK9 HP9
              go_wp2_with fail
              refine HGD.out.mono ?_
              rintro e w5 ⟨e4, w4', hr4, rfl, hk5⟩
              have hfin := opn_fin HDW.out ⟨T, kv, xs, tb, tc, HSTW.out, rfl, rfl⟩ HKW.out HPW.out (by
                intro k hk
                rcases List.mem_cons.1 hk with rfl | hk
                · exact HSS.out.1
                · exact HF.out k hk) HO.out X7.out hr4 hk5
              have HFIN := Lib.hid hfin.2
              rw [hfin.1]
              have y7 : w5.cell? ⟨b7, 0, none⟩ = some (.pointer (some ⟨S, 0, none⟩)) := hfin.2.2.2.2.cell 0
              clear hfin hr4 hk5 HGD
              cases hq : q0.1 with
              | true =>
                have HQF : Hid (q = (13, q0.2.1, none)) := Lib.hid (HQ0.out.trans (if_pos hq))
                clear hq
                go_wp2_with fail
                refine bodyPost_ret (results_tmp2 rfl _ _ _) rfl ?_
                unfold OpnP
                rw [HQF.out]
                exact ⟨HFIN.out.1, HFIN.out.2.1, .inl ⟨rfl, rfl⟩⟩
              | false =>
                have HQF : Hid (q = (0, q0.2.1, some q0.2.2)) := Lib.hid (HQ0.out.trans (if_neg (by rw [hq]; simp)))
                clear hq
                go_wp2_with fail
                refine bodyPost_ret (results_tmp2 rfl _ _ _) rfl ?_
                unfold OpnP
                rw [HQF.out]
                obtain ⟨f1, f2, ⟨F', B', f3, f4, f5⟩, _⟩ := HFIN.out
                exact ⟨f1, f2, .inr ⟨_, S, F', B', rfl, rfl, f3, f4, f5⟩⟩
end
#print axioms open_any
end Go.Proofs.Ytdgmjedkhjeadaa
/- The chapter's example: what it says plainly. Conditions: none. -/
namespace Go.Proofs.Ytdgmjedkhjeadaa
set_option linter.unusedVariables false
def ko8 : Int × Dk × Option StM := (Dk.new 8).openR 0
def ks8 : StM := ko8.2.2.getD ⟨0, 0, 0, Jn.zero 0⟩
def ka8 : Int × Dk × StM := ks8.addR ko8.2.1 7 [true, false, true, false]
def kt8 : Int × List Pc × List Bool × Dk × StM := ka8.2.2.takeR ka8.2.1 2
theorem ko8_1 : ko8.1 = 0 := by kernel_rfl
theorem ko8_2 : ko8.2.2 = some ks8 := by kernel_rfl
theorem ko8_d : ko8.2.1.age = 1 ∧ ko8.2.1.dur.length = 8 ∧ ks8.age = 1 ∧ ks8.epoch = 1 ∧ ks8.area = 0 ∧ ks8.j.place = 1 ∧ ks8.j.keys = [] ∧ ks8.j.last = 0 ∧ ks8.j.tail.kind = 5 := ⟨by kernel_rfl, by kernel_rfl, by kernel_rfl, by kernel_rfl, by kernel_rfl, by kernel_rfl, by kernel_rfl, by kernel_rfl, by kernel_rfl⟩
theorem ka8_1 : ka8.1 = 0 := by kernel_rfl
theorem ka8_d : ka8.2.1.age = 1 ∧ ka8.2.1.dur.length = 8 ∧ ka8.2.2.age = 1 ∧ ka8.2.2.epoch = 1 ∧ ka8.2.2.area = 0 ∧ ka8.2.2.j.place = 2 ∧ ka8.2.2.j.keys = [⟨7, [true, false, true, false], [false, false, false, false]⟩] ∧ ka8.2.2.j.last = 7 ∧ ka8.2.2.j.tail.a = 4 := ⟨by kernel_rfl, by kernel_rfl, by kernel_rfl, by kernel_rfl, by kernel_rfl, by kernel_rfl, by kernel_rfl, by kernel_rfl, by kernel_rfl⟩
theorem kt8_1 : kt8.1 = 0 ∧ kt8.2.1 = [⟨7, 0, 2⟩] ∧ kt8.2.2.1 = [true, false] := ⟨by kernel_rfl, by kernel_rfl, by kernel_rfl⟩
theorem kt8_d : kt8.2.2.2.1.dur.length = 8 ∧ kt8.2.2.2.2.area = 0 ∧ kt8.2.2.2.2.j.place = 3 := ⟨by kernel_rfl, by kernel_rfl, by kernel_rfl⟩
theorem kt8_e : kt8.2.2.2.2.room kt8.2.2.2.1 = 1 ∧ kt8.2.2.2.2.last kt8.2.2.2.1 = 7 := ⟨by kernel_rfl, by kernel_rfl⟩
theorem ks8_use : UseW ko8.2.1 ks8 := by
  obtain ⟨h1, h2, h3, h4, h5, h6, h7, h8, h9⟩ := ko8_d
  refine ⟨⟨by omega, by omega, ?_⟩, by omega, ⟨by rw [h7]; simp, by rw [h7]; simp, by omega, fun h => by omega⟩⟩
  unfold StM.lim; rw [h2, h5, h6]; omega
theorem ka8_use : UseW ka8.2.1 ka8.2.2 := by
  obtain ⟨h1, h2, h3, h4, h5, h6, h7, h8, h9⟩ := ka8_d
  refine ⟨⟨by omega, by omega, ?_⟩, by omega, ⟨by rw [h7]; simp, by rw [h7, h8]; simp, by omega, fun _ h => by omega⟩⟩
  unfold StM.lim; rw [h2, h5, h6]; omega
#print axioms ka8_use
end Go.Proofs.Ytdgmjedkhjeadaa
/- The chapter's example holds: the contract of known. Conditions: none. -/
namespace Go.Proofs.Ytdgmjedkhjeadaa
open Go.RowKit
set_option linter.unusedVariables false
theorem pc_rd {X : World} {N : Nat} {v : Value} {p : Pc} (h : X.ownsRow N 45 3 v 1 (pcC [p])) : ∃ b c, v = .slice (some ⟨b, 0, none⟩) 1 c ∧ X.cell? ⟨b, 0, none⟩ = some (.int .i64 (p.id : Int)) ∧ X.cell? ⟨b, 1, none⟩ = some (.int .i64 (p.f : Int)) ∧ X.cell? ⟨b, 2, none⟩ = some (.int .i64 (p.t : Int)) := by
  obtain ⟨A, c, rfl, h2⟩ := PcR.of_own (ps := [p]) h
  obtain ⟨b, rfl, _, h3, h4, h5⟩ := h2 0 p rfl
  exact ⟨b, c, rfl, h3, h4, h5⟩
/-- A disk and a store that lie above a bound are changed above it. -/
theorem SysM.out {w w' : World} {D S bs bm cp N : Nat} {p : Option Addr} {F B X : List Nat} {d' : Dk} {s' : StM} (hfp : ∀ k ∈ fpL D bs bm p ++ F, N ≤ k) (hN : N ≤ w.heap.size) (h : SysM w w' D S bs bm cp p F B X d' s') :
    ∃ p' F' B', DkAt w' D d' bs bm cp p' ∧ StIn w' S D s' F' B' ∧ (∀ k ∈ fpL D bs bm p' ++ F', N ≤ k) ∧ Below N w w' := by
  obtain ⟨⟨p1, h1, h2⟩, ⟨F1, B1, h3, h4, h5⟩, h6⟩ := h
  refine ⟨p1, F1, B1, h1, h3, fun k hk => ?_, h6.below hN hfp⟩
  rcases List.mem_append.1 hk with hk | hk
  · by_cases hlt : k < w.heap.size
    · exact hfp k (List.mem_append_left _ (h2.fp D bs bm k hk hlt))
    · omega
  · rcases h4 k hk with h | h
    · exact hfp k (List.mem_append_right _ h)
    · omega
theorem OpnP.out {w w' : World} {D bs bm cp N : Nat} {p : Option Addr} {q : Int × Dk × Option StM} {e : Ending} {s : StM} (hq : q.2.2 = some s) (hfp : ∀ k ∈ fpL D bs bm p, N ≤ k) (hN : N ≤ w.heap.size) (h : OpnP D bs bm cp p q w e w') :
    ∃ S p' F' B', e = .returned (.tuple #[.pointer (some ⟨S, 0, none⟩), .int .i64 q.1]) ∧ DkAt w' D q.2.1 bs bm cp p' ∧ StIn w' S D s F' B' ∧ (∀ k ∈ fpL D bs bm p' ++ F', N ≤ k) ∧ Below N w w' := by
  obtain ⟨⟨p1, h1, h2⟩, hk, hc⟩ := h
  rcases hc with ⟨hn, _⟩ | ⟨s', S, F, B, hs, he, hst, hF, hB⟩
  · rw [hq] at hn; cases hn
  · rw [hq] at hs
    injection hs with hs
    subst hs
    refine ⟨S, p1, F, B, he, h1, hst, fun k hk => ?_, hk.below hN hfp⟩
    rcases List.mem_append.1 hk with hk | hk
    · by_cases hlt : k < w.heap.size
      · exact hfp k (h2.fp D bs bm k hk hlt)
      · omega
    · exact Nat.le_trans hN (hF k hk)
set_option maxRecDepth 100000 in
set_option maxHeartbeats 2000000 in
theorem known8_any (w : World) : Calls Try.prog 18 #[] w fun e w' => e = .returned (.bool true) ∧ Below w.heap.size w w' := by
  have qe : ∀ w, (binOp BinOp.eql 45 (.agg #[.int .i64 7, .int .i64 0, .int .i64 2]) (.agg #[.int .i64 7, .int .i64 0, .int .i64 2])).run Try.prog w = .ok (.bool true) w := fun w => by kernel_rfl
  have HN := Lib.hid (newDisk_any 8 w)
  go_enter Try.func18, Try.ntmps18
  go_wp2_with fail
  refine HN.out.mono ?_
  rintro e w1 ⟨_, h2, hb1⟩
  obtain ⟨D, bs, bm, rfl, hd, hD, hbs, hbm⟩ := h2 (by omega)
  have HB1 := Lib.hid hb1; have HD1 : Hid (DkAt w1 D (Dk.new 8) bs bm 8 none) := Lib.hid hd
  have HLO := Lib.hid (And.intro hD (And.intro hbs hbm))
  have HOP := Lib.hid (open_any HD1.out ⟨by decide, by decide⟩ 0)
  clear h2 hb1 hd hD hbs hbm HN
  go_wp2_with fail
  refine HOP.out.mono ?_
  intro e w2 hop
  have hop : OpnP D bs bm 8 none ko8 w1 e w2 := hop
  obtain ⟨S, p2, F, B, rfl, hd2, hst, hfp, hbl⟩ := hop.out (N := w.heap.size) ko8_2 (fun k hk => by
    unfold fpL at hk
    simp only [List.mem_cons, List.not_mem_nil, or_false] at hk
    have := HLO.out
    rcases hk with rfl | rfl | rfl <;> omega) HB1.out.size
  rw [ko8_1]
  have HD2 := Lib.hid hd2; have HS2 := Lib.hid hst; have HFP := Lib.hid hfp
  have HB2 : Hid (Below w.heap.size w w2) := Lib.hid (HB1.out.trans hbl)
  clear hd2 hst hfp hbl HOP hop HLO
  go_upto_region 3 with fail
  obtain ⟨w3, hw3⟩ : ∃ z, z = w2.alloc (.cells #[.bool true, .bool false, .bool true, .bool false] 4) := ⟨_, rfl⟩
  have hb3 : Below w2.heap.size w2 w3 := by rw [hw3]; exact balloc _ _
  have hrd : Rd w3 w3.heap.size 1 (some ⟨w2.heap.size, 0, none⟩) 4 ([true, false, true, false].map Value.bool) := by
    rw [hw3, World.size_alloc]; exact Rd.new w2 #[.bool true, .bool false, .bool true, .bool false] 4 1 4 rfl
  have HB3 := Lib.hid (bnextK HB2.out hb3)
  have HD3 := Lib.hid (HD2.out.far hb3); have HS3 := Lib.hid (HS2.out.far hb3)
  have HAD := Lib.hid (add8_any HD3.out HS3.out (fun _ => ⟨ks8_use.u, ks8_use.e⟩) 7 (some ⟨w2.heap.size, 0, none⟩) 4 4 [true, false, true, false] (by omega) (by omega) hrd)
  have HW3 := Lib.hid hw3
  clear hb3 hrd hw3
  go_wp2_with fail
  rw [← HW3.out]
  refine HAD.out.mono ?_
  rintro e w4 ⟨rfl, hsy⟩
  have hsy : SysM w3 w4 D S bs bm 8 p2 F B [] ka8.2.1 ka8.2.2 := hsy
  rw [show (ks8.addR ko8.2.1 7 [true, false, true, false]).1 = 0 from ka8_1]
  obtain ⟨p4, F4, B4, hd4, hs4, hfp4, hbl4⟩ := hsy.out HFP.out HB3.out.size
  have HD4 := Lib.hid hd4; have HS4 := Lib.hid hs4; have HFP4 := Lib.hid hfp4
  have HB4 : Hid (Below w.heap.size w w4) := Lib.hid (HB3.out.trans hbl4)
  have HTK := Lib.hid (take_any HD4.out HS4.out (fun _ => ka8_use) 2 (by omega))
  clear hd4 hs4 hfp4 hbl4 hsy HAD
  go_wp2_with fail
  refine HTK.out.mono ?_
  intro e w5 htk
  have htk : TakP D S bs bm 8 p4 F4 B4 kt8 w4 e w5 := htk
  obtain ⟨v, bv, rfl, ho, hob, hsy⟩ := htk
  obtain ⟨e1, e2, e3⟩ := kt8_1
  rw [e1]
  rw [e2] at ho
  rw [e3] at hob
  obtain ⟨b, c, rfl, p0, p1, p2'⟩ := pc_rd ho
  obtain ⟨A8, c8, rfl, _⟩ := own_form hob
  obtain ⟨g, hg, b0, b1⟩ : ∃ g, A8 = some ⟨g, 0, none⟩ ∧ w5.cell? ⟨g, 0, none⟩ = some (.bool true) ∧ w5.cell? ⟨g, 1, none⟩ = some (.bool false) := by
    obtain ⟨_, h⟩ := Rd.own hob
    obtain ⟨g, off, hA, _, hr⟩ := h (by decide)
    rcases hob.2 with ⟨h0, _⟩ | ⟨g', cap, cur, h0, _⟩
    · injection h0 with h0; subst h0; cases hA
    · injection h0 with h0
      rw [h0] at hA
      injection hA with hA
      injection hA with hg ho
      subst hg
      subst ho
      exact ⟨_, h0, hr 0 _ rfl, hr 1 _ rfl⟩
  subst hg
  obtain ⟨p5, F5, B5, hd5, hs5, hfp5, hbl5⟩ := hsy.out HFP4.out HB4.out.size
  have HRM := Lib.hid (fun W (h : Below w5.heap.size w5 W) => room_any (hd5.far h) (hs5.far h) (fun _ => by
    obtain ⟨h1, h2, h3⟩ := kt8_d
    unfold StM.lim; rw [h1, h2, h3]; omega))
  have HLT := Lib.hid (fun W (h : Below w5.heap.size w5 W) => last_any (hd5.far h) (hs5.far h))
  obtain ⟨r1, r2⟩ := kt8_e
  rw [r1] at HRM
  rw [r2] at HLT
  have HB5 : Hid (Below w.heap.size w w5) := Lib.hid (HB4.out.trans hbl5)
  clear ho hob hd5 hs5 hfp5 hbl5 hsy HTK
  go_wp2_with fail
  refine (HRM.out _ (Below.refl _ _)).mono ?_
  rintro e w6 ⟨rfl, nq, rfl⟩
  go_wp2_with fail
  refine (HLT.out _ (Qw.below ⟨nq, rfl⟩ _)).mono ?_
  rintro e w7 ⟨rfl, nr, rfl⟩
  go_wp2_with fail
  go_ret
  exact ⟨rfl, HB5.out.trans (Qw.below ⟨nq + nr, rfl⟩ _)⟩
#print axioms known8_any
end Go.Proofs.Ytdgmjedkhjeadaa
/- The contract of Keys. Conditions: as the statement says. -/
namespace Go.Proofs.Ytdgmjedkhjeadaa
open Go.RowKit
set_option linter.unusedVariables false
abbrev Ho := Nat × List Bool
def keysH (ks : List Ky) : List Ho := ks.map fun k => (k.id, k.used)
abbrev HoX := Ho × Option Addr × Nat
def hoC (xs : List HoX) : List Value := xs.flatMap fun x => [.int .i64 (x.1.1 : Int), .slice x.2.1 x.1.2.length x.2.2]
def hoB (N : Nat) (w : World) (x : HoX) : Prop := w.ownsRow N 4 1 (.slice x.2.1 x.1.2.length x.2.2) x.1.2.length (x.1.2.map Value.bool)
/-- A list of holdings in memory, whose blocks are new. -/
def HoAt (N : Nat) (w : World) (v : Value) (hs : List Ho) : Prop := ∃ xs : List HoX, xs.map (·.1) = hs ∧ w.ownsRow N 41 2 v xs.length (hoC xs) ∧ ∀ x ∈ xs, hoB N w x
theorem HoAt.nil (N : Nat) (w : World) : HoAt N w (.slice none 0 0) [] := ⟨[], rfl, World.ownsRow_nil _ _ _ _, by simp⟩
theorem hoB.past {N : Nat} {w w' : World} {x : HoX} (h : hoB N w x) (hb : Below w.heap.size w w') : hoB N w' x := ownsRow_past8 h hb
theorem hoB.grown {N N2 n : Nat} {w w' : World} {x : HoX} {v : Value} {xs : List Value} (h : hoB N w x) (ho : w.ownsRow N2 41 2 v n xs) (hg : w.grownBy w' v.ownBlock) : hoB N w' x :=
  ownsRow_keepB h (keepL_grown hg) (fun k hk hm => by
    obtain ⟨cs, h1⟩ := own_bk h k hk
    obtain ⟨cs', h2⟩ := own_bk ho k hm
    exact h1.ne h2 (by decide) rfl)
theorem elH8 : ElemB Try.prog 30 41 2 32 := ElemB.of Try.underlying30 (by kernel_rfl : (Try.prog.info? 41).map (fun i => (i.zero, i.size, i.bytes)) = some (some (.agg #[.int .i64 0, .slice none 0 0]), 2, 32)) rfl (by decide)
theorem hoC_snoc (xs : List HoX) (x : HoX) : hoC (xs ++ [x]) = hoC xs ++ [.int .i64 (x.1.1 : Int), .slice x.2.1 x.1.2.length x.2.2] := by unfold hoC; rw [List.flatMap_append]; simp
def SK8 (kb q : Nat) (ub : Option Addr) (n c : Nat) (W : World) : Prop := W.cell? ⟨kb, 0, none⟩ = some (.int .i64 (q : Int)) ∧ W.cell? ⟨kb, 2, none⟩ = some (.slice ub n c)
theorem sk_keep {wi w4 w5 : World} {x : KB} {k : Ky} {N n : Nat} {v : Value} {ys : List Value} (h : SK8 x.kb k.id (some ⟨x.ub, 0, none⟩) k.used.length x.cu w4) (ha : KyAt wi x k) (hb : Below wi.heap.size wi w4) (ho : w4.ownsRow N 41 2 v n ys) (hg : w4.grownBy w5 v.ownBlock) : SK8 x.kb k.id (some ⟨x.ub, 0, none⟩) k.used.length x.cu w5 := by
  have h4 := ha.blk.past hb ha.blk.lt
  have h5 := h4.keepL (keepL_grown hg) (nob_ty ho h4 (by decide))
  exact ⟨h5.cell 0, h5.cell 2⟩
section
variable {w w' : World} {S D : Nat} {d : Dk} {s : StM} {bs bm cp : Nat} {p : Option Addr} {F B : List Nat}
set_option maxRecDepth 100000 in
set_option maxHeartbeats 2000000 in
theorem keys8_any (hd : DkAt w D d bs bm cp p) (hs : StIn w S D s F B) : Calls Try.prog 9 #[.pointer (some ⟨S, 0, none⟩)] w fun e w' => ∃ v, e = .returned v ∧ HoAt w.heap.size w' v (if s.age = d.age then keysH s.j.keys else []) ∧ Below w.heap.size w w' := by
  have HC := Lib.hid (check_any hd hs)
  by_cases he : s.age = d.age
  · rw [if_pos he] at HC ⊢
    obtain ⟨T, kv, xs, tb, tc, h1, _, _⟩ := hs
    obtain ⟨kA, kc, hkv⟩ := h1.js.form
    have HST := Lib.hid h1
    have c4 : w.cell? ⟨S, 4, none⟩ = some (.pointer (some ⟨T, 0, none⟩)) := h1.blk.cell 4
    have t0 : w.cell? ⟨T, 0, none⟩ = some kv := h1.js.blk.cell 0
    have hkl := h1.js.ok.keys
    rw [hkv] at t0
    have HKV := Lib.hid hkv
    obtain ⟨kn, hkn⟩ : ∃ n, n = s.j.keys.length := ⟨_, rfl⟩
    have HKN := Lib.hid hkn
    rw [← hkn] at t0 hkl
    clear hd h1 he hkv hkn
    go_enter Try.func9, Try.ntmps9
    go_wp2_with fail
    refine HC.out.mono ?_
    rintro e w1 ⟨rfl, nq, rfl⟩
    have HB1 : Hid (Below w.heap.size w (w.drewN nq)) := Lib.hid (Qw.below ⟨nq, rfl⟩ _)
    go_wp2_with fail
    go_loopw [3, 17] (fun u j wr => ∃ (i : Nat) (ys : List HoX), i ≤ kn ∧ j = .int .i64 i ∧ ys.map (·.1) = (keysH s.j.keys).take i ∧ wr.ownsRow w.heap.size 41 2 u i (hoC ys) ∧ (∀ y ∈ ys, hoB w.heap.size wr y) ∧ Below w.heap.size w wr) (fun _ j _ => kn - (intOf j).toNat)
    case atStart => exact ⟨0, [], Nat.zero_le _, rfl, rfl, World.ownsRow_nil _ _ _ _, by simp, HB1.out⟩
    case round =>
      obtain ⟨i, ys, hi, rfl, hys, ho, hbo, hb⟩ := hrel
      obtain ⟨wi, rfl⟩ : ∃ z : World, z = wr := ⟨_, rfl⟩
      have HYS := Lib.hid hys; have HO := Lib.hid ho; have HBO := Lib.hid hbo; have HB := Lib.hid hb
      clear hys ho hbo hb c4 t0
      by_cases hlt : i < kn
      · have hki : (i : Int) < (kn : Int) := by omega
        have hil : i < s.j.keys.length := by have := HKN.out; omega
        have HSI := Lib.hid (HST.out.far HB.out)
        obtain ⟨kg, kc', x, k, hkv, hcap, hx, hkk, ci, hat⟩ := HSI.out.js.ptr hil
        rw [HKV.out] at hkv
        injection hkv with hkv1 _ hkv2
        subst hkv1
        subst hkv2
        unfold KB.pv at ci
        have HAT := Lib.hid hat
        obtain ⟨us, hus⟩ := hat.used
        have HUS := Lib.hid hus
        have hlen : k.used.length ≤ 1000 := hat.big
        have HKH : Hid ((keysH s.j.keys).take (i + 1) = (keysH s.j.keys).take i ++ [(k.id, k.used)]) := Lib.hid (by
          unfold keysH
          rw [List.take_add_one, List.getElem?_map, hkk]; rfl)
        have HSK : Hid (∀ W, Below wi.heap.size wi W → SK8 x.kb k.id (some ⟨x.ub, 0, none⟩) k.used.length x.cu W) := Lib.hid fun W hW => ⟨(HAT.out.blk.past hW HAT.out.blk.lt).cell 0, (HAT.out.blk.past hW HAT.out.blk.lt).cell 2⟩
        have HS0 := Lib.hid (HSK.out wi (Below.refl _ _))
        have HCLN : Hid (Calls Try.prog 28 #[.slice (some ⟨x.ub, 0, none⟩) k.used.length x.cu] wi.drew fun e w' => ∃ A' c', e = .returned (.slice A' k.used.length c') ∧ k.used.length ≤ c' ∧ w'.ownsRow wi.drew.heap.size 4 1 (.slice A' k.used.length c') k.used.length (k.used.map Value.bool) ∧ Below wi.drew.heap.size wi.drew w') := Lib.hid (clone_bo _ _ _ _ _ (by omega) (by
          refine ⟨by simp, fun h0 => ⟨x.ub, 0, rfl, (HUS.out.past (below_drew8 wi _) HUS.out.lt).lt, fun j u hu => ?_⟩⟩
          rw [Nat.zero_add, (HUS.out.past (below_drew8 wi _) HUS.out.lt).cell, List.getElem?_toArray, List.getElem?_append_left (List.getElem?_eq_some_iff.1 hu).1]
          exact hu))
        clear hx hkk hat hcap hus
        go_upto_region 7 with fail
        -- <REGION r7
        refine wp_region_held_drew (S := (fun W => W.cell? ⟨x.kb, 0, none⟩ = some (.int .i64 (k.id : Int)) ∧ W.cell? ⟨x.kb, 2, none⟩ = some (.slice (some ⟨x.ub, 0, none⟩) k.used.length x.cu))) (by kernel_rfl) ?_ (fun hHeld => ?_)
        · (try dsimp only); first | exact HS0.out | exact HS4.out | exact HSA.out | exact HS5.out
        refine wpAnyH_take (i := 0) (oi := ⟨some 21, _, _, _, _, _⟩) (v := ?_) rfl (by kernel_rfl) (by kernel_rfl) (by kernel_rfl) (fun _ _ _ h => h) (Or.inl ⟨by rfl, ?_⟩) (by assumption) ?_
        rotate_left
        · (intro w hSw; (try dsimp only at hSw); go_simp; try with_reducible rfl)
        try simp only [Act.put, List.setIfInBounds_toArray, List.set_cons_zero, List.set_cons_succ]
        refine wpAnyH_take (i := 1) (oi := ⟨some 22, _, _, _, _, _⟩) (v := ?_) rfl (by kernel_rfl) (by kernel_rfl) (by kernel_rfl) (fun _ _ _ h => h) (Or.inl ⟨by rfl, ?_⟩) (by assumption) ?_
        rotate_left
        · (intro w hSw; (try dsimp only at hSw); go_simp; try with_reducible rfl)
        try simp only [Act.put, List.setIfInBounds_toArray, List.set_cons_zero, List.set_cons_succ]
        refine wpAnyH_take (i := 2) (oi := ⟨some 23, _, _, _, _, _⟩) (v := ?_) rfl (by kernel_rfl) (by kernel_rfl) (by kernel_rfl) (fun _ _ _ h => h) (Or.inl ⟨by rfl, ?_⟩) (by assumption) ?_
        rotate_left
        · (intro w hSw; (try dsimp only at hSw); go_simp; try with_reducible rfl)
        try simp only [Act.put, List.setIfInBounds_toArray, List.set_cons_zero, List.set_cons_succ]
        refine wpAnyH_take (i := 3) (oi := ⟨some 24, _, _, _, _, _⟩) (v := ?_) rfl (by kernel_rfl) (by kernel_rfl) (by kernel_rfl) (fun _ _ _ h => h) (Or.inl ⟨by rfl, ?_⟩) (by assumption) ?_
        rotate_left
        · (intro w hSw; (try dsimp only at hSw); go_simp; try with_reducible rfl)
        try simp only [Act.put, List.setIfInBounds_toArray, List.set_cons_zero, List.set_cons_succ]
        refine wpAnyH_take (i := 4) (oi := ⟨some 25, _, _, _, _, _⟩) (v := ?_) rfl (by kernel_rfl) (by kernel_rfl) (by kernel_rfl) (fun _ _ _ h => h) (Or.inl ⟨by rfl, ?_⟩) (by assumption) ?_
        rotate_left
        · (intro w hSw; (try dsimp only at hSw); go_simp; try with_reducible rfl)
        try simp only [Act.put, List.setIfInBounds_toArray, List.set_cons_zero, List.set_cons_succ]
        refine wpAnyH_take (i := 5) (oi := ⟨some 26, _, _, _, _, _⟩) (v := ?_) rfl (by kernel_rfl) (by kernel_rfl) (by kernel_rfl) (fun _ _ _ h => h) (Or.inl ⟨by rfl, ?_⟩) (by assumption) ?_
        rotate_left
        · (intro w hSw; (try dsimp only at hSw); go_simp; try with_reducible rfl)
        try simp only [Act.put, List.setIfInBounds_toArray, List.set_cons_zero, List.set_cons_succ]
        refine wpAnyH_take (i := 6) (oi := ⟨some 27, _, _, _, _, _⟩) (v := ?_) rfl (by kernel_rfl) (by kernel_rfl) (by kernel_rfl) (fun _ _ _ h => h) (Or.inl ⟨by rfl, ?_⟩) (by assumption) ?_
        rotate_left
        · (intro w hSw; (try dsimp only at hSw); go_simp; try with_reducible rfl)
        try simp only [Act.put, List.setIfInBounds_toArray, List.set_cons_zero, List.set_cons_succ]
        refine wpAnyH_take (i := 7) (oi := ⟨some 28, _, _, _, _, _⟩) (v := ?_) rfl (by kernel_rfl) (by kernel_rfl) (by kernel_rfl) (fun _ _ _ h => h) (Or.inl ⟨by rfl, ?_⟩) (by assumption) ?_
        rotate_left
        · (intro w hSw; (try dsimp only at hSw); go_simp; try with_reducible rfl)
        try simp only [Act.put, List.setIfInBounds_toArray, List.set_cons_zero, List.set_cons_succ]
        refine wpAnyH_take (i := 8) (oi := ⟨some 29, _, _, _, _, _⟩) (v := ?_) rfl (by kernel_rfl) (by kernel_rfl) (by kernel_rfl) (fun _ _ _ h => h) (Or.inl ⟨by rfl, ?_⟩) (by assumption) ?_
        rotate_left
        · (intro w hSw; (try dsimp only at hSw); go_simp; try with_reducible rfl)
        try simp only [Act.put, List.setIfInBounds_toArray, List.set_cons_zero, List.set_cons_succ]
        refine wpAnyH_ready (rs := [9]) (by kernel_rfl) (by simp) ?_
        refine AllReadyH.cons (o := ⟨some 30, _, _, _, _, _⟩) rfl (fun K hK => ?_) AllReadyH.nil
        go_simp
        refine HCLN.out.mono ?_
        rintro e' w4 ⟨A', c', rfl, hc4, ho4, hb4⟩
        have HBD : Hid (Below wi.heap.size wi w4) := Lib.hid (bnextK (below_drew8 wi _) hb4)
        have HB4 := Lib.hid (bnextK HB.out HBD.out)
        have HC4 : Hid (hoB w.heap.size w4 ((k.id, k.used), A', c')) := Lib.hid (ownsRow_mono ho4 (Nat.le_trans HB.out.size (below_drew8 wi wi.heap.size).size))
        have HS4 := Lib.hid (HSK.out w4 HBD.out)
        have HO4 := Lib.hid (ownsRow_past8 HO.out HBD.out)
        have HBO4 : Hid (∀ y ∈ ys, hoB w.heap.size w4 y) := Lib.hid fun y hy => (HBO.out y hy).past HBD.out
        have hs4 : w.heap.size ≤ w4.heap.size := HB4.out.size
        have HSA := Lib.hid (HSK.out (w4.alloc (.cells #[.int .i64 (k.id : Int), .slice A' k.used.length c'] 41)) (bnextK HBD.out (balloc _ _)))
        clear hb4 ho4
        go_wp2_with fail
        refine hK.out _ _ ?_ (fun hHeld => ?_)
        · (try dsimp only); first | exact HS0.out | exact HS4.out | exact HSA.out | exact HS5.out
        clear hK K
        try simp only [Act.put, List.setIfInBounds_toArray, List.set_cons_zero, List.set_cons_succ]
        refine wpAnyH_take (i := 10) (oi := ⟨some 31, _, _, _, _, _⟩) (v := ?_) rfl (by kernel_rfl) (by kernel_rfl) (by kernel_rfl) (fun _ _ _ h => h) (Or.inl ⟨by rfl, ?_⟩) (by assumption) ?_
        rotate_left
        · (intro w hSw; (try dsimp only at hSw); go_simp; try with_reducible rfl)
        try simp only [Act.put, List.setIfInBounds_toArray, List.set_cons_zero, List.set_cons_succ]
        refine wpAnyH_ready (rs := [11]) (by kernel_rfl) (by simp) ?_
        refine AllReadyH.cons (o := ⟨some 32, _, _, _, _, _⟩) rfl (fun K hK => ?_) AllReadyH.nil
        go_simp
        refine hK.out _ _ ?_ (fun hHeld => ?_)
        · (try dsimp only); first | exact HS0.out | exact HS4.out | exact HSA.out | exact HS5.out
        clear hK K
        try simp only [Act.put, List.setIfInBounds_toArray, List.set_cons_zero, List.set_cons_succ]
        refine wpAnyH_ready (rs := [12]) (by kernel_rfl) (by simp) ?_
        refine AllReadyH.cons (o := ⟨some 33, _, _, _, _, _⟩) rfl (fun K hK => ?_) AllReadyH.nil
        refine step_pushL8 elH8 (.tmp 21) (.tmp 32) rfl rfl w.heap.size i _ (by rfl) HO4.out (by rfl) (by rfl) (fun u hu => by simp at hu; rcases hu with rfl | rfl <;> rfl) (by omega) (by decide) hs4 ?_
        intro v' w5 ho5 hb5 hg5 _
        obtain ⟨A9, d9, rfl, _⟩ := own_form ho5
        have HO5 : Hid (w5.ownsRow w.heap.size 41 2 (.slice A9 (i + 1) d9) (i + 1) (hoC (ys ++ [((k.id, k.used), A', c')]))) := Lib.hid (by rw [hoC_snoc]; exact ho5)
        have HG5 : Hid (∀ y, hoB w.heap.size w4 y → hoB w.heap.size w5 y) := Lib.hid fun y hy => hy.grown HO4.out hg5
        have HB5 := Lib.hid (HB4.out.trans hb5)
        have HS5 := Lib.hid (sk_keep HS4.out HAT.out HBD.out HO4.out hg5)
        clear ho5 hb5 hg5
        refine hK.out _ _ ?_ (fun hHeld => ?_)
        · (try dsimp only); first | exact HS0.out | exact HS4.out | exact HSA.out | exact HS5.out
        clear hK K
        try simp only [Act.put, List.setIfInBounds_toArray, List.set_cons_zero, List.set_cons_succ]
        refine wpAnyH_take (i := 13) (oi := ⟨some 3, _, _, _, _, _⟩) (v := ?_) rfl (by kernel_rfl) (by kernel_rfl) (by kernel_rfl) (fun _ _ _ h => h) (Or.inl ⟨by rfl, ?_⟩) (by assumption) ?_
        rotate_left
        · (intro w hSw; (try dsimp only at hSw); go_simp; try with_reducible rfl)
        try simp only [Act.put, List.setIfInBounds_toArray, List.set_cons_zero, List.set_cons_succ]
        refine wpAnyH_done (by kernel_rfl) ?_ _
        go_wp2_with fail
        go_roundw
        case rel => exact ⟨i + 1, ys ++ [((k.id, k.used), A', c')], by omega, by go_num, by rw [HKH.out, List.map_append, HYS.out]; rfl, HO5.out, fun y hy => (by rcases List.mem_append.1 hy with hy | hy; exact HG5.out y (HBO4.out y hy); rw [List.mem_singleton] at hy; subst hy; exact HG5.out _ HC4.out), HB5.out⟩
        case measure => simp [intOf]; omega
        -- REGION>
      · have hki : ¬ (i : Int) < (kn : Int) := by omega
        obtain rfl : i = kn := by omega
        go_wp2_with fail
        go_ret
        have hl : ys.length = i := by
          have := congrArg List.length HYS.out
          unfold keysH at this
          rw [List.length_map, List.length_take, List.length_map] at this
          have := HKN.out
          omega
        refine ⟨_, rfl, ⟨ys, ?_, by rw [hl]; exact HO.out, HBO.out⟩, HB.out⟩
        rw [HYS.out, List.take_of_length_le (by unfold keysH; rw [List.length_map]; have := HKN.out; omega)]
  · rw [if_neg he] at HC ⊢
    clear hd hs he
    go_enter Try.func9, Try.ntmps9
    go_wp2_with fail
    refine HC.out.mono ?_
    rintro e w1 ⟨rfl, nq, rfl⟩
    go_wp2_with fail
    go_ret
    exact ⟨_, rfl, HoAt.nil _ _, Qw.below ⟨nq, rfl⟩ _⟩
end
#print axioms keys8_any
end Go.Proofs.Ytdgmjedkhjeadaa
/- The contract of Left. Conditions: as the statement says. -/
namespace Go.Proofs.Ytdgmjedkhjeadaa
open Go.RowKit
set_option linter.unusedVariables false
attribute [local go_sem] Oper.semAt_some
theorem runsB_sum (l : List Bool) (v : Bool) (hi : Nat) : ∀ f i, ((runsB l v hi f i).map fun x => x.2 - x.1).foldr (· + ·) 0 ≤ hi - i
  | 0, i => by simp [runsB]
  | f + 1, i => by
    rw [runsB]
    split
    · simp
    · rename_i hlt
      split
      · have h1 := endB_le l v (hi - i) i
        have := runsB_sum l v hi f (endB l v (hi - i) i + 1)
        simp only [List.map_cons, List.foldr_cons]
        omega
      · have := runsB_sum l v hi f (i + 1)
        omega
theorem pcsN_freeK (side : Int) (k : Ky) : pcsN (freeK side k) ≤ k.used.length := by
  have h1 := laneN_le k.used.length side
  have h2 := runsB_sum k.used false (laneN k.used.length side).2 ((laneN k.used.length side).2 + 1 - (laneN k.used.length side).1) (laneN k.used.length side).1
  unfold pcsN freeK runsL
  rw [List.map_map]
  have e : ((fun p : Pc => p.t - p.f) ∘ fun x : Nat × Nat => (⟨k.id, x.1, x.2⟩ : Pc)) = fun x : Nat × Nat => x.2 - x.1 := rfl
  rw [e]
  omega
theorem pcsN_free {keys : List Ky} {side : Int} (h : ∀ k ∈ keys, k.used.length ≤ 1000) : pcsN (freeL keys side) ≤ keys.length * 1000 := by
  induction keys with
  | nil => simp [freeL, pcsN]
  | cons k ks ih =>
    have h1 := ih fun x hx => h x (by simp [hx])
    have h2 := pcsN_freeK side k
    have h3 := h k (by simp)
    unfold freeL at h1 ⊢
    rw [List.flatMap_cons, pcsN_append, List.length_cons]
    omega
theorem pcsN_pre {a b : List Pc} (h : a <+: b) : pcsN a ≤ pcsN b := by
  obtain ⟨t, rfl⟩ := h
  rw [pcsN_append]
  omega
def StM.left (d : Dk) (s : StM) (lane : Int) : Nat := if s.age = d.age ∧ (lane = 0 ∨ lane = 1) then pcsN (freeL s.j.keys lane) else 0
theorem results_cellI {fn : Func} {p : Tmp} (h : fn.results = #[.cell p 3]) (tmps : Array Value) (w : World) (g : Nat) (x : Int) (hp : tmps.getD p undef = .pointer (some ⟨g, 0, none⟩)) (hc : w.cell? ⟨g, 0, none⟩ = some (.int .i64 x)) :
    (results fn tmps).run Try.prog w = .ok (.int .i64 x) w := by
  have hp' : tmps[p]?.getD undef = .pointer (some ⟨g, 0, none⟩) := by simpa using hp
  simp [results, h, hp', asAddr, go_sem, hc]
/-- The state of Left's range. -/
def LfS (w w4 : World) (bn : Nat) (q : Nat) (W : World) : Prop := Bk W bn #[.int .i64 (q : Int)] 3 ∧ Below w.heap.size w W ∧ w4.heap.size ≤ W.heap.size
theorem LfS.iter {w w4 X Y : World} {bn : Nat} {q : Nat} {row : Option Nat} {n₀ : Nat} (h : LfS w w4 bn q X) (hs : w.heap.size ≤ n₀) (hg : X.grownBy Y row) (hr : ∀ r, row = some r → n₀ ≤ r ∧ ∃ o : Obj, X.heap[r]? = some o ∧ o.isCells = false) : LfS w w4 bn q Y := by
  obtain ⟨h1, h4, h5⟩ := h
  exact ⟨bk_iter h1 hg hr, h4.grown hg h4.size (fun j hj => Nat.le_trans hs (hr j hj).1), Nat.le_trans h5 hg.size⟩
section
variable {w w' : World} {S D : Nat} {d : Dk} {s : StM} {bs bm cp : Nat} {p : Option Addr} {F B : List Nat}
def RetN (x : Nat) (w : World) (e : Ending) (w' : World) : Prop := e = .returned (.int .i64 (x : Int)) ∧ Below w.heap.size w w'
set_option maxRecDepth 100000 in
set_option maxHeartbeats 2000000 in
theorem left8_any (hd : DkAt w D d bs bm cp p) (hs : StIn w S D s F B) (lane : Int) :
    Calls Try.prog 13 #[.pointer (some ⟨S, 0, none⟩), .int .i64 lane] w (RetN (s.left d lane) w) := by
  obtain ⟨w1, hw1⟩ : ∃ z, z = w.alloc (.cells #[.int .i64 0] 3) := ⟨_, rfl⟩
  have hb1 : Below w.heap.size w w1 := by rw [hw1]; exact balloc _ _
  have hbn : Bk w1 w.heap.size #[.int .i64 0] 3 := by rw [hw1]; exact Bk.new _ _ _
  have HC := Lib.hid (check_any (hd.far hb1) (hs.far hb1))
  have HS := Lib.hid hs; have HB1 := Lib.hid hb1; have HBN := Lib.hid hbn
  obtain ⟨q, hq⟩ : ∃ q, q = s.left d lane := ⟨_, rfl⟩
  have HQ := Lib.hid hq
  rw [← hq]
  obtain ⟨bn, hbn2⟩ : ∃ b, b = w.heap.size := ⟨_, rfl⟩
  have HBE := Lib.hid hbn2
  rw [← hbn2] at hbn HBN
  obtain ⟨cr, hcr⟩ : ∃ z : Int, z = if s.age = d.age then 0 else 13 := ⟨_, rfl⟩
  rw [← hcr] at HC
  have HCR := Lib.hid hcr
  clear hd hs hq hbn hcr
  refine (callsIn_wide (n := 6)).1 ?_
  refine callsIn_of_wp_marks Try.func13 rfl trivial ?_ rfl
  simp only [Try.ntmps13, List.size_toArray, List.length_cons, List.length_nil, Nat.reduceAdd, Nat.reduceSub, Array.replicate_succ, Array.replicate_zero, List.push_toArray, List.append_toArray, List.nil_append, List.cons_append]
  refine wpIn_wide.2 ?_
  go_upto_region 1 with fail
  rw [← hw1, ← hbn2]
  clear hw1 hb1 hbn2
  obtain ⟨bc, hbc⟩ : ∃ b : Bool, b = decide (s.age = d.age ∧ (lane = 0 ∨ lane = 1)) := ⟨_, rfl⟩
  go_cut [16] from 6 to 17 (fun v16 wd => v16 = .bool (!bc) ∧ Qw w1 wd)
  case first => as_aux_lemma =>
    by_cases ha : s.age = d.age
    · have hz : cr = 0 := by rw [HCR.out, if_pos ha]
      subst hz
      by_cases h0 : lane = 0
      · obtain rfl : bc = true := by rw [hbc]; simp [ha, h0]
        subst h0
        clear hbc ha
        go_wp2_with fail
        refine HC.out.mono ?_
        rintro e w2 ⟨rfl, nq, rfl⟩
        go_wp2_with fail
        go_meet
        exact ⟨rfl, ⟨nq, rfl⟩⟩
      · by_cases h1 : lane = 1
        · obtain rfl : bc = true := by rw [hbc]; simp [ha, h1]
          subst h1
          clear hbc ha
          go_wp2_with fail
          refine HC.out.mono ?_
          rintro e w2 ⟨rfl, nq, rfl⟩
          go_wp2_with fail
          go_meet
          exact ⟨rfl, ⟨nq, rfl⟩⟩
        · obtain rfl : bc = false := by rw [hbc]; simp [ha, h0, h1]
          have e0 : (lane != 0) = true := by simpa using h0
          have e1 : (lane != 1) = true := by simpa using h1
          clear hbc ha h0 h1
          go_wp2_with fail
          refine HC.out.mono ?_
          rintro e w2 ⟨rfl, nq, rfl⟩
          go_wp2_with fail
          go_meet
          exact ⟨rfl, ⟨nq, rfl⟩⟩
    · have hz : cr = 13 := by rw [HCR.out, if_neg ha]
      subst hz
      obtain rfl : bc = false := by rw [hbc]; simp [ha]
      clear hbc ha
      go_wp2_with fail
      refine HC.out.mono ?_
      rintro e w2 ⟨rfl, nq, rfl⟩
      go_wp2_with fail
      go_meet
      exact ⟨rfl, ⟨nq, rfl⟩⟩
  case rest =>
    obtain ⟨w2, rfl⟩ : ∃ z : World, z = wc := ⟨_, rfl⟩
    obtain ⟨rfl, hqw⟩ := hcut
    have HB2 := Lib.hid (bnextK HB1.out (hqw.below _))
    have HBN2 := Lib.hid (HBN.out.past (hqw.below _) HBN.out.lt)
    clear hqw HC HB1 HBN
    cases bc with
    | false =>
      have HQ2 : Hid (q = 0) := Lib.hid (by rw [HQ.out]; unfold StM.left; rw [if_neg (of_decide_eq_false hbc.symm)])
      have c0 : w2.cell? ⟨bn, 0, none⟩ = some (.int .i64 0) := HBN2.out.cell 0
      have f0 := HBN2.out.froz 0
      clear hbc
      go_wp2_with fail
      have HBW : Hid (Below w.heap.size w (w2.setCell ⟨bn, 0, none⟩ (.int .i64 0))) := Lib.hid (HB2.out.trans ((KeepL.set _ _ _ _).below (L := [bn]) HB2.out.size (fun k hk => by rw [List.mem_singleton] at hk; subst hk; rw [HBE.out]; exact Nat.le_refl _)))
      refine ⟨_, results_cellI rfl _ _ bn 0 rfl ((HBN2.out.set 0 (.int .i64 0)).cell 0), ?_⟩
      exact ⟨by rw [HQ2.out]; rfl, HBW.out⟩
    | true =>
      have hb := of_decide_eq_true hbc.symm
      have HQ2 : Hid (q = pcsN (freeL s.j.keys lane)) := Lib.hid (by rw [HQ.out]; unfold StM.left; rw [if_pos hb])
      clear hbc hb
      obtain ⟨T, kv, xs, tb, tc, hst, hF, hB⟩ := HS.out.far HB2.out
      have HST := Lib.hid hst
      have HKN : Hid (pcsN (freeL s.j.keys lane) ≤ 1001000) := Lib.hid (by
        have h1 := pcsN_free (keys := s.j.keys) (side := lane) (fun k hk => by
          obtain ⟨i, hi, rfl⟩ := List.mem_iff_getElem.1 hk
          have hx : xs[i]? = some (xs[i]'(by rw [hst.js.xlen]; exact hi)) := List.getElem?_eq_getElem _
          exact (hst.js.keys i _ _ hx (List.getElem?_eq_getElem hi)).big)
        have := hst.js.ok.keys
        omega)
      have HKB : Hid (∀ k ∈ s.j.keys, k.used.length ≤ 1000) := Lib.hid (fun k hk => by
        obtain ⟨i, hi, rfl⟩ := List.mem_iff_getElem.1 hk
        have hx : xs[i]? = some (xs[i]'(by rw [hst.js.xlen]; exact hi)) := List.getElem?_eq_getElem _
        exact (hst.js.keys i _ _ hx (List.getElem?_eq_getElem hi)).big)
      have HFR := Lib.hid (free_any (L := [bn]) HST.out lane (fun k hk => by rw [List.mem_singleton] at hk; subst hk; exact HBN2.out.lt))
      clear hst hF hB
      go_wp2_with fail
      refine HFR.out.mono ?_
      rintro e w4 ⟨rfl, hcap, hb4⟩
      have HCAP := Lib.hid hcap
      have HB4 := Lib.hid (bnextK HB2.out hb4)
      have HBN4 := Lib.hid (HBN2.out.past hb4 HBN2.out.lt)
      have HSQ := Lib.hid (free1_any (L := [bn]) (side := lane) 5 HCAP.out (fun k hk => by rw [List.mem_singleton] at hk; subst hk; exact HBN4.out.lt))
      have HGD : Hid (∀ x ∈ freeL s.j.keys lane, PcG s.j.keys x) := Lib.hid fun x hx => freeL_good hx
      obtain ⟨fl, hfl⟩ : ∃ l, l = freeL s.j.keys lane := ⟨_, rfl⟩
      rw [← hfl] at HSQ HQ2 HGD HKN
      clear hcap hb4 hfl HFR HST HBN2
      go_wp2_with fail
      -- <RANGE
      refine (wpIn_wide (n := 6)).1 ?_
      refine wpIn_rangeFunc_ownB rfl (by decide) (gf := 49) (lb := freeLb w2.heap.size (w2.heap.size + 1)) rfl trivial (enters_of Try.func49 (by kernel_rfl) rfl) HSQ.out (fun _ _ _ _ _ _ h _ _ _ => h) (fun h1 h2 => h1.trans h2) (fun W l o o' _ ho hc _ => KpS.putObj [bn] W l o o' ho hc) (Below.refl _ _) (fun x v W h => by subst h; rfl)
        (fun pre WW => LfS w w4 bn (pcsN pre) WW)
        (fun c pre WW => False)
        ?hI ?hIx ⟨HBN4.out, HB4.out, Nat.le_refl _⟩
        (fun x a' WW => ∃ b, a' = { tmps := #[.pointer (some ⟨S, 0, none⟩), .int .i64 lane, undef, undef, .pointer (some ⟨bn, 0, none⟩), .pointer (some ⟨b, 0, none⟩), u6, u7, u8, u9, u10, u11, u12, u13, u14, u15, .bool false, .pointer (some ⟨S, 0, none⟩), .int .i64 lane, .func (.func 49) #[] (freeLb w2.heap.size (w2.heap.size + 1)), pcV x, undef, undef, undef, undef, undef, undef, undef, undef], defers := [] } ∧ Bk WW b #[.int .i64 (x.id : Int), .int .i64 (x.f : Int), .int .i64 (x.t : Int)] 45 ∧ w4.heap.size ≤ b)
        ?hAx ?assign ?body ?done ?stop
      case hI =>
        rintro pre X Y row h hg hr
        exact h.iter HB4.out.size hg hr
      case hIx =>
        rintro c pre X Y row h hg hr
        exact h
      case hAx =>
        rintro x a' s X Y row ⟨b, h1, h2, h3⟩ hg hr
        exact ⟨b, h1, bk_iter h2 hg hr, h3⟩
      case assign =>
        rintro l pre x v W K hpre rfl hts hK
        unfold pcV at hK ⊢
        refine wpIn_region_lit (wpListIn_of_plain8 (fun a w h => h) _ _ _ (by rfl) ?_)
        go_wp2_with fail
        have hb5 := balloc W (.cells #[.int .i64 (x.id : Int), .int .i64 (x.f : Int), .int .i64 (x.t : Int)] 45)
        exact hK _ _ ⟨hb5.size, fun k o _ ho _ => (hb5.block k (Array.getElem?_eq_some_iff.1 ho).1).trans ho⟩ (KpS.of_below hb5) (hts.iter (n₀ := w4.heap.size) HB4.out.size (grown_of_below8 hb5) (fun r e => by cases e)) ⟨W.heap.size, rfl, Bk.new _ _ _, hts.2.2⟩
      case body =>
        rintro l pre x a' WW hpre ⟨h1, h2, h3⟩ ⟨b, rfl, hbx, hbge⟩
        have hxg := HGD.out x (hpre.subset (by simp))
        have hsum := pcsN_pre hpre
        rw [pcsN_append] at hsum
        have HPX : Hid (pcsN (pre ++ [x]) = pcsN pre + (x.t - x.f)) := Lib.hid (by rw [pcsN_append]; simp [pcsN])
        have hx1 : pcsN [x] = x.t - x.f := by simp [pcsN]
        rw [hx1] at hsum
        have hft := hxg.lt
        have hkn := HKN.out
        generalize pcsN pre = r at *
        have x1 : WW.cell? ⟨b, 1, none⟩ = some (.int .i64 (x.f : Int)) := hbx.cell 1
        have x2 : WW.cell? ⟨b, 2, none⟩ = some (.int .i64 (x.t : Int)) := hbx.cell 2
        have n0 : WW.cell? ⟨bn, 0, none⟩ = some (.int .i64 (r : Int)) := h1.cell 0
        have nf := h1.froz 0
        have hxt : x.t ≤ 1001000 + x.f := by omega
        have hxf : x.f ≤ 1000000 := by
          obtain ⟨k, hk, e1, e2, e3⟩ := hxg
          have := HKB.out k hk
          omega
        have HE : Hid ((r : Int) + ((x.t : Int) - (x.f : Int)) = ((r + (x.t - x.f) : Nat) : Int)) := Lib.hid (by omega)
        have H1 := Lib.hid h1; have H2 := Lib.hid h2; have H3 := Lib.hid h3
        have HRB : Hid (pcsN fl ≤ 1001000) := HKN
        clear hpre hxg hbx h1 h2 h3
        gi_upto_region 5 with fail
        refine wpIn_region_lit (wpListIn_of_plain8 (fun a w h => h) _ _ _ (by rfl) ?_)
        go_wp2_with fail
        rw [HE.out]
        have kk : KeepL [bn] WW (WW.setCell ⟨bn, 0, none⟩ (.int .i64 ((r + (x.t - x.f) : Nat) : Int))) := KeepL.set _ _ _ _
        exact ⟨keepsFrom_L _ kk (fun k hk => by rw [List.mem_singleton] at hk; subst hk; exact ⟨_, _, H1.out⟩), kpS_L kk (fun k hk => by rw [List.mem_singleton] at hk; subst hk; exact ⟨_, _, H1.out, .inr (.inr (.inr (.inr rfl)))⟩) ⟨_, H1.out⟩, by show LfS w w4 bn (pcsN (pre ++ [x])) _; rw [HPX.out]; exact ⟨H1.out.set 0 _, H2.out.trans (kk.below H2.out.size (fun k hk => by rw [List.mem_singleton] at hk; subst hk; rw [HBE.out]; exact Nat.le_refl _)), Nat.le_trans H3.out kk.size⟩⟩
      case done =>
        rintro D1 WW hD ⟨h1, h2, h3⟩ hK
        have HM : Hid (Marks8 w4.heap.size [{ target := .collected D1, args := #[] }] WW) := Lib.hid ⟨⟨D1, rfl, hD, hK, by simp⟩, trivial⟩
        have n0 : WW.cell? ⟨bn, 0, none⟩ = some (.int .i64 (pcsN fl : Int)) := h1.cell 0
        have nf := h1.froz 0
        have HL : Hid (LfS w w4 bn (pcsN fl) (WW.setCell ⟨bn, 0, none⟩ (.int .i64 (pcsN fl : Int)))) := Lib.hid ⟨h1.set 0 _, h2.trans ((KeepL.set _ _ _ _).below (L := [bn]) h2.size (fun k hk => by rw [List.mem_singleton] at hk; subst hk; rw [HBE.out]; exact Nat.le_refl _)), by rw [size_setCell]; exact h3⟩
        have HM2 : Hid (Marks8 w4.heap.size [{ target := .collected D1, args := #[] }] (WW.setCell ⟨bn, 0, none⟩ (.int .i64 (pcsN fl : Int)))) := Lib.hid (HM.out.keep (fun k o h _ => (Below.heap_setCell _ _ _ _ (by rintro rfl; unfold Bk at h1; rw [h] at h1; cases h1; simp_all [Obj.isCells])).trans h))
        clear h1 h2 h3 hK HM
        go_wp2_with fail
        refine leaves8 (n₀ := w4.heap.size) (I := fun W' => LfS w w4 bn (pcsN fl) W') (fun W' D2 o h h0 ho hc o' => h.iter HB4.out.size (grownBy_putObj' W' D2 o') (fun r e => by cases e; exact ⟨h0, o, ho, hc⟩)) _ _ HM2.out HL.out (fun W' hs' => ?_)
        refine ⟨_, results_cellI rfl _ _ bn (pcsN fl : Int) rfl (hs'.1.cell 0), ?_⟩
        exact ⟨by rw [HQ2.out], hs'.2.1⟩
      case stop =>
        rintro D1 c pre WW hD hpre h hK
        exact h.elim
      -- RANGE>
end
#print axioms left8_any
end Go.Proofs.Ytdgmjedkhjeadaa
/- What a journal says: a chain of records; sectors that a crash has torn. Conditions: as each statement says. -/
namespace Go.Proofs.Ytdgmjedkhjeadaa
set_option linter.unusedVariables false
/-- The sectors from b on bear a chain of records that says j. -/
inductive Rds (f : Nat → Sec) (b : Nat) : Jn → Prop
  | zero : Rds f b (Jn.zero b)
  | next {j j' : Jn} {r : Rc} : Rds f b j → bearsR (f j.place) j.place = some r → j.follow r = some j' → Rds f b j'
/-- Nothing more can be read. -/
def Stp (f : Nat → Sec) (lim : Nat) (j : Jn) : Prop := lim ≤ j.place ∨ ∀ r, bearsR (f j.place) j.place = some r → j.follow r = none
theorem Rds.le {f : Nat → Sec} {b : Nat} {j : Jn} (h : Rds f b j) : b ≤ j.place := by
  induction h with
  | zero => exact Nat.le_refl _
  | next _ _ h2 ih => have := (follow_place h2).1; omega
theorem Rds.uniq {f : Nat → Sec} {b : Nat} {j : Jn} (h : Rds f b j) : ∀ {j'}, Rds f b j' → j.place = j'.place → j = j' := by
  induction h with
  | zero =>
    intro j' h' e
    cases h' with
    | zero => rfl
    | next h1 h2 h3 =>
      have h4 := (follow_place h3).1
      have h5 := h1.le
      have h6 : (Jn.zero b).place = b := rfl
      omega
  | next h1 h2 h3 ih =>
    intro j' h' e
    have h4 := (follow_place h3).1
    have h5 := h1.le
    cases h' with
    | zero =>
      have h6 : (Jn.zero b).place = b := rfl
      omega
    | next g1 g2 g3 =>
      have g4 := (follow_place g3).1
      have := ih g1 (by omega)
      subst this
      rw [g2] at h2
      injection h2 with h2
      subst h2
      rw [g3] at h3
      injection h3 with h3
      exact h3.symm
theorem Rds.pre {f : Nat → Sec} {b : Nat} {j' : Jn} (h : Rds f b j') : ∀ {n}, b ≤ n → n < j'.place → ∃ j r j2, Rds f b j ∧ j.place = n ∧ bearsR (f n) n = some r ∧ j.follow r = some j2 := by
  induction h with
  | zero => intro n h1 h2; exact absurd h2 (Nat.not_lt.2 h1)
  | @next j j2 r h1 h2 h3 ih =>
    intro n g1 g2
    have h4 := (follow_place h3).1
    by_cases e : n < j.place
    · exact ih g1 e
    · obtain rfl : n = j.place := by omega
      exact ⟨j, r, j2, h1, rfl, h2, h3⟩
theorem Rds.congr {f g : Nat → Sec} {b : Nat} {j : Jn} (h : Rds f b j) : (∀ i, b ≤ i → i < j.place → f i = g i) → Rds g b j := by
  induction h with
  | zero => intro _; exact .zero
  | next h1 h2 h3 ih =>
    intro hc
    have h4 := (follow_place h3).1
    have h5 := h1.le
    refine .next (ih fun i g1 g2 => hc i g1 (by omega)) ?_ h3
    rw [← hc _ h5 (by omega)]
    exact h2
theorem jrn_spec (d : Dk) (b lim : Nat) : ∀ (k : Nat) (j : Jn), Rds d.newest b j → j.place ≤ lim → lim ≤ j.place + k → Rds d.newest b (jrn d lim k j) ∧ (jrn d lim k j).place ≤ lim ∧ Stp d.newest lim (jrn d lim k j)
  | 0, j, h1, h2, h3 => ⟨h1, h2, .inl (by show lim ≤ j.place; omega)⟩
  | k + 1, j, h1, h2, h3 => by
    rw [jrn]
    split
    · rename_i h; exact ⟨h1, h2, .inl h⟩
    · rename_i hlt
      cases hb : bearsR (d.newest j.place) j.place with
      | none => exact ⟨h1, h2, .inr fun r hr => by rw [hb] at hr; cases hr⟩
      | some r =>
        dsimp only
        cases hf : j.follow r with
        | none => exact ⟨h1, h2, .inr fun r' hr => by rw [hb] at hr; injection hr with hr; subst hr; exact hf⟩
        | some j' =>
          dsimp only
          have h4 := (follow_place hf).1
          exact jrn_spec d b lim k j' (.next h1 hb hf) (by omega) (by omega)
/-- What is read of an area. -/
structure Jrl (f : Nat → Sec) (b lim : Nat) (j : Jn) : Prop where
  rds : Rds f b j
  le : j.place ≤ lim
  stp : Stp f lim j
theorem Jrl.uniq {f : Nat → Sec} {b lim : Nat} {j j' : Jn} (h : Jrl f b lim j) (h' : Jrl f b lim j') : j = j' := by
  have key : ∀ {j j' : Jn}, Jrl f b lim j → Jrl f b lim j' → ¬ j.place < j'.place := fun {j j'} h h' hlt => by
    obtain ⟨q, r, q2, g1, g2, g3, g4⟩ := h'.rds.pre h.rds.le hlt
    have := g1.uniq h.rds g2
    subst this
    rcases h.stp with hs | hs
    · have := h'.le; omega
    · rw [hs r g3] at g4; cases g4
  have h1 := key h h'
  have h2 := key h' h
  exact h.rds.uniq h'.rds (by omega)
theorem journal_jrl (d : Dk) (a : Nat) : Jrl d.newest (a * (d.dur.length / 2)) ((a + 1) * (d.dur.length / 2)) (d.journal a) := by
  unfold Dk.journal
  dsimp only
  have h0 : (a + 1) * (d.dur.length / 2) = a * (d.dur.length / 2) + d.dur.length / 2 := by rw [Nat.succ_mul]
  have := jrn_spec d (a * (d.dur.length / 2)) ((a + 1) * (d.dur.length / 2)) (d.dur.length / 2) (Jn.zero (a * (d.dur.length / 2))) .zero (by show a * (d.dur.length / 2) ≤ _; omega) (by show _ ≤ a * (d.dur.length / 2) + _; omega)
  exact ⟨this.1, this.2.1, this.2.2⟩
theorem Jrl.journal {d : Dk} {a : Nat} {j : Jn} (h : Jrl d.newest (a * (d.dur.length / 2)) ((a + 1) * (d.dur.length / 2)) j) : d.journal a = j := (journal_jrl d a).uniq h
/-- What is read is as a store may have it. -/
theorem Rds.good {f : Nat → Sec} {b : Nat} {j : Jn} (h : Rds f b j) : (∀ i, i < j.place → SecOK (f i)) → JnW j ∧ JrI j ∧ (j.tail = rc0 ∨ RcG j.tail) := by
  induction h with
  | zero => intro _; exact ⟨JnW.zero b, JrI.zero b, .inl rfl⟩
  | next h1 h2 h3 ih =>
    intro hs
    have h4 := follow_place h3
    obtain ⟨i1, i2, _⟩ := ih fun i hi => hs i (by omega)
    have hg := (bears_good (hs _ (by omega)) h2).1
    exact ⟨i1.follow hg h3, (i2.next hg h3).1, .inr (by rw [h4.2]; exact hg)⟩
/-- The epoch ahead of a sector's record, and behind it. -/
def hdrE (s : Sec) : Nat := beV (s.take 4)
def trlE (s : Sec) : Nat := beV (partS s 56 60)
theorem secR_len (r : Rc) (n : Nat) : (secR r n).length = 64 := by
  have := payR_length r
  simp [secR, beB_length]; omega
theorem secR_end (r : Rc) (n : Nat) : (secR r n).drop 56 = beB 4 r.epoch ++ beB 4 n := by
  have := payR_length r
  unfold secR
  rw [List.drop_append_of_le_length (by simp [beB_length]; omega), List.drop_eq_nil_of_le (by simp [beB_length]; omega), List.nil_append]
theorem secR_begin (r : Rc) (n : Nat) : (secR r n).take 8 = beB 4 r.epoch ++ beB 4 n := by
  rw [secR_form, ← List.append_assoc, List.take_left' (by simp [beB_length])]
theorem hdrE_secR {r : Rc} (n : Nat) (h : r.epoch < 4294967296) : hdrE (secR r n) = r.epoch := by
  unfold hdrE
  rw [secR_4]
  exact beV_beB 4 _ (by omega)
theorem trlE_secR {r : Rc} (n : Nat) (h : r.epoch < 4294967296) : trlE (secR r n) = r.epoch := by
  unfold trlE partS
  rw [secR_end, List.take_left' (beB_length _ _)]
  exact beV_beB 4 _ (by omega)
theorem bears_ep {s : Sec} {n : Nat} {r : Rc} (hs : SecOK s) (h : bearsR s n = some r) : hdrE s = r.epoch ∧ trlE s = r.epoch := by
  obtain ⟨hg, rfl⟩ := bears_good hs h
  exact ⟨hdrE_secR n hg.e2, trlE_secR n hg.e2⟩
def tornS (k : Nat) (new old : Sec) : Sec := new.take k ++ old.drop k
theorem beB4_small {e : Nat} (h : e < 256) : beB 4 e = [0, 0, 0, e] := by
  have h1 : e / 256 = 0 := by omega
  have h2 : e % 256 = e := by omega
  simp [beB, h1, h2]
theorem take4_small {l : Sec} (hl : SecOK l) (h : hdrE l < 256) : l.take 4 = [0, 0, 0, hdrE l] := by
  rw [← beB4_small h]
  have := beB_beV (l.take 4) fun x hx => hl.2 x (List.mem_of_mem_take hx)
  rw [show (l.take 4).length = 4 by rw [List.length_take, hl.1]; rfl] at this
  exact this.symm
theorem part_small {l : Sec} (hl : SecOK l) (h : trlE l < 256) : partS l 56 60 = [0, 0, 0, trlE l] := by
  rw [← beB4_small h]
  have := beB_beV (partS l 56 60) fun x hx => by unfold partS at hx; exact hl.2 x (List.mem_of_mem_drop (List.mem_of_mem_take hx))
  rw [show (partS l 56 60).length = 4 by unfold partS; rw [List.length_take, List.length_drop, hl.1]; rfl] at this
  exact this.symm
theorem torn_ok {k : Nat} {a b : Sec} (ha : SecOK a) (hb : SecOK b) : SecOK (tornS k a b) := by
  refine ⟨?_, fun x hx => ?_⟩
  · unfold tornS
    rw [List.length_append, List.length_take, List.length_drop, ha.1, hb.1]
    omega
  · rcases List.mem_append.1 hx with hx | hx
    · exact ha.2 x (List.mem_of_mem_take hx)
    · exact hb.2 x (List.mem_of_mem_drop hx)
theorem torn_low {k : Nat} {a b : Sec} (ha : SecOK a) (hb : SecOK b) (h1 : hdrE a < 256) (h2 : hdrE b < 256) (hk : k < 4) : tornS k a b = b := by
  unfold tornS
  have e : a.take k = b.take k := by
    have h3 := take4_small ha h1
    have h4 := take4_small hb h2
    have h5 : ∀ l : Sec, l.take k = ((l.take 4).take 3).take k := fun l => by rw [List.take_take, List.take_take]; congr 1; omega
    rw [h5 a, h5 b, h3, h4]
    rfl
  rw [e, List.take_append_drop]
theorem torn_hdr {k : Nat} {a b : Sec} (ha : SecOK a) (hk : 4 ≤ k) : (tornS k a b).take 4 = a.take 4 := by
  unfold tornS
  rw [List.take_append_of_le_length (by rw [List.length_take, ha.1]; omega), List.take_take]
  congr 1
  omega
theorem torn_trl {k : Nat} {a b : Sec} (ha : SecOK a) (hb : SecOK b) (hk : k ≤ 56) : partS (tornS k a b) 56 60 = partS b 56 60 := by
  unfold tornS partS
  have e : (a.take k ++ b.drop k).drop 56 = b.drop 56 := by
    rw [List.drop_append, List.drop_eq_nil_of_le (by rw [List.length_take]; omega), List.nil_append, List.drop_drop, List.length_take, ha.1]
    congr 1
    omega
  rw [e]
/-- What a torn sector's epochs are. -/
theorem torn_ep {k : Nat} {a b : Sec} (ha : SecOK a) (hb : SecOK b) (h1 : hdrE a < 256) (h2 : hdrE b < 256) (h3 : trlE a < 256) (h4 : trlE b < 256) :
    (hdrE (tornS k a b) = hdrE a ∨ hdrE (tornS k a b) = hdrE b) ∧ (trlE (tornS k a b) = trlE a ∨ trlE (tornS k a b) = trlE b) := by
  by_cases c1 : k < 4
  · rw [torn_low ha hb h1 h2 c1]; exact ⟨.inr rfl, .inr rfl⟩
  refine ⟨.inl (by unfold hdrE; rw [torn_hdr ha (by omega)]), ?_⟩
  by_cases c2 : k ≤ 56
  · exact .inr (by unfold trlE; rw [torn_trl ha hb c2])
  have e : ∀ l : Sec, l.length = 64 → partS l 56 60 = [l.getD 56 0, l.getD 57 0, l.getD 58 0, l.getD 59 0] := fun l hl => by
    unfold partS
    refine List.ext_getElem? fun i => ?_
    rw [List.getElem?_take]
    split
    · rename_i hi
      rw [List.getElem?_drop]
      match i, hi with
      | 0, _ => simp [List.getD_eq_getElem?_getD, List.getElem?_eq_getElem (show 56 < l.length by omega)]
      | 1, _ => simp [List.getD_eq_getElem?_getD, List.getElem?_eq_getElem (show 57 < l.length by omega)]
      | 2, _ => simp [List.getD_eq_getElem?_getD, List.getElem?_eq_getElem (show 58 < l.length by omega)]
      | 3, _ => simp [List.getD_eq_getElem?_getD, List.getElem?_eq_getElem (show 59 < l.length by omega)]
    · rename_i hi
      rw [List.getElem?_eq_none (by simp; omega)]
  have t := torn_ok (k := k) ha hb
  have g : ∀ i, i < 64 → (tornS k a b).getD i 0 = if i < k then a.getD i 0 else b.getD i 0 := fun i hi => by
    unfold tornS
    rw [List.getD_eq_getElem?_getD, List.getElem?_append, List.length_take, ha.1]
    split
    · rename_i h
      rw [List.getElem?_take, if_pos (by omega), if_pos (by omega), List.getD_eq_getElem?_getD]
    · rename_i h
      rw [List.getElem?_drop, if_neg (by omega), List.getD_eq_getElem?_getD]
      congr 2
      omega
  have pa := part_small ha h3
  have pb := part_small hb h4
  rw [e a ha.1] at pa
  rw [e b hb.1] at pb
  simp only [List.cons.injEq, and_true] at pa pb
  obtain ⟨a1, a2, a3, a4⟩ := pa
  obtain ⟨b1, b2, b3, b4⟩ := pb
  unfold trlE
  rw [e _ t.1, g 56 (by omega), g 57 (by omega), g 58 (by omega), g 59 (by omega), e a ha.1, e b hb.1]
  by_cases c3 : 59 < k
  · left
    rw [if_pos (by omega), if_pos (by omega), if_pos (by omega), if_pos c3]
  · right
    rw [if_neg c3, a1, a2, a3, b1, b2, b3]
    congr 1
    simp
/-- What a torn sector bears. -/
theorem torn_bears {k n : Nat} {r : Rc} {old : Sec} (hr : RcG r) (ho : SecOK old) (he : r.epoch < 256) (h1 : hdrE old < 256) (h2 : trlE old < r.epoch) :
    tornS k (secR r n) old = secR r n ∨ tornS k (secR r n) old = old ∨ bearsR (tornS k (secR r n) old) n = none := by
  have hn := secR_ok r n hr.bits
  have hh := hdrE_secR (r := r) n hr.e2
  by_cases c1 : k < 4
  · exact .inr (.inl (torn_low hn ho (by omega) h1 c1))
  have ht := torn_ok (k := k) hn ho
  have hd : hdrE (tornS k (secR r n) old) = r.epoch := by
    unfold hdrE
    rw [torn_hdr hn (by omega)]
    exact hh
  by_cases c2 : k ≤ 56
  · right; right
    cases hb : bearsR (tornS k (secR r n) old) n with
    | none => rfl
    | some r' =>
      obtain ⟨e1, e2⟩ := bears_ep ht hb
      have : trlE (tornS k (secR r n) old) = trlE old := by unfold trlE; rw [torn_trl hn ho c2]
      omega
  · cases hb : bearsR (tornS k (secR r n) old) n with
    | none => exact .inr (.inr rfl)
    | some r' =>
      left
      obtain ⟨hg, hs⟩ := bears_good ht hb
      have t56 : (tornS k (secR r n) old).take 56 = (secR r n).take 56 := by
        unfold tornS
        rw [List.take_append_of_le_length (by rw [List.length_take, hn.1]; omega), List.take_take]
        congr 1
        omega
      have d1 : (tornS k (secR r n) old).drop 56 = (tornS k (secR r n) old).take 8 := by rw [← hs, secR_end, secR_begin]
      have d2 : (tornS k (secR r n) old).take 8 = (secR r n).take 8 := by
        have := congrArg (List.take 8) t56
        rw [List.take_take, List.take_take] at this
        exact this
      rw [← List.take_append_drop 56 (tornS k (secR r n) old), t56, d1, d2, secR_begin, ← secR_end, List.take_append_drop]
#print axioms torn_bears
end Go.Proofs.Ytdgmjedkhjeadaa
/- Records are appended, and the disk may crash: what is found on it. Conditions: as each statement says. -/
namespace Go.Proofs.Ytdgmjedkhjeadaa
set_option linter.unusedVariables false
/-- Records are followed, one behind the other. -/
def Jn.fols : Jn → List Rc → Option Jn
  | j, [] => some j
  | j, r :: rs => match j.follow r with
    | none => none
    | some j' => Jn.fols j' rs
theorem fols_cons {j j' : Jn} {r : Rc} {rs : List Rc} (h : Jn.fols j (r :: rs) = some j') : ∃ j1, j.follow r = some j1 ∧ Jn.fols j1 rs = some j' := by
  rw [Jn.fols] at h
  cases hf : j.follow r with
  | none => rw [hf] at h; cases h
  | some j1 => rw [hf] at h; exact ⟨j1, rfl, h⟩
theorem fols_append : ∀ (rs ts : List Rc) (j : Jn), Jn.fols j (rs ++ ts) = (Jn.fols j rs).bind fun j' => Jn.fols j' ts
  | [], ts, j => rfl
  | r :: rs, ts, j => by
    rw [List.cons_append, Jn.fols, Jn.fols]
    cases j.follow r with
    | none => rfl
    | some j1 => exact fols_append rs ts j1
theorem fols_place : ∀ {rs : List Rc} {j j' : Jn}, Jn.fols j rs = some j' → j'.place = j.place + rs.length
  | [], j, j', h => by injection h with h; subst h; rfl
  | r :: rs, j, j', h => by
    obtain ⟨j1, h1, h2⟩ := fols_cons h
    have := (follow_place h1).1
    have := fols_place h2
    simp only [List.length_cons]
    omega
theorem fols_take {rs : List Rc} {j j' : Jn} (h : Jn.fols j rs = some j') (m : Nat) : ∃ jm, Jn.fols j (rs.take m) = some jm := by
  rw [← List.take_append_drop m rs, fols_append] at h
  cases hf : Jn.fols j (rs.take m) with
  | none => rw [hf] at h; cases h
  | some jm => exact ⟨jm, rfl⟩
theorem fols_tail {e : Nat} : ∀ {rs : List Rc} {j j' : Jn}, Jn.fols j rs = some j' → rs ≠ [] → (∀ r ∈ rs, r.epoch = e) → j'.tail.epoch = e
  | [], _, _, _, h, _ => absurd rfl h
  | [r], j, j', h, _, he => by
    obtain ⟨j1, h1, h2⟩ := fols_cons h
    injection h2 with h2
    subst h2
    rw [(follow_place h1).2]
    exact he r (by simp)
  | r :: r' :: rs, j, j', h, _, he => by
    obtain ⟨j1, h1, h2⟩ := fols_cons h
    exact fols_tail h2 (by simp) fun x hx => he x (by simp [hx])
theorem follow_low {j : Jn} {r : Rc} (h : r.epoch < j.tail.epoch) : j.follow r = none := by unfold Jn.follow; rw [if_pos h]
/-- The cache behind some records. -/
def putC (c : List (Option Sec)) (p : Nat) : List Rc → List (Option Sec)
  | [] => c
  | r :: rs => putC (c.set p (some (secR r p))) (p + 1) rs
theorem putC_len : ∀ (rs : List Rc) (c : List (Option Sec)) (p : Nat), (putC c p rs).length = c.length
  | [], _, _ => rfl
  | r :: rs, c, p => by rw [putC, putC_len rs, List.length_set]
theorem putC_out : ∀ (rs : List Rc) (c : List (Option Sec)) (p i : Nat), i < p ∨ p + rs.length ≤ i → (putC c p rs).getD i none = c.getD i none
  | [], _, _, _, _ => rfl
  | r :: rs, c, p, i, h => by
    simp only [List.length_cons] at h
    rw [putC, putC_out rs _ _ i (by omega), List.getD_eq_getElem?_getD, List.getD_eq_getElem?_getD, List.getElem?_set_ne (by omega)]
theorem putC_in : ∀ (rs : List Rc) (c : List (Option Sec)) (p i : Nat) (r : Rc), rs[i]? = some r → p + rs.length ≤ c.length → (putC c p rs).getD (p + i) none = some (secR r (p + i))
  | [], _, _, _, _, h, _ => by simp at h
  | r :: rs, c, p, 0, r', h, hl => by
    simp only [List.getElem?_cons_zero, Option.some.injEq] at h
    subst h
    simp only [List.length_cons] at hl
    rw [putC, putC_out rs _ _ _ (by omega), List.getD_eq_getElem?_getD, Nat.add_zero, List.getElem?_set_self (by omega)]
    rfl
  | r :: rs, c, p, i + 1, r', h, hl => by
    simp only [List.length_cons] at hl
    rw [putC, show p + (i + 1) = p + 1 + i by omega]
    exact putC_in rs _ _ i r' (by simpa using h) (by rw [List.length_set]; omega)
theorem putC_snoc (c : List (Option Sec)) : ∀ (rs : List Rc) (p : Nat) (r : Rc) (c : List (Option Sec)), (putC c p rs).set (p + rs.length) (some (secR r (p + rs.length))) = putC c p (rs ++ [r])
  | [], p, r, c => rfl
  | x :: rs, p, r, c => by
    rw [putC, List.cons_append, putC, ← putC_snoc c rs (p + 1) r, List.length_cons, show p + (rs.length + 1) = p + 1 + rs.length by omega]
theorem keepS_get : ∀ (ds : List Sec) (cs : List (Option Sec)) (ks : List Nat) (i : Nat), cs.length = ds.length → i < ds.length →
    ∃ k, (keepS ds cs ks).getD i [] = match cs.getD i none with | none => ds.getD i [] | some s => tornS k s (ds.getD i [])
  | [], cs, ks, i, _, hi => by simp at hi
  | d :: ds, [], ks, i, hl, _ => by simp at hl
  | d :: ds, none :: cs, ks, 0, _, _ => ⟨0, rfl⟩
  | d :: ds, none :: cs, ks, i + 1, hl, hi => keepS_get ds cs ks i (by simpa using hl) (by simpa using hi)
  | d :: ds, some s :: cs, [], 0, _, _ => ⟨0, by simp [keepS, tornS]⟩
  | d :: ds, some s :: cs, k :: ks, 0, _, _ => ⟨k, rfl⟩
  | d :: ds, some s :: cs, [], i + 1, hl, hi => keepS_get ds cs [] i (by simpa using hl) (by simpa using hi)
  | d :: ds, some s :: cs, k :: ks, i + 1, hl, hi => keepS_get ds cs ks i (by simpa using hl) (by simpa using hi)
theorem syncS_at : ∀ (ds : List Sec) (cs : List (Option Sec)) (i : Nat), cs.length = ds.length → i < ds.length → (syncS ds cs).getD i [] = (cs.getD i none).getD (ds.getD i [])
  | [], cs, i, _, hi => by simp at hi
  | d :: ds, [], i, hl, _ => by simp at hl
  | d :: ds, c :: cs, 0, _, _ => rfl
  | d :: ds, c :: cs, i + 1, hl, hi => syncS_at ds cs i (by simpa using hl) (by simpa using hi)
theorem tick_cases (d : Dk) : (d.tick.1 = false ∧ d.tick.2.dur = d.dur ∧ d.tick.2.cch = d.cch ∧ d.tick.2.age = d.age ∧ d.tick.2.down = d.down) ∨ ∃ k, d.tick = (true, d.crash k) := by
  cases h : d.tick.1 with
  | false => have := tick_false h; exact .inl ⟨rfl, this.2.1, this.2.2.1, this.1, this.2.2.2⟩
  | true =>
    right
    unfold Dk.tick at h ⊢
    split at h
    · cases h
    · rename_i k e; exact ⟨k, rfl⟩
    · cases h
/-- What a disk is like that has records in its cache. -/
structure DkC (d dx : Dk) (p : Nat) (rs : List Rc) : Prop where
  dur : dx.dur = d.dur
  cch : dx.cch = putC d.cch p rs
  age : dx.age = d.age
  down : dx.down = d.down
def atE (rs : List Rc) (e : Nat) : List Rc := rs.map fun r => r.at' e
theorem atE_len (rs : List Rc) (e : Nat) : (atE rs e).length = rs.length := by simp [atE]
theorem atE_ep {rs : List Rc} {e : Nat} : ∀ r ∈ atE rs e, r.epoch = e := fun r hr => by
  obtain ⟨x, _, rfl⟩ := List.mem_map.1 hr
  rfl
theorem writes_cases : ∀ (rs : List Rc) (d : Dk) (s : StM) (j' : Jn), s.j.fols (atE rs s.epoch) = some j' →
    ((StM.writes d s rs).1 = false ∧ DkC d (StM.writes d s rs).2.1 s.j.place (atE rs s.epoch) ∧ (StM.writes d s rs).2.2 = { s with j := j' }) ∨
    ((StM.writes d s rs).1 = true ∧ (StM.writes d s rs).2.2.age = s.age ∧ ∃ m k dx, m ≤ rs.length ∧ DkC d dx s.j.place (atE (rs.take m) s.epoch) ∧ (StM.writes d s rs).2.1 = dx.crash k)
  | [], d, s, j', h => by
    injection h with h
    subst h
    exact .inl ⟨rfl, ⟨rfl, rfl, rfl, rfl⟩, rfl⟩
  | r :: rs, d, s, j', h => by
    obtain ⟨j1, h1, h2⟩ := fols_cons h
    have hp := (follow_place h1).1
    rw [StM.writes]
    have hw : s.write d r = let q := d.put s.j.place (secR (r.at' s.epoch) s.j.place); if q.1 = true then (true, q.2, s) else (false, q.2, { s with j := (s.j.follow (r.at' s.epoch)).getD s.j }) := rfl
    rw [h1] at hw
    unfold Dk.put at hw
    dsimp only at hw
    rcases tick_cases { d with cch := d.cch.set s.j.place (some (secR (r.at' s.epoch) s.j.place)) } with ⟨t1, t2, t3, t4, t5⟩ | ⟨k, hk⟩
    · rw [t1, if_neg (by simp), Option.getD_some] at hw
      rw [hw]
      rw [if_neg (by simp)]
      dsimp only at t2 t3 t4 t5
      rcases writes_cases rs _ { s with j := j1 } j' h2 with ⟨g1, g2, g3⟩ | ⟨g1, g2, m, k, dx, g3, g4, g5⟩
      · refine .inl ⟨g1, ⟨by rw [g2.dur, t2], ?_, by rw [g2.age, t4], by rw [g2.down, t5]⟩, g3⟩
        rw [g2.cch, t3]
        dsimp only
        rw [hp]
        rfl
      · refine .inr ⟨g1, g2, m + 1, k, dx, by simp only [List.length_cons]; omega, ⟨by rw [g4.dur, t2], ?_, by rw [g4.age, t4], by rw [g4.down, t5]⟩, g5⟩
        rw [g4.cch, t3]
        dsimp only
        rw [hp]
        rfl
    · rw [hk, if_pos rfl] at hw
      rw [hw]
      rw [if_pos rfl]
      refine .inr ⟨rfl, rfl, 1, k, _, by simp, ⟨?_, ?_, ?_, ?_⟩, rfl⟩ <;> rfl
/-- Records are written and synced. -/
theorem commitW_cases (rs : List Rc) (d : Dk) (s : StM) (j' : Jn) (hd : d.down = false) (h : s.j.fols (atE rs s.epoch) = some j') :
    ((StM.commitW d s rs).1 = false ∧ (StM.commitW d s rs).2.1.dur = syncS d.dur (putC d.cch s.j.place (atE rs s.epoch)) ∧ (StM.commitW d s rs).2.1.cch = List.replicate d.cch.length none ∧ (StM.commitW d s rs).2.1.age = d.age ∧ (StM.commitW d s rs).2.1.down = false ∧ (StM.commitW d s rs).2.2 = { s with j := j' }) ∨
    ((StM.commitW d s rs).1 = true ∧ (StM.commitW d s rs).2.2.age = s.age ∧ ∃ m k dx, m ≤ rs.length ∧ DkC d dx s.j.place (atE (rs.take m) s.epoch) ∧ (StM.commitW d s rs).2.1 = dx.crash k) := by
  unfold StM.commitW
  rcases writes_cases rs d s j' h with ⟨g1, g2, g3⟩ | ⟨g1, g2, g3⟩
  · rw [if_neg (by rw [g1]; simp)]
    generalize StM.writes d s rs = q at g1 g2 g3
    unfold Dk.syncR
    rw [if_neg (by rw [g2.down, hd]; simp)]
    unfold Dk.sync
    rcases tick_cases q.2.1 with ⟨t1, t2, t3, t4, t5⟩ | ⟨k, hk⟩
    · rw [show q.2.1.tick = (q.2.1.tick.1, q.2.1.tick.2) from rfl, t1]
      dsimp only
      left
      refine ⟨by simp, ?_, ?_, by rw [t4, g2.age], by rw [t5, g2.down, hd], g3⟩
      · rw [t2, t3, g2.dur, g2.cch]
      · rw [t3, g2.cch, putC_len]
    · rw [hk]
      dsimp only
      right
      refine ⟨by simp, by rw [g3], rs.length, k, q.2.1, Nat.le_refl _, by rw [List.take_length]; exact g2, rfl⟩
  · rw [if_pos g1]
    exact .inr ⟨g1, g2, g3⟩
/-- A clean disk: nothing is fresh. -/
structure DkL (d : Dk) : Prop where
  ok : DkOK d
  cl : d.cch = List.replicate d.dur.length none
theorem DkL.newest {d : Dk} (h : DkL d) (i : Nat) : d.newest i = d.dur.getD i [] := by
  unfold Dk.newest
  rw [h.cl, List.getD_eq_getElem?_getD, List.getElem?_replicate]
  split <;> rfl
theorem DkL.none {d : Dk} (h : DkL d) (i : Nat) : d.cch.getD i none = none := by
  rw [h.cl, List.getD_eq_getElem?_getD, List.getElem?_replicate]
  split <;> rfl
theorem DkL.sec {d : Dk} (h : DkL d) {i : Nat} (hi : i < d.dur.length) : SecOK (d.dur.getD i []) :=
  h.ok.dur _ (by rw [List.getD_eq_getElem?_getD, List.getElem?_eq_getElem hi]; exact List.getElem_mem hi)
theorem putC_ok : ∀ (rs : List Rc) (c : List (Option Sec)) (p : Nat), (∀ r ∈ rs, RcG r) → (∀ s, some s ∈ c → SecOK s) → ∀ s, some s ∈ putC c p rs → SecOK s
  | [], c, p, _, h => h
  | r :: rs, c, p, g, h => putC_ok rs _ _ (fun x hx => g x (by simp [hx])) fun s hs => by
    rcases List.mem_or_eq_of_mem_set hs with hs | hs
    · exact h s hs
    · injection hs with hs; subst hs; exact secR_ok _ _ (g r (by simp)).bits
theorem DkC.ok {d dx : Dk} {p : Nat} {rs : List Rc} (h : DkC d dx p rs) (hd : DkOK d) (hg : ∀ r ∈ rs, RcG r) (hk : ∀ a k, dx.plan = some (a, k) → k.length ≤ 256 ∧ (∀ x ∈ k, x ≤ 64) ∧ a ≤ 9223372036854775807) : DkOK dx :=
  ⟨by rw [h.dur]; exact hd.n2, by rw [h.dur]; exact hd.n256, by rw [h.cch, h.dur, putC_len]; exact hd.len, by rw [h.dur]; exact hd.dur, by rw [h.cch]; exact putC_ok rs _ _ hg hd.cch, hk⟩
/-- What a crash leaves of a clean disk to which records were written. -/
theorem crash_get {d dx : Dk} {p : Nat} {rs : List Rc} (hd : DkL d) (h : DkC d dx p rs) (hp : p + rs.length ≤ d.dur.length) (k : List Nat) {i : Nat} (hi : i < d.dur.length) :
    ((i < p ∨ p + rs.length ≤ i) → (dx.crash k).dur.getD i [] = d.dur.getD i []) ∧ (∀ r, p ≤ i → rs[i - p]? = some r → ∃ n, (dx.crash k).dur.getD i [] = tornS n (secR r i) (d.dur.getD i [])) := by
  have hl : dx.cch.length = dx.dur.length := by rw [h.cch, h.dur, putC_len]; exact hd.ok.len
  obtain ⟨n, hn⟩ := keepS_get dx.dur dx.cch k i hl (by rw [h.dur]; exact hi)
  have e : (dx.crash k).dur = keepS dx.dur dx.cch k := rfl
  rw [e]
  constructor
  · intro hc
    rw [hn, h.cch, putC_out rs _ _ i hc, hd.none, h.dur]
  · intro r h1 h2
    have h3 := putC_in rs d.cch p (i - p) r h2 (by rw [hd.ok.len]; exact hp)
    rw [show p + (i - p) = i by omega] at h3
    exact ⟨n, by rw [hn, h.cch, h3, h.dur]⟩
theorem sync_get {d : Dk} {p : Nat} {rs : List Rc} (hd : DkL d) (hp : p + rs.length ≤ d.dur.length) {i : Nat} (hi : i < d.dur.length) :
    ((i < p ∨ p + rs.length ≤ i) → (syncS d.dur (putC d.cch p rs)).getD i [] = d.dur.getD i []) ∧ (∀ r, p ≤ i → rs[i - p]? = some r → (syncS d.dur (putC d.cch p rs)).getD i [] = secR r i) := by
  have hl : (putC d.cch p rs).length = d.dur.length := by rw [putC_len]; exact hd.ok.len
  rw [syncS_at _ _ i hl hi]
  constructor
  · intro hc
    rw [putC_out rs _ _ i hc, hd.none]; rfl
  · intro r h1 h2
    have h3 := putC_in rs d.cch p (i - p) r h2 (by rw [hd.ok.len]; exact hp)
    rw [show p + (i - p) = i by omega] at h3
    rw [h3]; rfl
/-- Records that lie on the disk are read. -/
theorem chain_reads {f : Nat → Sec} {b lim e : Nat} : ∀ (rs : List Rc) {j j' : Jn}, Rds f b j → j.fols rs = some j' → (∀ (i : Nat) r, rs[i]? = some r → bearsR (f (j.place + i)) (j.place + i) = some r) → Rds f b j'
  | [], j, j', h, hf, _ => by injection hf with hf; subst hf; exact h
  | r :: rs, j, j', h, hf, hb => by
    obtain ⟨j1, h1, h2⟩ := fols_cons hf
    have hp := (follow_place h1).1
    refine chain_reads rs (b := b) (lim := lim) (e := e) (.next h (by have := hb 0 r (by simp); simpa using this) h1) h2 fun i x hx => ?_
    have := hb (i + 1) x (by simpa using hx)
    rw [hp, show j.place + 1 + i = j.place + (i + 1) by omega]
    exact this
/-- Of records that a crash has torn, the first ones are read. -/
theorem crash_reads {f : Nat → Sec} {b lim e : Nat} : ∀ (rs : List Rc) {j j' : Jn}, Rds f b j → j.place + rs.length ≤ lim → j.fols rs = some j' → (∀ r ∈ rs, r.epoch = e) →
    (∀ i, j.place ≤ i → i < lim → ∀ r, bearsR (f i) i = some r → rs[i - j.place]? = some r ∨ r.epoch < e) →
    (j.tail.epoch = e ∨ (j.place < lim → ∀ r, bearsR (f j.place) j.place = some r → rs.head? = some r ∨ j.follow r = none)) →
    ∃ m jm, m ≤ rs.length ∧ j.fols (rs.take m) = some jm ∧ Jrl f b lim jm
  | [], j, j', h, hl, hf, he, hn, h0 => by
    refine ⟨0, j, Nat.le_refl _, rfl, h, by simpa using hl, ?_⟩
    by_cases hlt : j.place < lim
    · right
      intro r hr
      rcases h0 with h0 | h0
      · rcases hn _ (Nat.le_refl _) hlt r hr with h1 | h1
        · simp at h1
        · exact follow_low (by omega)
      · rcases h0 hlt r hr with h1 | h1
        · simp at h1
        · exact h1
    · exact .inl (by omega)
  | r0 :: rs, j, j', h, hl, hf, he, hn, h0 => by
    obtain ⟨j1, h1, h2⟩ := fols_cons hf
    have hp := follow_place h1
    simp only [List.length_cons] at hl
    by_cases hb : bearsR (f j.place) j.place = some r0
    · have he0 : j1.tail.epoch = e := by rw [hp.2]; exact he r0 (by simp)
      obtain ⟨m, jm, g1, g2, g3⟩ := crash_reads rs (lim := lim) (e := e) (.next h hb h1) (by rw [hp.1]; omega) h2 (fun r hr => he r (by simp [hr])) (fun i i1 i2 r hr => by
        rcases hn i (by rw [hp.1] at i1; omega) i2 r hr with h3 | h3
        · left
          rw [show i - j.place = (i - j1.place) + 1 by rw [hp.1] at i1 ⊢; omega, List.getElem?_cons_succ] at h3
          exact h3
        · exact .inr h3) (.inl he0)
      refine ⟨m + 1, jm, by simp only [List.length_cons]; omega, ?_, g3⟩
      rw [List.take_succ_cons, Jn.fols, h1]
      exact g2
    · refine ⟨0, j, Nat.zero_le _, rfl, h, by omega, .inr fun r hr => ?_⟩
      have hlt : j.place < lim := by omega
      have hne : r ≠ r0 := fun e => hb (e ▸ hr)
      rcases h0 with h0 | h0
      · rcases hn _ (Nat.le_refl _) hlt r hr with h3 | h3
        · simp at h3; exact absurd h3.symm hne
        · exact follow_low (by omega)
      · rcases h0 hlt r hr with h3 | h3
        · simp at h3; exact absurd h3.symm hne
        · exact h3
#print axioms crash_reads
end Go.Proofs.Ytdgmjedkhjeadaa
/- A store on its disk: what holds between two calls; commit. Conditions: as each statement says. -/
namespace Go.Proofs.Ytdgmjedkhjeadaa
set_option linter.unusedVariables false
def lo8 (d : Dk) (a : Nat) : Nat := a * (d.dur.length / 2)
/-- The disk between two calls: clean, with an active area a whose journal says j; all epochs are at most E. -/
structure DI (E : Nat) (d : Dk) (a : Nat) (j : Jn) : Prop where
  l : DkL d
  act : a ≤ 1
  jr : Jrl (fun i => d.dur.getD i []) (lo8 d a) (lo8 d (a + 1)) j
  rdy : j.ready = true
  age : j.age ≤ E
  oth : ∀ i r, lo8 d (1 - a) ≤ i → i < lo8 d (2 - a) → bearsR (d.dur.getD i []) i = some r → r.kind = 5 → r.epoch < j.age
  ep : ∀ i, i < d.dur.length → hdrE (d.dur.getD i []) ≤ E ∧ trlE (d.dur.getD i []) ≤ E
  e : E < 256
theorem DI.mono {E E' : Nat} {d : Dk} {a : Nat} {j : Jn} (h : DI E d a j) (h1 : E ≤ E') (h2 : E' < 256) : DI E' d a j :=
  ⟨h.l, h.act, h.jr, h.rdy, Nat.le_trans h.age h1, h.oth, fun i hi => ⟨Nat.le_trans (h.ep i hi).1 h1, Nat.le_trans (h.ep i hi).2 h1⟩, h2⟩
theorem lo8_le (d : Dk) {a : Nat} (h : a ≤ 2) : lo8 d a ≤ d.dur.length := by
  unfold lo8
  have := Nat.mul_le_mul_right (d.dur.length / 2) h
  omega
theorem lo8_succ (d : Dk) (a : Nat) : lo8 d (a + 1) = lo8 d a + d.dur.length / 2 := by unfold lo8; rw [Nat.succ_mul]
/-- Indexes of the other area are not of this one. -/
theorem lo8_oth {d : Dk} {a i : Nat} (ha : a ≤ 1) (h1 : lo8 d (1 - a) ≤ i) (h2 : i < lo8 d (2 - a)) : i < lo8 d a ∨ lo8 d (a + 1) ≤ i := by
  have e0 : lo8 d 0 = 0 := by unfold lo8; rw [Nat.zero_mul]
  have e1 := lo8_succ d 0
  have e2 := lo8_succ d 1
  rcases (show a = 0 ∨ a = 1 by omega) with rfl | rfl
  · right; exact h1
  · left; exact h2
/-- The store between two calls, alive. -/
structure LI (d : Dk) (s : StM) (a : Nat) (j : Jn) : Prop where
  age : s.age = d.age
  area : s.area = a
  js : s.j = j
  up : d.down = false
  e1 : 1 ≤ s.epoch
  ep : ∀ i, i < d.dur.length → hdrE (d.dur.getD i []) ≤ s.epoch ∧ trlE (d.dur.getD i []) ≤ s.epoch
  fr : ∀ i, j.place ≤ i → i < lo8 d (a + 1) → hdrE (d.dur.getD i []) < s.epoch ∧ trlE (d.dur.getD i []) < s.epoch
  age5 : j.age ≤ s.epoch
theorem DI.lt {E : Nat} {d : Dk} {a : Nat} {j : Jn} (h : DI E d a j) {i : Nat} (hi : i < lo8 d (a + 1)) : i < d.dur.length := Nat.lt_of_lt_of_le hi (lo8_le d (by have := h.act; omega))
theorem follow_keep {j j' : Jn} {r : Rc} (hk : 1 ≤ r.kind ∧ r.kind ≤ 4) (h : j.follow r = some j') : j'.ready = j.ready ∧ j'.age = j.age ∧ j'.side = j.side := by
  obtain ⟨j1, h1, rfl⟩ := follow_some h
  unfold Jn.step at h1
  have hc : r.kind = 1 ∨ r.kind = 2 ∨ r.kind = 3 ∨ r.kind = 4 := by omega
  rcases hc with e | e | e | e
  · rw [if_pos e] at h1
    split at h1
    · cases h1
    · split at h1
      · injection h1 with h1; subst h1; exact ⟨rfl, rfl, rfl⟩
      · unfold Jn.add at h1
        rw [Option.map_eq_some_iff] at h1
        obtain ⟨bits, hb, rfl⟩ := h1
        exact ⟨rfl, rfl, rfl⟩
  · rw [if_neg (by omega), if_pos e] at h1
    split at h1
    · unfold Jn.add at h1
      rw [Option.map_eq_some_iff] at h1
      obtain ⟨bits, hb, rfl⟩ := h1
      exact ⟨rfl, rfl, rfl⟩
    · cases h1
  · rw [if_neg (by omega), if_neg (by omega), if_pos e] at h1
    split at h1
    · cases h1
    · dsimp only at h1
      split at h1
      · cases h1
      · injection h1 with h1; subst h1; exact ⟨rfl, rfl, rfl⟩
  · rw [if_neg (by omega), if_neg (by omega), if_neg (by omega), if_pos e] at h1
    rw [Option.map_eq_some_iff] at h1
    obtain ⟨i, hi2, rfl⟩ := h1
    exact ⟨rfl, rfl, rfl⟩
theorem fols_keep : ∀ {rs : List Rc} {j j' : Jn}, (∀ r ∈ rs, 1 ≤ r.kind ∧ r.kind ≤ 4) → j.fols rs = some j' → j'.ready = j.ready ∧ j'.age = j.age ∧ j'.side = j.side
  | [], j, j', _, h => by injection h with h; subst h; exact ⟨rfl, rfl, rfl⟩
  | r :: rs, j, j', hk, h => by
    obtain ⟨j1, h1, h2⟩ := fols_cons h
    have a1 := follow_keep (hk r (by simp)) h1
    have a2 := fols_keep (fun x hx => hk x (by simp [hx])) h2
    exact ⟨a2.1.trans a1.1, a2.2.1.trans a1.2.1, a2.2.2.trans a1.2.2⟩
theorem atE_take (rs : List Rc) (e m : Nat) : atE (rs.take m) e = (atE rs e).take m := by unfold atE; rw [List.map_take]
theorem get_mem {α : Type} {l : List α} {i : Nat} (h : i < l.length) : ∃ x, l[i]? = some x := ⟨_, List.getElem?_eq_getElem h⟩
theorem writes_ok : ∀ (rs : List Rc) (d : Dk) (s : StM), (∀ r ∈ rs, RcG (r.at' s.epoch)) → DkOK d → DkOK (StM.writes d s rs).2.1
  | [], d, s, _, h => h
  | r :: rs, d, s, hg, h => by
    have hw : DkOK (s.write d r).2.1 := by
      have hp := h.put s.j.place (secR_ok (r.at' s.epoch) s.j.place (hg r (by simp)).bits)
      unfold StM.write
      dsimp only
      split <;> exact hp
    rw [StM.writes]
    split
    · exact hw
    · rename_i hc
      refine writes_ok rs _ _ (fun x hx => ?_) hw
      rw [(write_false (by simpa using hc)).2.2.2.1]
      exact hg x (by simp [hx])
theorem commitW_ok (rs : List Rc) (d : Dk) (s : StM) (hg : ∀ r ∈ rs, RcG (r.at' s.epoch)) (h : DkOK d) : DkOK (StM.commitW d s rs).2.1 := by
  have hw := writes_ok rs d s hg h
  unfold StM.commitW
  split
  · exact hw
  · dsimp only
    unfold Dk.syncR
    split
    · exact hw
    · exact hw.sync
theorem LI.reads {E : Nat} {d : Dk} {s : StM} {a : Nat} {j : Jn} (hd : DI E d a j) (hl : LI d s a j) {d' : Dk} (hn : d'.dur.length = d.dur.length)
    (hout : ∀ i, i < d.dur.length → i < j.place → d'.dur.getD i [] = d.dur.getD i []) : Rds (fun i => d'.dur.getD i []) (lo8 d' a) j := by
  have e : lo8 d' a = lo8 d a := by unfold lo8; rw [hn]
  rw [e]
  exact hd.jr.rds.congr fun i h1 h2 => (hout i (hd.lt (by have := hd.jr.le; omega)) h2).symm
/-- What a commit does to the disk and the store: it is done whole, or the disk crashes, and the first ones of its records are found. -/
theorem commit_law {E : Nat} {d : Dk} {s : StM} {a : Nat} {j j' : Jn} (hd : DI E d a j) (hl : LI d s a j) (hE : s.epoch < 256) (rs : List Rc) (hk : ∀ r ∈ rs, 1 ≤ r.kind ∧ r.kind ≤ 4) (hg : ∀ r ∈ rs, RcG (r.at' s.epoch))
    (hf : j.fols (atE rs s.epoch) = some j') (hr : j.place + rs.length ≤ lo8 d (a + 1)) :
    ((StM.commitW d s rs).1 = false ∧ DI s.epoch (StM.commitW d s rs).2.1 a j' ∧ LI (StM.commitW d s rs).2.1 (StM.commitW d s rs).2.2 a j' ∧ (StM.commitW d s rs).2.1.age = d.age ∧ (StM.commitW d s rs).2.1.dur.length = d.dur.length ∧ (StM.commitW d s rs).2.2.epoch = s.epoch) ∨
    ((StM.commitW d s rs).1 = true ∧ (StM.commitW d s rs).2.2.age = s.age ∧ (StM.commitW d s rs).2.1.age = d.age + 1 ∧ (StM.commitW d s rs).2.1.down = true ∧ (StM.commitW d s rs).2.1.dur.length = d.dur.length ∧
      ∃ m jm, m ≤ rs.length ∧ j.fols ((atE rs s.epoch).take m) = some jm ∧ DI s.epoch (StM.commitW d s rs).2.1 a jm) := by
  have hkE : ∀ r ∈ atE rs s.epoch, 1 ≤ r.kind ∧ r.kind ≤ 4 := fun r hr => by
    obtain ⟨x, hx, rfl⟩ := List.mem_map.1 hr
    exact hk x hx
  have hgE : ∀ r ∈ atE rs s.epoch, RcG r := fun r hr => by
    obtain ⟨x, hx, rfl⟩ := List.mem_map.1 hr
    exact hg x hx
  have hlen := atE_len rs s.epoch
  have hlo := lo8_le d (a := a + 1) (by have := hd.act; omega)
  have hgo : ∀ r ∈ atE rs s.epoch, ∀ n, hdrE (secR r n) = s.epoch ∧ trlE (secR r n) = s.epoch := fun r hr n => by
    have e := atE_ep r hr
    have := (hgE r hr).e2
    exact ⟨(hdrE_secR n this).trans e, (trlE_secR n this).trans e⟩
  have hbl := hd.jr.rds.le
  have hok := commitW_ok rs d s hg hd.l.ok
  rcases commitW_cases rs d s j' hl.up (by rw [hl.js]; exact hf) with ⟨h1, h2, h3, h4, h5, h6⟩ | ⟨h1, h2, m, k, dx, h3, h4, h5⟩
  · left
    rw [hl.js] at h2
    generalize StM.commitW d s rs = q at h1 h2 h3 h4 h5 h6 hok
    have hn : q.2.1.dur.length = d.dur.length := by rw [h2, syncS_length _ _ (by rw [putC_len]; exact hd.l.ok.len)]
    have hget : ∀ {i}, i < d.dur.length → _ := fun {i} hi => sync_get (rs := atE rs s.epoch) hd.l (p := j.place) (by rw [hlen]; omega) hi
    rw [← h2] at hget
    have hlow : ∀ a', lo8 q.2.1 a' = lo8 d a' := fun a' => by unfold lo8; rw [hn]
    have hL : DkL q.2.1 := ⟨hok, by rw [h3, hn, hd.l.ok.len]⟩
    have hin : ∀ i r, j.place ≤ i → (atE rs s.epoch)[i - j.place]? = some r → q.2.1.dur.getD i [] = secR r i := fun i r i1 i2 => by
      have := (List.getElem?_eq_some_iff.1 i2).1
      exact (hget (by omega)).2 r i1 i2
    have hplace := fols_place hf
    rw [hlen] at hplace
    have hrds : Rds (fun i => q.2.1.dur.getD i []) (lo8 q.2.1 a) j' := by
      refine chain_reads (lim := 0) (e := 0) _ (LI.reads hd hl hn fun i i1 i2 => (hget i1).1 (.inl i2)) hf fun i r hr => ?_
      rw [hin (j.place + i) r (by omega) (by rw [Nat.add_sub_cancel_left]; exact hr)]
      exact bears_secR (hgE r (List.mem_of_getElem? hr)) _
    have hjr : Jrl (fun i => q.2.1.dur.getD i []) (lo8 q.2.1 a) (lo8 q.2.1 (a + 1)) j' := by
      refine ⟨hrds, by rw [hlow]; omega, ?_⟩
      rw [hlow]
      by_cases hlt : j'.place < lo8 d (a + 1)
      · right
        intro r hr
        dsimp only at hr
        have hi := hd.lt hlt
        rw [(hget hi).1 (.inr (by rw [hlen]; omega))] at hr
        by_cases he : rs = []
        · subst he
          injection hf with hf
          subst hf
          rcases hd.jr.stp with h | h
          · omega
          · exact h r hr
        · have ht := fols_tail hf (by intro h; apply he; simpa [atE] using h) atE_ep
          have hb := bears_ep (hd.l.sec hi) hr
          have := hl.fr j'.place (by omega) hlt
          exact follow_low (by omega)
      · exact .inl (by omega)
    have hkeep := fols_keep hkE hf
    have hep : ∀ i, i < d.dur.length → hdrE (q.2.1.dur.getD i []) ≤ s.epoch ∧ trlE (q.2.1.dur.getD i []) ≤ s.epoch := fun i hi => by
      by_cases hc : i < j.place ∨ j.place + rs.length ≤ i
      · rw [(hget hi).1 (by rw [hlen]; exact hc)]
        exact hl.ep i hi
      · obtain ⟨r, hr⟩ := get_mem (l := atE rs s.epoch) (i := i - j.place) (by rw [hlen]; omega)
        rw [hin i r (by omega) hr]
        have := hgo r (List.mem_of_getElem? hr) i
        omega
    refine ⟨h1, ⟨hL, hd.act, hjr, hkeep.1.trans hd.rdy, by rw [hkeep.2.1]; exact hl.age5, fun i r i1 i2 i3 i4 => ?_, fun i hi => hep i (by rw [← hn]; exact hi), hE⟩, ?_, h4, hn, by rw [h6]⟩
    · rw [hlow] at i1 i2
      have ho := lo8_oth hd.act i1 i2
      have hi : i < d.dur.length := Nat.lt_of_lt_of_le i2 (lo8_le d (by omega))
      rw [(hget hi).1 (by rw [hlen]; omega)] at i3
      rw [hkeep.2.1]
      exact hd.oth i r i1 i2 i3 i4
    · rw [h6]
      refine ⟨hl.age.trans h4.symm, hl.area, rfl, h5, hl.e1, fun i hi => hep i (by rw [← hn]; exact hi), fun i i1 i2 => ?_, by rw [hkeep.2.1]; exact hl.age5⟩
      rw [hlow] at i2
      dsimp only
      rw [(hget (hd.lt i2)).1 (.inr (by rw [hlen]; omega))]
      exact hl.fr i (by omega) i2
  · right
    rw [hl.js] at h4
    generalize StM.commitW d s rs = q at h1 h2 h5 hok
    have hlm : (atE (rs.take m) s.epoch).length = m := by rw [atE_len, List.length_take]; omega
    have hn : q.2.1.dur.length = d.dur.length := by rw [h5]; show (keepS dx.dur dx.cch k).length = _; rw [keepS_length, h4.dur]
    have hget : ∀ {i}, i < d.dur.length → _ := fun {i} hi => crash_get hd.l h4 (by rw [hlm]; omega) k hi
    rw [← h5] at hget
    rw [hlm] at hget
    have hlow : ∀ a', lo8 q.2.1 a' = lo8 d a' := fun a' => by unfold lo8; rw [hn]
    have hgm : ∀ r ∈ atE (rs.take m) s.epoch, RcG r := fun r hr => hgE r (by rw [atE_take] at hr; exact List.mem_of_mem_take hr)
    have hin : ∀ i r, j.place ≤ i → (atE (rs.take m) s.epoch)[i - j.place]? = some r → ∃ n, q.2.1.dur.getD i [] = tornS n (secR r i) (d.dur.getD i []) := fun i r i1 i2 => by
      have := (List.getElem?_eq_some_iff.1 i2).1
      exact (hget (by omega)).2 r i1 i2
    have hfr : ∀ i, j.place ≤ i → i < j.place + m → hdrE (d.dur.getD i []) < s.epoch ∧ trlE (d.dur.getD i []) < s.epoch := fun i i1 i2 => hl.fr i i1 (by omega)
    have hL : DkL q.2.1 := ⟨hok, by rw [hn, h5]; show List.replicate dx.cch.length none = _; rw [h4.cch, putC_len, hd.l.ok.len]⟩
    obtain ⟨jx, hjx⟩ := fols_take hf m
    rw [← atE_take] at hjx
    have hread := crash_reads (f := fun i => q.2.1.dur.getD i []) (b := lo8 q.2.1 a) (lim := lo8 d (a + 1)) (e := s.epoch) (atE (rs.take m) s.epoch) (LI.reads hd hl hn fun i i1 i2 => (hget i1).1 (.inl i2)) (by rw [hlm]; omega) hjx atE_ep
      (fun i i1 i2 r hr => by
        by_cases hc : j.place + m ≤ i
        · rw [(hget (hd.lt i2)).1 (.inr hc)] at hr
          have := bears_ep (hd.l.sec (hd.lt i2)) hr
          have := hl.fr i i1 i2
          exact .inr (by omega)
        · obtain ⟨r', hr'⟩ := get_mem (l := atE (rs.take m) s.epoch) (i := i - j.place) (by rw [hlm]; omega)
          obtain ⟨n, hnn⟩ := hin i r' i1 hr'
          rw [hnn] at hr
          have ha := hfr i i1 (by omega)
          have hre := atE_ep r' (List.mem_of_getElem? hr')
          rcases torn_bears (k := n) (n := i) (hgm r' (List.mem_of_getElem? hr')) (hd.l.sec (hd.lt i2)) (by omega) (by omega) (by omega) with e | e | e
          · rw [e, bears_secR (hgm r' (List.mem_of_getElem? hr'))] at hr
            injection hr with hr
            subst hr
            exact .inl hr'
          · rw [e] at hr
            have := bears_ep (hd.l.sec (hd.lt i2)) hr
            exact .inr (by omega)
          · rw [e] at hr; cases hr)
      (.inr fun hlt r hr => by
        have hstp : ∀ r, bearsR (d.dur.getD j.place []) j.place = some r → j.follow r = none := by
          rcases hd.jr.stp with h | h
          · omega
          · exact h
        by_cases hc : m = 0
        · rw [(hget (hd.lt hlt)).1 (.inr (by omega))] at hr
          exact .inr (hstp r hr)
        · obtain ⟨r', hr'⟩ := get_mem (l := atE (rs.take m) s.epoch) (i := j.place - j.place) (by rw [hlm]; omega)
          obtain ⟨n, hnn⟩ := hin j.place r' (Nat.le_refl _) hr'
          rw [hnn] at hr
          have ha := hfr j.place (Nat.le_refl _) (by omega)
          have hre := atE_ep r' (List.mem_of_getElem? hr')
          rcases torn_bears (k := n) (n := j.place) (hgm r' (List.mem_of_getElem? hr')) (hd.l.sec (hd.lt hlt)) (by omega) (by omega) (by omega) with e | e | e
          · rw [e, bears_secR (hgm r' (List.mem_of_getElem? hr'))] at hr
            injection hr with hr
            subst hr
            left
            rw [List.head?_eq_getElem?]
            simpa using hr'
          · rw [e] at hr
            exact .inr (hstp r hr)
          · rw [e] at hr; cases hr)
    obtain ⟨m', jm, g1, g2, g3⟩ := hread
    rw [hlm] at g1
    have hf2 : j.fols ((atE rs s.epoch).take m') = some jm := by
      rw [atE_take, List.take_take, Nat.min_eq_left g1] at g2
      exact g2
    have hkeep := fols_keep (fun r hr => hkE r (List.mem_of_mem_take hr)) hf2
    have hage : q.2.1.age = d.age + 1 := by rw [h5]; show dx.age + 1 = _; rw [h4.age]
    refine ⟨h1, h2, hage, by rw [h5]; rfl, hn, m', jm, by omega, hf2, hL, hd.act, by rw [hlow (a + 1)]; exact g3, hkeep.1.trans hd.rdy, by rw [hkeep.2.1]; exact hl.age5, fun i r i1 i2 i3 i4 => ?_, fun i hi => ?_, hE⟩
    · rw [hlow] at i1 i2
      have ho := lo8_oth hd.act i1 i2
      have hi : i < d.dur.length := Nat.lt_of_lt_of_le i2 (lo8_le d (by omega))
      rw [(hget hi).1 (by omega)] at i3
      rw [hkeep.2.1]
      exact hd.oth i r i1 i2 i3 i4
    · rw [hn] at hi
      by_cases hc : i < j.place ∨ j.place + m ≤ i
      · rw [(hget hi).1 hc]
        exact hl.ep i hi
      · obtain ⟨r, hr⟩ := get_mem (l := atE (rs.take m) s.epoch) (i := i - j.place) (by rw [hlm]; omega)
        obtain ⟨n, hnn⟩ := hin i r (by omega) hr
        rw [hnn]
        have ha := hfr i (by omega) (by omega)
        have hx := hgo r (by have := List.mem_of_getElem? hr; rw [atE_take] at this; exact List.mem_of_mem_take this) i
        have := torn_ep (k := n) (secR_ok r i (hgm r (List.mem_of_getElem? hr)).bits) (hd.l.sec hi) (by omega) (by omega) (by omega) (by omega)
        omega
#print axioms commit_law
end Go.Proofs.Ytdgmjedkhjeadaa
/- The contract of Compact's closure. Conditions: as each statement says. -/
namespace Go.Proofs.Ytdgmjedkhjeadaa
open Go.RowKit
set_option linter.unusedVariables false
/-- A Ready, as Compact writes it. -/
def rdy8 (last side : Nat) : Rc := ⟨0, 5, last, side, 0, []⟩
/-- What Compact's closure does: the records, and then a Ready. -/
def cpt8 (d : Dk) (s : StM) (rs : List Rc) (last side : Nat) : Bool × Dk × StM :=
  if (StM.commitW d s rs).1 = true then StM.commitW d s rs else StM.commitW (StM.commitW d s rs).2.1 (StM.commitW d s rs).2.2 [rdy8 last side]
theorem rdy8V (last side : Nat) : recV (rdy8 last side) none 0 = .agg #[.int .i64 0, .int .i64 5, .int .i64 (last : Int), .int .i64 (side : Int), .int .i64 0, .slice none 0 0] := rfl
theorem rdy8_good (last side e : Nat) (hl : last ≤ 2147483647) (h : side ≤ 1) (h1 : 1 ≤ e) (h2 : e < 4294967296) : RcG ((rdy8 last side).at' e) := ⟨h1, h2, hl, by simp [rdy8, Rc.at'], .inr (.inr (.inr (.inr ⟨rfl, h, rfl, rfl⟩)))⟩
theorem writes_false : ∀ (rs : List Rc) (d : Dk) (s : StM) (d' : Dk) (s' : StM), StM.writes d s rs = (false, d', s') → d'.age = d.age ∧ d'.dur = d.dur ∧ s'.epoch = s.epoch ∧ s'.age = s.age ∧ s'.j.place ≤ s.j.place + rs.length ∧ d'.down = d.down
  | [], d, s, d', s', h => by
    rw [StM.writes] at h
    injection h with _ h
    injection h with h1 h2
    subst h1; subst h2
    exact ⟨rfl, rfl, rfl, rfl, by simp, rfl⟩
  | r :: rs, d, s, d', s', h => by
    rw [StM.writes] at h
    by_cases hq : (s.write d r).1 = true
    · rw [if_pos hq] at h
      rw [h] at hq; cases hq
    · rw [if_neg hq] at h
      obtain ⟨h1, h2, h3, h4, h5, h6, h7⟩ := write_false (d := d) (s := s) (r := r) (by simpa using hq)
      obtain ⟨g1, g2, g3, g4, g5, g6⟩ := writes_false rs _ _ d' s' h
      exact ⟨g1.trans h1, g2.trans h2, g3.trans h4, g4.trans h3, by simp only [List.length_cons]; omega, g6.trans h7⟩
theorem sync_keep {d : Dk} (ho : DkOK d) (h : d.syncR.1 = 0) : d.syncR.2.age = d.age ∧ d.syncR.2.dur.length = d.dur.length := by
  unfold Dk.syncR at h ⊢
  split at h
  · cases h
  · rename_i hd
    rw [if_neg hd]
    dsimp only at h ⊢
    unfold Dk.sync at h ⊢
    rcases tick_cases d with ⟨t1, t2, t3, t4, t5⟩ | ⟨k, hk⟩
    · rw [show d.tick = (d.tick.1, d.tick.2) from rfl, t1]
      dsimp only
      refine ⟨t4, ?_⟩
      rw [syncS_length _ _ (by rw [t3, t2]; exact ho.len), t2]
    · rw [hk] at h
      simp at h
section
variable {w w' : World} {S D : Nat} {d : Dk} {s : StM} {bs bm cp : Nat} {p : Option Addr} {F B : List Nat}
set_option maxRecDepth 100000 in
set_option maxHeartbeats 2000000 in
theorem compact1_any (hd : DkAt w D d bs bm cp p) (hs : StIn w S D s F B) (rs : List Rc) (lv : Value) (X : List Nat) (hr : RcsAt w lv rs X) (ho : CmOK d s rs) (hup : d.down = false) (last side : Nat) (hl2 : last ≤ 2147483647) (hside : side ≤ 1) (hpl3 : s.j.place + rs.length < d.dur.length) (hage : d.age + rs.length + 1 < 4611686018427387903) (he1 : 1 ≤ s.epoch)
    (pl ps po O : Nat) (oc : Array Value) (hpl : Bk w pl #[lv] 71) (hps : Bk w ps #[.pointer (some ⟨S, 0, none⟩)] 26) (hpo : Bk w po #[.pointer (some ⟨O, 0, none⟩)] 53) (hO : Bk w O oc 62) (hO1 : oc[1]? = some (.int .i64 (last : Int))) (hO4 : oc[4]? = some (.int .i64 (side : Int))) (hOF : O ∉ F) :
    Calls Try.prog 37 #[.pointer (some ⟨pl, 0, none⟩), .pointer (some ⟨ps, 0, none⟩), .pointer (some ⟨po, 0, none⟩)] w (ComR D S bs bm cp p F B X (cpt8 d s rs last side) w) := by
  have HD := Lib.hid hd; have HS := Lib.hid hs; have HPL := Lib.hid hpl; have HPS := Lib.hid hps; have HPO := Lib.hid hpo; have HO := Lib.hid hO; have HOF := Lib.hid hOF; have HHO := Lib.hid ho
  obtain ⟨A, c, hlv, _⟩ := id hr
  have HLV := Lib.hid hlv
  have hn := hd.ok.n256
  have hlen : rs.length ≤ 256 := by have := ho.p; omega
  have HI : Hid (ComI w D S bs bm cp p F B X lv d s rs 0 w) := Lib.hid ⟨⟨d, s, SysM.refl hd hs X (Below.refl _ _), by simpa using ho, by simp⟩, hr, fun b cs t h _ => h⟩
  have c0 : w.cell? ⟨pl, 0, none⟩ = some lv := hpl.cell 0
  rw [hlv] at c0
  obtain ⟨n, hn2⟩ : ∃ n, n = rs.length := ⟨_, rfl⟩
  have HN := Lib.hid hn2
  rw [← hn2] at c0 hlen
  have HOK : Hid (∀ w3 d' s', SysM w w3 D S bs bm cp p F B X d' s' → Bk w3 O oc 62) := Lib.hid fun w3 d' s' h => hO.keepL h.k (fun hm => by
    rcases List.mem_append.1 hm with hm | hm
    · exact hd.fpN hO (by decide) (by decide) (by decide) hm
    · exact hOF hm)
  clear hd hs hr ho hpl hps hlv hn2 hpo hO hOF
  go_enter Try.func37, Try.ntmps37
  go_wp2_with fail
  clear c0
  go_loopw [5, 8] (fun _ v7 wr => ∃ i : Nat, i ≤ n ∧ v7 = .int .i64 i ∧ ComI w D S bs bm cp p F B X lv d s rs i wr) (fun _ v7 _ => n - (intOf v7).toNat)
  case atStart => exact ⟨0, Nat.zero_le _, rfl, HI.out⟩
  case round =>
    obtain ⟨i, hi, rfl, hci⟩ := hrel
    obtain ⟨wi, rfl⟩ : ∃ z : World, z = wr := ⟨_, rfl⟩
    have HCI := Lib.hid hci
    clear hci HI
    have ps0 : wi.cell? ⟨ps, 0, none⟩ = some (.pointer (some ⟨S, 0, none⟩)) := by rw [(HCI.out.k _ _ _ HPS.out (by decide)).cell]; rfl
    by_cases hlt : i < n
    · have hki : (i : Int) < (n : Int) := by omega
      have hil : i < rs.length := by have := HN.out; omega
      obtain ⟨r, hr⟩ : ∃ r, rs[i]? = some r := ⟨_, List.getElem?_eq_getElem hil⟩
      have hdr : rs.drop i = r :: rs.drop (i + 1) := by
        rw [List.drop_eq_getElem_cons hil]
        congr 1
        rw [List.getElem?_eq_getElem hil] at hr
        injection hr
      obtain ⟨A1, c1, hlv1, hre⟩ := HCI.out.r
      rw [HLV.out] at hlv1
      injection hlv1 with hA1 hn1 hc1
      subst hA1
      subst hc1
      clear hn1
      obtain ⟨b, A', c', hA, ⟨cs, hcs⟩, hrng, hbyt, hX⟩ := hre i r hr
      subst hA
      have HRNG := Lib.hid hrng
      have hi2 : (Try.prog.info? 60).map (·.size) = some (recC r A' c').toList.length := recC_info r A' c'
      have HI2 := Lib.hid hi2
      have HRI := Lib.hid (recC_info r A' c')
      obtain ⟨⟨d1, s1, hsy, hcm, hw⟩, _, hkk⟩ := HCI.out
      rw [hdr] at hcm hw
      obtain ⟨w2, hw2⟩ : ∃ z, z = wi.alloc (.cells (recC r A' c') 60) := ⟨_, rfl⟩
      have hb2 : Below wi.heap.size wi w2 := by rw [hw2]; exact balloc _ _
      have hbx : Bk w2 wi.heap.size (recC r A' c') 60 := by rw [hw2]; exact Bk.new _ _ _
      have HBX := Lib.hid hbx
      have ps2 : w2.cell? ⟨ps, 0, none⟩ = some (.pointer (some ⟨S, 0, none⟩)) := (hb2.cell (p := ⟨ps, 0, none⟩) (HCI.out.k _ _ _ HPS.out (by decide)).lt).trans ps0
      have hsy2 := hsy.below hb2
      obtain ⟨p1, q1, q2⟩ := hsy2.d
      obtain ⟨F1, B1, q3, q4, q5⟩ := hsy2.s
      have HCALL := Lib.hid (swrite_any q1 q3 r A' c' (hbyt.far hb2) hcm.wr X hX)
      have HTR : Hid (∀ w3 d' s', SysM w2 w3 D S bs bm cp p1 F1 B1 X d' s' → SysM w w3 D S bs bm cp p F B X d' s') := Lib.hid fun w3 d' s' h => SysM.trans q2 q4 q5 hsy2.k h (fun k hk => .inl hk)
      have HBK : Hid (∀ w3 d' s', SysM w2 w3 D S bs bm cp p1 F1 B1 X d' s' → (∀ b cs t, Bk w b cs t → t ≠ 52 ∧ t ≠ 86 ∧ t ≠ 112 ∧ t ≠ 56 ∧ t ≠ 62 ∧ t ≠ 66 ∧ t ≠ 68 ∧ t ≠ 4 → Bk w3 b cs t) ∧ RcsAt w3 lv rs X) := Lib.hid fun w3 d' s' h =>
        ⟨fun b cs t hb ht => h.bk q1 q3 b cs t ((hkk b cs t hb ht).past hb2 (hkk b cs t hb ht).lt) ht, (HCI.out.r.far hb2).sys q1 q3 h.k⟩
      have HCM := Lib.hid hcm; have HW := Lib.hid hw
      have HW2 := Lib.hid hw2
      clear hsy hsy2 q1 q2 q3 q4 q5 hcm hw hkk hrng hbyt hX hcs hre hr hdr hi2 hbx hb2 hw2
      go_upto_region 4 with (first
        | (refine wpList_load_mid rfl _ _ rfl b (i * 6) (by simp [Act.eval]) (recC r A' c').toList _ HRNG.out Try.underlying60 rfl HI2.out ?_)
        | (refine wpList_plain rfl fun _ hK => wp_store_row 60 _ _ rfl wi.heap.size (recC r A' c') rfl rfl _ _ (heap_alloc_new wi _) HRI.out rfl (recC_all _ _ _) (hK _ _ ?_); rw [World.setRow_alloc_new]))
      rw [← HW2.out]
      go_wp2_with (refine wpList_load_row rfl 60 _ rfl wi.heap.size rfl _ (recC r A' c') (0, 0) _ HBX.out Try.underlying60 rfl HRI.out ?_)
      refine HCALL.out.mono ?_
      rintro e w3 ⟨hbad, hok, hsy3⟩
      have HSY3 := Lib.hid hsy3
      clear hsy3
      cases hq : (s1.write d1 r).1 with
      | true =>
        have he := hbad hq
        subst he
        have HF : Hid (s.commitW d rs = s1.write d1 r) := Lib.hid (by
          have : StM.writes d s rs = s1.write d1 r := by rw [HW.out, StM.writes, if_pos hq]
          unfold StM.commitW
          rw [this, if_pos hq])
        have HQ := Lib.hid hq
        clear hq hbad hok
        have HFC : Hid (cpt8 d s rs last side = s1.write d1 r) := Lib.hid (by unfold cpt8; rw [HF.out, if_pos HQ.out])
        go_wp2_with fail
        exact ⟨rfl, by
          unfold ComR
          rw [HFC.out]
          exact ⟨fun _ => rfl, fun h => Bool.noConfusion (HQ.out.symm.trans h), HTR.out _ _ _ HSY3.out, (HBK.out _ _ _ HSY3.out).1⟩⟩
      | false =>
        have he := hok hq
        subst he
        have HCI3 : Hid (ComI w D S bs bm cp p F B X lv d s rs (i + 1) w3) := Lib.hid ⟨⟨_, _, HTR.out _ _ _ HSY3.out, HCM.out.next hq, by rw [HW.out, StM.writes, if_neg (by rw [hq]; simp)]⟩, (HBK.out _ _ _ HSY3.out).2, (HBK.out _ _ _ HSY3.out).1⟩
        clear hq hbad hok HTR HBK HSY3
        go_wp2_with fail
        go_roundw
        case rel => exact ⟨i + 1, by omega, by go_num, HCI3.out⟩
        case measure => simp [intOf]; omega
    · have hki : ¬ (i : Int) < (n : Int) := by omega
      obtain rfl : i = n := by omega
      obtain ⟨⟨d1, s1, hsy, hcm, hw⟩, _, hkk⟩ := HCI.out
      rw [HN.out, List.drop_length] at hcm hw
      obtain ⟨p1, q1, q2⟩ := hsy.d
      obtain ⟨F1, B1, q3, q4, q5⟩ := hsy.s
      have hsd : wi.cell? ⟨S, 0, none⟩ = some (.pointer (some ⟨D, 0, none⟩)) := by
        obtain ⟨T, kv, xs, tb, tc, h1, _⟩ := q3
        rw [h1.blk.cell]; rfl
      have HSYN := Lib.hid (sync_any q1 (⟨hcm.age0, by have := hcm.age; simp at this; omega⟩ : AgeOK d1))
      have HTR : Hid (∀ w3 d', DkMut wi w3 D bs bm cp p1 d' → SysM w w3 D S bs bm cp p F B X d' s1 ∧ ∀ b cs t, Bk w b cs t → t ≠ 52 ∧ t ≠ 86 ∧ t ≠ 112 ∧ t ≠ 56 ∧ t ≠ 62 ∧ t ≠ 66 ∧ t ≠ 68 ∧ t ≠ 4 → Bk w3 b cs t) := Lib.hid fun w3 d' h =>
        have h2 := SysM.ofDisk q1 q3 h X
        ⟨SysM.trans q2 q4 q5 hsy.k h2 (fun k hk => .inl hk), fun b cs t hb ht => h2.bk q1 q3 b cs t (hkk b cs t hb ht) ht⟩
      have HF : Hid (s.commitW d rs = (decide (d1.syncR.1 ≠ 0), d1.syncR.2, s1)) := Lib.hid (by
        have : StM.writes d s rs = (false, d1, s1) := by rw [hw, StM.writes]
        unfold StM.commitW
        rw [this, if_neg (by simp)])
      have HWF := Lib.hid (writes_false rs d s d1 s1 (by rw [hw, StM.writes]))
      have HDK : Hid (DkOK d1) := Lib.hid q1.ok
      clear hsy hcm hw hkk q1 q2 q3 q4 q5
      have hv : d1.syncR.1 = 0 ∨ d1.syncR.1 = 13 := by
        unfold Dk.syncR
        split
        · exact .inr rfl
        · dsimp only; split
          · exact .inr rfl
          · exact .inl rfl
      go_wp2_with fail
      refine HSYN.out.mono ?_
      rintro e w3 ⟨rfl, hm3⟩
      have HM3 := Lib.hid (HTR.out _ _ hm3)
      clear hm3 HTR HSYN
      rcases hv with hv | hv
      · rw [hv]
        have HQ : Hid (s.commitW d rs = (false, d1.syncR.2, s1)) := Lib.hid (by rw [HF.out, hv]; rfl)
        have HF2 : Hid (cpt8 d s rs last side = StM.commitW d1.syncR.2 s1 [rdy8 last side]) := Lib.hid (by unfold cpt8; rw [HQ.out]; rfl)
        have hsk := sync_keep HDK.out hv
        obtain ⟨d2, hd2⟩ : ∃ z, z = d1.syncR.2 := ⟨_, rfl⟩
        rw [← hd2] at HM3 HF2 hsk
        clear hv HF HQ hd2
        have hm := HM3.out
        obtain ⟨p2, q1, q2⟩ := hm.1.d
        obtain ⟨F2, B2, q3, q4, q5⟩ := hm.1.s
        have hpo3 := hm.2 _ _ _ HPO.out (by decide)
        have hps3 := hm.2 _ _ _ HPS.out (by decide)
        have hO3 := HOK.out _ _ _ hm.1
        have HD3 := Lib.hid q1; have HS3 := Lib.hid q3
        have hwf := HWF.out
        have hdl : d1.dur.length = d.dur.length := by rw [hwf.2.1]
        have hx0 := HHO.out.age0
        have HTR : Hid (∀ w4 d' s', SysM w3 w4 D S bs bm cp p2 F2 B2 [] d' s' → SysM w w4 D S bs bm cp p F B X d' s' ∧ ∀ b cs t, Bk w b cs t → t ≠ 52 ∧ t ≠ 86 ∧ t ≠ 112 ∧ t ≠ 56 ∧ t ≠ 62 ∧ t ≠ 66 ∧ t ≠ 68 ∧ t ≠ 4 → Bk w4 b cs t) := Lib.hid fun w4 d' s' h =>
          ⟨SysM.trans q2 q4 q5 hm.1.k h (fun k hk => by simp at hk), fun b cs t hb ht => h.bk HD3.out HS3.out b cs t (hm.2 b cs t hb ht) ht⟩
        have HWO : Hid (WrOK d2 s1 (rdy8 last side)) := Lib.hid ⟨⟨by rw [hsk.1, hwf.1]; exact hx0, by rw [hsk.1, hwf.1]; omega⟩, rdy8_good last side _ hl2 hside (by rw [hwf.2.2.1]; exact he1) q3.ok.epoch, by rw [hsk.2, hdl]; omega⟩
        have HAG : Hid (AgeOK d2) := Lib.hid HWO.out.age
        have z1 : w3.cell? ⟨ps, 0, none⟩ = some (.pointer (some ⟨S, 0, none⟩)) := hps3.cell 0
        have z2 : w3.cell? ⟨po, 0, none⟩ = some (.pointer (some ⟨O, 0, none⟩)) := hpo3.cell 0
        have z3 : w3.cell? ⟨O, 1, none⟩ = some (.int .i64 (last : Int)) := by rw [hO3.cell]; exact hO1
        have z4 : w3.cell? ⟨O, 4, none⟩ = some (.int .i64 (side : Int)) := by rw [hO3.cell]; exact hO4
        have HZ : Hid (w3.cell? ⟨ps, 0, none⟩ = some (.pointer (some ⟨S, 0, none⟩)) ∧ w3.cell? ⟨po, 0, none⟩ = some (.pointer (some ⟨O, 0, none⟩)) ∧ w3.cell? ⟨O, 1, none⟩ = some (.int .i64 (last : Int)) ∧ w3.cell? ⟨O, 4, none⟩ = some (.int .i64 (side : Int))) := Lib.hid ⟨z1, z2, z3, z4⟩
        have HPS3 := Lib.hid hps3
        have HZ2 : Hid (∀ w5 d' s', SysM w3 w5 D S bs bm cp p2 F2 B2 [] d' s' → w5.cell? ⟨ps, 0, none⟩ = some (.pointer (some ⟨S, 0, none⟩)) ∧ w5.cell? ⟨po, 0, none⟩ = some (.pointer (some ⟨O, 0, none⟩)) ∧ w5.cell? ⟨O, 1, none⟩ = some (.int .i64 (last : Int)) ∧ w5.cell? ⟨O, 4, none⟩ = some (.int .i64 (side : Int))) := Lib.hid fun w5 d' s' h => by
          have e1 := h.bk HD3.out HS3.out _ _ _ hps3 (by decide)
          have e2 := h.bk HD3.out HS3.out _ _ _ hpo3 (by decide)
          have e3 := hO3.keepL h.k (fun hm' => by
            rcases List.mem_append.1 hm' with hm' | hm'
            · exact HD3.out.fpN hO3 (by decide) (by decide) (by decide) hm'
            · rcases q4 _ hm' with h1 | h1
              · exact HOF.out h1
              · have := HO.out.lt; omega)
          exact ⟨e1.cell 0, e2.cell 0, by rw [e3.cell]; exact hO1, by rw [e3.cell]; exact hO4⟩
        clear hm q1 q2 q3 q4 q5 hpo3 hO3 hwf hsk HM3 HCI hO1 hO4 hps3
        go_wp2_with fail
        refine (must_ok _).mono ?_
        rintro e w4 ⟨rfl, rfl⟩
        go_upto_region 7 with fail
        have HWR := Lib.hid (swrite_any (HD3.out.far (below_drew8 w3 _)) (HS3.out.far (below_drew8 w3 _)) (rdy8 last side) none 0 (World.ownsRow_nil _ _ _ _) HWO.out [] (fun k hk => by simp [obT, ob, Value.ownBlock] at hk))
        rw [rdy8V] at HWR
        clear z1 z2 z3 z4
        -- <REGION r7
        refine wp_region_held_drew (S := (fun W => W.cell? ⟨ps, 0, none⟩ = some (.pointer (some ⟨S, 0, none⟩)) ∧ W.cell? ⟨po, 0, none⟩ = some (.pointer (some ⟨O, 0, none⟩)) ∧ W.cell? ⟨O, 1, none⟩ = some (.int .i64 (last : Int)) ∧ W.cell? ⟨O, 4, none⟩ = some (.int .i64 (side : Int)))) (by kernel_rfl) ?_ (fun hHeld => ?_)
        · (try dsimp only); first | exact HZ.out | exact HZ5.out
        refine wpAnyH_take (i := 0) (oi := ⟨some 22, _, _, _, _, _⟩) (v := ?_) rfl (by kernel_rfl) (by kernel_rfl) (by kernel_rfl) (fun _ _ _ h => h) (Or.inl ⟨by rfl, ?_⟩) (by assumption) ?_
        rotate_left
        · (intro w hSw; (try dsimp only at hSw); go_simp; try with_reducible rfl)
        try simp only [Act.put, List.setIfInBounds_toArray, List.set_cons_zero, List.set_cons_succ]
        refine wpAnyH_take (i := 1) (oi := ⟨some 23, _, _, _, _, _⟩) (v := ?_) rfl (by kernel_rfl) (by kernel_rfl) (by kernel_rfl) (fun _ _ _ h => h) (Or.inl ⟨by rfl, ?_⟩) (by assumption) ?_
        rotate_left
        · (intro w hSw; (try dsimp only at hSw); go_simp; try with_reducible rfl)
        try simp only [Act.put, List.setIfInBounds_toArray, List.set_cons_zero, List.set_cons_succ]
        refine wpAnyH_take (i := 2) (oi := ⟨some 24, _, _, _, _, _⟩) (v := ?_) rfl (by kernel_rfl) (by kernel_rfl) (by kernel_rfl) (fun _ _ _ h => h) (Or.inl ⟨by rfl, ?_⟩) (by assumption) ?_
        rotate_left
        · (intro w hSw; (try dsimp only at hSw); go_simp; try with_reducible rfl)
        try simp only [Act.put, List.setIfInBounds_toArray, List.set_cons_zero, List.set_cons_succ]
        refine wpAnyH_take (i := 3) (oi := ⟨some 25, _, _, _, _, _⟩) (v := ?_) rfl (by kernel_rfl) (by kernel_rfl) (by kernel_rfl) (fun _ _ _ h => h) (Or.inl ⟨by rfl, ?_⟩) (by assumption) ?_
        rotate_left
        · (intro w hSw; (try dsimp only at hSw); go_simp; try with_reducible rfl)
        try simp only [Act.put, List.setIfInBounds_toArray, List.set_cons_zero, List.set_cons_succ]
        refine wpAnyH_take (i := 4) (oi := ⟨some 26, _, _, _, _, _⟩) (v := ?_) rfl (by kernel_rfl) (by kernel_rfl) (by kernel_rfl) (fun _ _ _ h => h) (Or.inl ⟨by rfl, ?_⟩) (by assumption) ?_
        rotate_left
        · (intro w hSw; (try dsimp only at hSw); go_simp; try with_reducible rfl)
        try simp only [Act.put, List.setIfInBounds_toArray, List.set_cons_zero, List.set_cons_succ]
        refine wpAnyH_take (i := 5) (oi := ⟨some 27, _, _, _, _, _⟩) (v := ?_) rfl (by kernel_rfl) (by kernel_rfl) (by kernel_rfl) (fun _ _ _ h => h) (Or.inl ⟨by rfl, ?_⟩) (by assumption) ?_
        rotate_left
        · (intro w hSw; (try dsimp only at hSw); go_simp; try with_reducible rfl)
        try simp only [Act.put, List.setIfInBounds_toArray, List.set_cons_zero, List.set_cons_succ]
        refine wpAnyH_take (i := 6) (oi := ⟨some 28, _, _, _, _, _⟩) (v := ?_) rfl (by kernel_rfl) (by kernel_rfl) (by kernel_rfl) (fun _ _ _ h => h) (Or.inl ⟨by rfl, ?_⟩) (by assumption) ?_
        rotate_left
        · (intro w hSw; (try dsimp only at hSw); go_simp; try with_reducible rfl)
        try simp only [Act.put, List.setIfInBounds_toArray, List.set_cons_zero, List.set_cons_succ]
        refine wpAnyH_take (i := 7) (oi := ⟨some 29, _, _, _, _, _⟩) (v := ?_) rfl (by kernel_rfl) (by kernel_rfl) (by kernel_rfl) (fun _ _ _ h => h) (Or.inl ⟨by rfl, ?_⟩) (by assumption) ?_
        rotate_left
        · (intro w hSw; (try dsimp only at hSw); go_simp; try with_reducible rfl)
        try simp only [Act.put, List.setIfInBounds_toArray, List.set_cons_zero, List.set_cons_succ]
        refine wpAnyH_take (i := 8) (oi := ⟨some 30, _, _, _, _, _⟩) (v := ?_) rfl (by kernel_rfl) (by kernel_rfl) (by kernel_rfl) (fun _ _ _ h => h) (Or.inl ⟨by rfl, ?_⟩) (by assumption) ?_
        rotate_left
        · (intro w hSw; (try dsimp only at hSw); go_simp; try with_reducible rfl)
        try simp only [Act.put, List.setIfInBounds_toArray, List.set_cons_zero, List.set_cons_succ]
        refine wpAnyH_take (i := 9) (oi := ⟨some 31, _, _, _, _, _⟩) (v := ?_) rfl (by kernel_rfl) (by kernel_rfl) (by kernel_rfl) (fun _ _ _ h => h) (Or.inl ⟨by rfl, ?_⟩) (by assumption) ?_
        rotate_left
        · (intro w hSw; (try dsimp only at hSw); go_simp; try with_reducible rfl)
        try simp only [Act.put, List.setIfInBounds_toArray, List.set_cons_zero, List.set_cons_succ]
        refine wpAnyH_ready (rs := [10]) (by kernel_rfl) (by simp) ?_
        refine AllReadyH.cons (o := ⟨some 32, _, _, _, _, _⟩) rfl (fun K hK => ?_) AllReadyH.nil
        go_simp
        refine HWR.out.mono ?_
        rintro e' w5 ⟨hbad, hok, hsy3⟩
        have HSY3 : Hid (SysM w3 w5 D S bs bm cp p2 F2 B2 [] (s1.write d2 (rdy8 last side)).2.1 (s1.write d2 (rdy8 last side)).2.2) := Lib.hid (SysM.trans (NewP.refl w3 p2) (fun k hk => .inl hk) (fun k hk => .inl hk) (.of_below (below_drew8 _ _)) hsy3 (fun k hk => .inl hk))
        have HZ5 := Lib.hid (HZ2.out _ _ _ HSY3.out)
        cases hq : (s1.write d2 (rdy8 last side)).1 with
        | true =>
          have he := hbad hq
          subst he
          have HF : Hid (s1.commitW d2 [rdy8 last side] = s1.write d2 (rdy8 last side)) := Lib.hid (by
            have : StM.writes d2 s1 [rdy8 last side] = s1.write d2 (rdy8 last side) := by rw [StM.writes, if_pos hq]
            unfold StM.commitW
            rw [this, if_pos hq])
          have HQ := Lib.hid hq
          clear hq hbad hok hsy3
          go_wp2_with fail
          refine ⟨rfl, ?_⟩
          unfold ComR
          rw [HF2.out, HF.out]
          exact ⟨fun _ => rfl, fun h => Bool.noConfusion (HQ.out.symm.trans h), (HTR.out _ _ _ HSY3.out).1, (HTR.out _ _ _ HSY3.out).2⟩
        | false =>
        have he := hok hq
        subst he
        go_wp2_with fail
        refine hK.out _ _ ?_ (fun hHeld => ?_)
        · (try dsimp only); first | exact HZ.out | exact HZ5.out
        clear hK K
        try simp only [Act.put, List.setIfInBounds_toArray, List.set_cons_zero, List.set_cons_succ]
        refine wpAnyH_done (by kernel_rfl) ?_ _
        have hwf2 := write_false hq
        have HF : Hid (s1.commitW d2 [rdy8 last side] = (decide ((s1.write d2 (rdy8 last side)).2.1.syncR.1 ≠ 0), (s1.write d2 (rdy8 last side)).2.1.syncR.2, (s1.write d2 (rdy8 last side)).2.2)) := Lib.hid (by
          have : StM.writes d2 s1 [rdy8 last side] = (false, (s1.write d2 (rdy8 last side)).2.1, (s1.write d2 (rdy8 last side)).2.2) := by
            rw [StM.writes, if_neg (by rw [hq]; simp)]; rfl
          unfold StM.commitW
          rw [this, if_neg (by simp)])
        obtain ⟨p5, r1, r2⟩ := HSY3.out.d
        obtain ⟨F5, B5, r3, r4, r5⟩ := HSY3.out.s
        have hsk5 := HSY3.out.k
        have z5 := HZ5.out.1
        have zs : w5.cell? ⟨S, 0, none⟩ = some (.pointer (some ⟨D, 0, none⟩)) := by
          obtain ⟨T, kv, xs, tb, tc, h1, _⟩ := r3
          rw [h1.blk.cell]; rfl
        generalize (s1.write d2 (rdy8 last side)).2.1 = d5 at *
        generalize (s1.write d2 (rdy8 last side)).2.2 = s5 at *
        have HSYN2 := Lib.hid (sync_any r1 (⟨by rw [hwf2.1]; exact HAG.out.1, by rw [hwf2.1]; exact HAG.out.2⟩ : AgeOK d5))
        have HTR2 : Hid (∀ w6 d', DkMut w5 w6 D bs bm cp p5 d' → SysM w3 w6 D S bs bm cp p2 F2 B2 [] d' s5) := Lib.hid fun w6 d' h =>
          SysM.trans r2 r4 r5 hsk5 (SysM.ofDisk r1 r3 h []) (fun k hk => .inl hk)
        have hv5 : d5.syncR.1 = 0 ∨ d5.syncR.1 = 13 := by
          unfold Dk.syncR
          split
          · exact .inr rfl
          · dsimp only; split
            · exact .inr rfl
            · exact .inl rfl
        clear hq hbad hok hsy3 r1 r2 r3 r4 r5 hsk5 hwf2 HSY3 HZ5 HZ2
        go_wp2_with fail
        refine HSYN2.out.mono ?_
        rintro e w6 ⟨rfl, hm6⟩
        have HM6 := Lib.hid (HTR.out _ _ _ (HTR2.out _ _ hm6))
        clear hm6 HSYN2 HTR HTR2
        rcases hv5 with hv | hv
        · rw [hv]
          have HQ : Hid (cpt8 d s rs last side = (false, d5.syncR.2, s5)) := Lib.hid (by rw [HF2.out, HF.out, hv]; rfl)
          clear hv
          go_wp2_with fail
          refine (must_ok _).mono ?_
          rintro e w7 ⟨rfl, rfl⟩
          go_wp2_with fail
          refine bodyPost_ret (a := Act.mk _ _) (results_tmp rfl _ _ _) rfl ?_
          unfold ComR
          rw [HQ.out]
          exact ⟨fun h => Bool.noConfusion h, fun _ => rfl, HM6.out.1, HM6.out.2⟩
        · rw [hv]
          have HQ : Hid (cpt8 d s rs last side = (true, d5.syncR.2, s5)) := Lib.hid (by rw [HF2.out, HF.out, hv]; rfl)
          clear hv
          go_wp2_with fail
          refine (must_bad _).mono ?_
          rintro e w7 ⟨rfl, rfl⟩
          go_wp2_with fail
          refine ⟨rfl, ?_⟩
          unfold ComR
          rw [HQ.out]
          exact ⟨fun _ => rfl, fun h => Bool.noConfusion h, HM6.out.1, HM6.out.2⟩
        -- REGION>
      · rw [hv]
        have HQ : Hid (s.commitW d rs = (true, d1.syncR.2, s1)) := Lib.hid (by rw [HF.out, hv]; rfl)
        have HF2 : Hid (cpt8 d s rs last side = (true, d1.syncR.2, s1)) := Lib.hid (by unfold cpt8; rw [HQ.out]; rfl)
        clear hv
        go_wp2_with fail
        refine (must_bad _).mono ?_
        rintro e w4 ⟨rfl, rfl⟩
        go_wp2_with fail
        refine ⟨rfl, ?_⟩
        unfold ComR
        rw [HF2.out]
        exact ⟨fun _ => rfl, fun h => Bool.noConfusion h, HM3.out.1, HM3.out.2⟩
end
#print axioms compact1_any
end Go.Proofs.Ytdgmjedkhjeadaa
/- Compact, plainly, and the state of its loops. Conditions: as each statement says. -/
namespace Go.Proofs.Ytdgmjedkhjeadaa
open Go.RowKit
set_option linter.unusedVariables false
def runR (id : Nat) (x : Nat × Nat) : Rc := ⟨0, 3, id, x.1, x.2, []⟩
/-- The records of a key that Compact writes. -/
def cptK (k : Ky) : List Rc := if false ∈ k.used then recsK k.id k.bits ++ (runsL k.used true 0 k.used.length).map (runR k.id) else []
def cptL (keys : List Ky) : List Rc := keys.flatMap cptK
def StM.compactR (d : Dk) (s : StM) : Int × Dk × StM :=
  if s.age ≠ d.age then (13, d, s)
  else if s.epoch = 4294967295 then (8, d, s)
  else if d.dur.length / 2 < (cptL s.j.keys).length + 1 then (12, d, s)
  else
    let q := cpt8 d ⟨s.age, 1 - s.area, s.epoch + 1, Jn.zero ((1 - s.area) * (d.dur.length / 2))⟩ (cptL s.j.keys) s.j.last s.j.side
    (if q.1 = true then 13 else 0, q.2.1, q.2.2)
theorem cptL_succ {keys : List Ky} {i : Nat} {k : Ky} (h : keys[i]? = some k) : cptL (keys.take (i + 1)) = cptL (keys.take i) ++ cptK k := by
  unfold cptL
  rw [List.take_add_one, h, List.flatMap_append]; simp
theorem runsB_len (l : List Bool) (v : Bool) (hi : Nat) : ∀ f i, (runsB l v hi f i).length ≤ hi - i
  | 0, i => by simp [runsB]
  | f + 1, i => by
    rw [runsB]
    split
    · simp
    · rename_i hlt
      split
      · have h1 := endB_le l v (hi - i) i
        have := runsB_len l v hi f (endB l v (hi - i) i + 1)
        simp only [List.length_cons]
        omega
      · have := runsB_len l v hi f (i + 1)
        omega
theorem cptK_len (k : Ky) : (cptK k).length ≤ 2 + k.used.length := by
  unfold cptK
  split
  · rw [List.length_append, List.length_map]
    have := runsB_len k.used true k.used.length (k.used.length + 1 - 0) 0
    unfold runsL
    have h2 : (recsK k.id k.bits).length ≤ 2 := by unfold recsK; split <;> simp
    omega
  · simp
theorem cptL_len {keys : List Ky} (h : ∀ k ∈ keys, k.used.length ≤ 1000) : (cptL keys).length ≤ keys.length * 1002 := by
  induction keys with
  | nil => simp [cptL]
  | cons k ks ih =>
    have h1 := ih fun x hx => h x (by simp [hx])
    have h2 := cptK_len k
    have h3 := h k (by simp)
    unfold cptL at h1 ⊢
    rw [List.flatMap_cons, List.length_append, List.length_cons]
    omega
/-- A list of records that is being made: its box, its row, the rows of its bits. -/
def CpS (w : World) (bl : Nat) (xs : List RcX) (W : World) : Prop :=
  ∃ v, Bk W bl #[v] 71 ∧ W.ownsRow w.heap.size 60 6 v xs.length (rcsC xs) ∧ (∀ x ∈ xs, W.ownsRow w.heap.size 5 1 (.slice x.2.1 x.1.bits.length x.2.2) x.1.bits.length (secC x.1.bits)) ∧ Below w.heap.size w W
theorem CpS.far {w W W' : World} {bl : Nat} {xs : List RcX} (h : CpS w bl xs W) (hb : Below W.heap.size W W') : CpS w bl xs W' := by
  obtain ⟨v, h1, h2, h3, h4⟩ := h
  exact ⟨v, h1.past hb h1.lt, ownsRow_past8 h2 hb, fun x hx => ownsRow_past8 (h3 x hx) hb, bnextK h4 hb⟩
theorem CpS.iter {w X Y : World} {bl : Nat} {xs : List RcX} {row : Option Nat} {n₀ : Nat} (h : CpS w bl xs X) (hs : w.heap.size ≤ n₀) (hg : X.grownBy Y row) (hr : ∀ r, row = some r → n₀ ≤ r ∧ ∃ o : Obj, X.heap[r]? = some o ∧ o.isCells = false) : CpS w bl xs Y := by
  obtain ⟨v, h1, h2, h3, h4⟩ := h
  exact ⟨v, bk_iter h1 hg hr, own_iter h2 hg hr, fun x hx => own_iter (h3 x hx) hg hr, h4.grown hg h4.size (fun j hj => Nat.le_trans hs (hr j hj).1)⟩
theorem obT_own {W : World} {A : Option Addr} {c k B : Nat} {xs : List Value} (h : W.ownsRow B 5 1 (.slice A k c) k xs) : ∀ b ∈ obT A, B ≤ b := obT_ge h
/-- What the list reads as. -/
theorem CpS.at {w W : World} {bl : Nat} {xs : List RcX} (h : CpS w bl xs W) : ∃ v, Bk W bl #[v] 71 ∧ RcsAt W v (xs.map (·.1)) (xs.flatMap fun x => obT x.2.1) ∧ ∀ k ∈ xs.flatMap fun x => obT x.2.1, w.heap.size ≤ k := by
  obtain ⟨v, h1, h2, h3, h4⟩ := h
  refine ⟨v, h1, RcsAt.of_own (ownsRow_mono h2 (Nat.zero_le _)) (fun x hx => ⟨ownsRow_mono (h3 x hx) (Nat.zero_le _), fun k hk => List.mem_flatMap.2 ⟨x, hx, hk⟩⟩), fun k hk => ?_⟩
  obtain ⟨x, hx, hk⟩ := List.mem_flatMap.1 hk
  exact obT_own (h3 x hx) k hk
/-- Records in memory, as they are told to append. -/
theorem RcsAt.list {w : World} {v : Value} {rs : List Rc} {X : List Nat} (h : RcsAt w v rs X) : ∃ (ys : List RcX) (A : Option Addr) (c : Nat), v = .slice A rs.length c ∧ ys.map (·.1) = rs ∧ Rd w w.heap.size 6 A rs.length (rcsC ys) ∧ ∀ y ∈ ys, BytR w y.2.1 y.2.2 y.1.bits ∧ ∀ k ∈ obT y.2.1, k ∈ X := by
  obtain ⟨A, c, rfl, h2⟩ := h
  have hc : ∀ i : Fin rs.length, ∃ y : RcX, y.1 = rs[i] ∧ ∃ b, A = some ⟨b, 0, none⟩ ∧ b < w.heap.size ∧ w.rangeAt b (i * 6) (recC y.1 y.2.1 y.2.2).toList ∧ BytR w y.2.1 y.2.2 y.1.bits ∧ ∀ k ∈ obT y.2.1, k ∈ X := fun i => by
    obtain ⟨b, A', c', e1, ⟨cs, e2⟩, e3, e4, e5⟩ := h2 i rs[i] (List.getElem?_eq_getElem i.2)
    exact ⟨(rs[i], A', c'), rfl, b, e1, e2.lt, e3, e4, e5⟩
  refine ⟨List.ofFn fun i => Classical.choose (hc i), A, c, rfl, ?_, ⟨?_, fun h0 => ?_⟩, fun y hy => ?_⟩
  · refine List.ext_getElem (by simp) fun i h3 h4 => ?_
    simp only [List.getElem_map, List.getElem_ofFn]
    exact (Classical.choose_spec (hc ⟨i, h4⟩)).1
  · rw [rcsC_len]; simp
  · obtain ⟨_, b, e1, e2, _⟩ := Classical.choose_spec (hc ⟨0, h0⟩)
    refine ⟨b, 0, e1, e2, fun j u hu => ?_⟩
    have hj := (List.getElem?_eq_some_iff.1 hu).1
    rw [rcsC_len, List.length_ofFn] at hj
    have hi : j / 6 < rs.length := by omega
    obtain ⟨_, b', f1, f2, f3, _⟩ := Classical.choose_spec (hc ⟨j / 6, hi⟩)
    rw [e1] at f1
    injection f1 with f1
    injection f1 with f1
    subst f1
    have hg := rcsC_get (List.ofFn fun i => Classical.choose (hc i)) (j / 6) (j % 6) (Classical.choose (hc ⟨j / 6, hi⟩)) (by rw [List.getElem?_ofFn, dif_pos hi]) (Nat.mod_lt _ (by omega))
    rw [show j / 6 * 6 + j % 6 = j by omega, hu] at hg
    have := f3 (j % 6) u hg.symm
    rw [show 0 + j = (⟨j / 6, hi⟩ : Fin rs.length).val * 6 + j % 6 from by show 0 + j = j / 6 * 6 + j % 6; omega]
    exact this
  · obtain ⟨i, rfl⟩ := (List.mem_ofFn).1 hy
    obtain ⟨_, b, _, _, _, e4, e5⟩ := Classical.choose_spec (hc i)
    exact ⟨e4, e5⟩
#print axioms RcsAt.list
end Go.Proofs.Ytdgmjedkhjeadaa
/- StoreKnown's examples, computed plainly. Conditions: none. -/
namespace Go.Proofs.Ytdgmjedkhjeadaa
set_option linter.unusedVariables false
def jnwB (j : Jn) : Bool := decide ((j.keys.map (·.id)).Pairwise (· < ·)) && j.keys.all (fun k => decide (1 ≤ k.id ∧ k.id ≤ j.last ∧ k.bits.length = k.used.length ∧ 1 ≤ k.used.length ∧ k.used.length ≤ 512)) && decide (j.last ≤ 2147483647) && decide (j.tail.a ≤ 320)
theorem jnwB_w {j : Jn} (h : jnwB j = true) : JnW j := by
  unfold jnwB at h
  simp only [Bool.and_eq_true, decide_eq_true_eq, List.all_eq_true] at h
  obtain ⟨⟨⟨h1, h2⟩, h3⟩, h4⟩ := h
  exact ⟨List.pairwise_map.1 h1, h2, h3, fun _ h => by omega⟩
def useB (d : Dk) (s : StM) : Bool := decide (0 ≤ d.age) && decide (d.age < 1000) && decide (s.j.place ≤ s.lim d) && decide (1 ≤ s.epoch) && jnwB s.j && !d.down && decide (s.j.side ≤ 1) && decide (s.age = d.age)
theorem useB_w {d : Dk} {s : StM} (h : useB d s = true) : UseW d s ∧ d.down = false ∧ s.j.side ≤ 1 ∧ s.age = d.age ∧ 0 ≤ d.age ∧ d.age < 4611686018427380000 := by
  unfold useB at h
  simp only [Bool.and_eq_true, decide_eq_true_eq, Bool.not_eq_true'] at h
  obtain ⟨⟨⟨⟨⟨⟨⟨h1, h2⟩, h3⟩, h4⟩, h5⟩, h6⟩, h7⟩, h8⟩ := h
  exact ⟨⟨⟨h1, by omega, h3⟩, h4, jnwB_w h5⟩, h6, h7, h8, h1, by omega⟩
def s00 : StM := ⟨0, 0, 0, Jn.zero 0⟩
def k1 : Int × Dk × Option StM := (Dk.new 4).openR 0
def ks1 : StM := k1.2.2.getD s00
def k2 : Int × Dk × StM := ks1.addR k1.2.1 7 [true, false, true, false]
def k3 : Int × Dk × StM := k2.2.2.addR k2.2.1 8 [true]
def k4 : Int × List Pc × List Bool × Dk × StM := k3.2.2.takeR k3.2.1 1
def k5 : Int × Dk × StM := k4.2.2.2.2.compactR k4.2.2.2.1
def k6 : Int × Dk × Option StM := k5.2.1.openR 1
def k7 : Int × Dk × Option StM := k6.2.1.openR 0
def ks7 : StM := k7.2.2.getD s00
theorem k1_r : k1.1 = 0 := by kernel_rfl
theorem k1_s : k1.2.2 = some ks1 := by kernel_rfl
theorem k1_u : useB k1.2.1 ks1 = true := by kernel_rfl
theorem k1_v : k1.2.1.dur.length = 4 ∧ ks1.room k1.2.1 = 1 ∧ ks1.last k1.2.1 = 0 ∧ (if ks1.age = k1.2.1.age then keysH ks1.j.keys else []) = [] := ⟨by kernel_rfl, by kernel_rfl, by kernel_rfl, by kernel_rfl⟩
theorem k2_r : k2.1 = 0 := by kernel_rfl
theorem k2_u : useB k2.2.1 k2.2.2 = true := by kernel_rfl
theorem k3_r : k3.1 = 12 := by kernel_rfl
theorem k3_u : useB k3.2.1 k3.2.2 = true := by kernel_rfl
theorem k4_r : k4.1 = 12 := by kernel_rfl
theorem k4_u : useB k4.2.2.2.1 k4.2.2.2.2 = true := by kernel_rfl
theorem k4_v : k4.2.2.2.2.left k4.2.2.2.1 0 = 2 ∧ k4.2.2.2.2.left k4.2.2.2.1 1 = 2 ∧ k4.2.2.2.1.dur.length = 4 ∧ (k4.2.2.2.1.dur.getD 0 []).take 15 = [0, 0, 0, 1, 0, 0, 0, 0, 5, 5, 0, 0, 0, 0, 0] ∧ (k4.2.2.2.1.dur.getD 1 []).take 18 = [0, 0, 0, 1, 0, 0, 0, 1, 1, 7, 0, 0, 0, 7, 0, 4, 160, 0] := ⟨by kernel_rfl, by kernel_rfl, by kernel_rfl, by kernel_rfl, by kernel_rfl⟩
theorem k5_r : k5.1 = 0 := by kernel_rfl
theorem k5_u : useB k5.2.1 k5.2.2 = true := by kernel_rfl
theorem k5_v : k5.2.2.room k5.2.1 = 0 := by kernel_rfl
theorem k6_r : k6.1 = 11 := by kernel_rfl
theorem k6_s : k6.2.2 = none := by kernel_rfl
theorem k6_d : 0 ≤ k6.2.1.age ∧ k6.2.1.age < 4611686018427380000 := ⟨by decide +kernel, by decide +kernel⟩
theorem k7_r : k7.1 = 0 := by kernel_rfl
theorem k7_s : k7.2.2 = some ks7 := by kernel_rfl
theorem k7_v : (if ks7.age = k7.2.1.age then keysH ks7.j.keys else []) = [(7, [false, false, false, false])] := by kernel_rfl
def m3 : Int × Dk × StM := ka8.2.2.addR ka8.2.1 9 [true, true]
def m4 : Int × List Pc × List Bool × Dk × StM := m3.2.2.takeR m3.2.1 3
def m5 : Int × List Pc × List Bool × Dk × StM := m4.2.2.2.2.takeR m4.2.2.2.1 2
def m6 : Int × Dk × StM := m5.2.2.2.2.compactR m5.2.2.2.1
theorem m3_r : m3.1 = 0 := by kernel_rfl
theorem m3_u : useB m3.2.1 m3.2.2 = true := by kernel_rfl
theorem m3_v : m3.2.2.room m3.2.1 = 1 := by kernel_rfl
theorem m4_r : m4.1 = 12 := by kernel_rfl
theorem m4_u : useB m4.2.2.2.1 m4.2.2.2.2 = true := by kernel_rfl
theorem m5_r : m5.1 = 0 ∧ m5.2.1 = [⟨7, 0, 2⟩] ∧ m5.2.2.1 = [true, false] := ⟨by kernel_rfl, by kernel_rfl, by kernel_rfl⟩
theorem m5_u : useB m5.2.2.2.1 m5.2.2.2.2 = true := by kernel_rfl
theorem m6_r : m6.1 = 0 := by kernel_rfl
theorem m6_u : useB m6.2.1 m6.2.2 = true := by kernel_rfl
theorem m6_v : m6.2.2.room m6.2.1 = 0 := by kernel_rfl
#print axioms m6_v
end Go.Proofs.Ytdgmjedkhjeadaa
/- The contracts of the law functions first and samePieces. Conditions: as each statement says. -/
namespace Go.Proofs.Ytdgmjedkhjeadaa
open Go.RowKit
set_option linter.unusedVariables false
def strB (l : List Nat) : ByteArray := ⟨(l.map fun x => UInt8.ofNat x).toArray⟩
theorem sec_bytes {l : List Nat} (h : ∀ x ∈ l, x < 256) : (l.map fun x : Nat => Value.int .u8 x) = Lib.byteCells (l.map fun x => UInt8.ofNat x) := by
  induction l with
  | nil => rfl
  | cons x l ih =>
    have h1 := ih fun y hy => h y (by simp [hy])
    have h2 := h x (by simp)
    simp only [List.map_cons, Lib.byteCells] at h1 ⊢
    rw [h1]
    congr 2
    simp
    omega
section
variable {w w' : World} {D : Nat} {d : Dk} {bs bm cp : Nat} {p : Option Addr}
set_option maxRecDepth 100000 in
set_option maxHeartbeats 1000000 in
theorem first8_any (h : DkAt w D d bs bm cp p) (i n : Nat) (hi : i < d.dur.length) (hn : n ≤ 64) :
    Calls Try.prog 12 #[.pointer (some ⟨D, 0, none⟩), .int .i64 (i : Int), .int .i64 (n : Int)] w fun e w' => e = .returned (.string (strB ((d.dur.getD i []).take n))) ∧ Below w.heap.size w w' := by
  have HDU := Lib.hid (durable_any h (i : Int))
  have hz : d.durZ (i : Int) = 0 := by unfold Dk.durZ; rw [if_pos (by unfold hasB; simp; exact hi)]
  have hso := h.ok.dur (d.dur.getD i []) (by rw [List.getD_eq_getElem?_getD, List.getElem?_eq_getElem hi]; exact List.getElem_mem hi)
  rw [hz, Int.toNat_natCast] at HDU
  generalize d.dur.getD i [] = s at HDU hso ⊢
  have HSO := Lib.hid hso
  clear h hz hso hi
  go_enter Try.func12, Try.ntmps12
  go_wp2_with fail
  refine HDU.out.mono ?_
  rintro e w1 ⟨h1, _, hb1⟩
  obtain ⟨g, rfl, hg, hgw⟩ := h1 rfl
  have HB1 := Lib.hid hb1
  have hl : (s.take n).length = n := by rw [List.length_take, HSO.out.1]; omega
  have hrd : Rd w1 w1.heap.size 1 (some ⟨g, 0, none⟩) n (Lib.byteCells ((s.take n).map fun x => UInt8.ofNat x)) := by
    rw [← sec_bytes (fun x hx => HSO.out.2 x (List.mem_of_mem_take hx))]
    refine ⟨by rw [List.length_map, hl]; omega, fun _ => ⟨g, 0, rfl, hg.lt, fun j u hu => ?_⟩⟩
    rw [Nat.zero_add, hg.cell, List.getElem?_toArray]
    unfold secC
    have hj := (List.getElem?_eq_some_iff.1 hu).1
    rw [List.length_map, hl] at hj
    rw [List.getElem?_map, List.getElem?_take, if_pos hj] at hu
    rw [List.getElem?_map]
    exact hu
  have hcv := conv_bytes 64 ((s.take n).map fun x => UInt8.ofNat x) hrd
  clear h1 hb1 hg hgw hrd HDU
  go_wp2_with fail
  refine bodyPost_ret (a := Act.mk _ _) (results_tmp rfl _ _ _) rfl ?_
  exact ⟨by unfold strB; rw [List.map_take]; rfl, HB1.out⟩
end
set_option maxRecDepth 100000 in
set_option maxHeartbeats 1000000 in
theorem samePc8_any {w : World} {v v' : Value} (h : PcR w v [⟨7, 0, 2⟩]) (h' : PcR w v' [⟨7, 0, 2⟩]) : Calls Try.prog 16 #[v, v'] w fun e w' => e = .returned (.bool true) ∧ Below w.heap.size w w' := by
  have qe : ∀ w, (binOp BinOp.neq 45 (.agg #[.int .i64 7, .int .i64 0, .int .i64 2]) (.agg #[.int .i64 7, .int .i64 0, .int .i64 2])).run Try.prog w = .ok (.bool false) w := fun w => by kernel_rfl
  obtain ⟨A, c, rfl, h2⟩ := h
  obtain ⟨A', c', rfl, h2'⟩ := h'
  obtain ⟨g, rfl, hg, a0, a1, a2⟩ := h2 0 _ rfl
  obtain ⟨g', rfl, hg', b0, b1, b2⟩ := h2' 0 _ rfl
  have HA : Hid (∀ W, Below w.heap.size w W → W.cell? ⟨g, 0, none⟩ = some (.int .i64 7) ∧ W.cell? ⟨g, 1, none⟩ = some (.int .i64 0) ∧ W.cell? ⟨g, 2, none⟩ = some (.int .i64 2) ∧ W.cell? ⟨g', 0, none⟩ = some (.int .i64 7) ∧ W.cell? ⟨g', 1, none⟩ = some (.int .i64 0) ∧ W.cell? ⟨g', 2, none⟩ = some (.int .i64 2)) := Lib.hid fun W hW =>
    ⟨(hW.cell (p := ⟨g, 0, none⟩) hg).trans a0, (hW.cell (p := ⟨g, 1, none⟩) hg).trans a1, (hW.cell (p := ⟨g, 2, none⟩) hg).trans a2, (hW.cell (p := ⟨g', 0, none⟩) hg').trans b0, (hW.cell (p := ⟨g', 1, none⟩) hg').trans b1, (hW.cell (p := ⟨g', 2, none⟩) hg').trans b2⟩
  clear h2 h2' a0 a1 a2 b0 b1 b2 hg hg'
  go_enter Try.func16, Try.ntmps16
  go_wp2_with fail
  go_loopw [5] (fun v5 wr => ∃ i : Nat, i ≤ 1 ∧ v5 = .int .i64 i ∧ Below w.heap.size w wr) (fun v5 _ => 1 - (intOf v5).toNat)
  case atStart => exact ⟨0, by omega, rfl, Below.refl _ _⟩
  case round =>
    obtain ⟨i, hi, rfl, hb⟩ := hrel
    obtain ⟨wa, rfl⟩ : ∃ z : World, z = wr := ⟨_, rfl⟩
    have HB := Lib.hid hb
    obtain ⟨a0, a1, a2, b0, b1, b2⟩ := HA.out wa hb
    clear hb
    rcases (show i = 0 ∨ i = 1 by omega) with rfl | rfl
    · go_upto_region 6 with fail
      go_quiet (fail)
      go_wp2_with fail
      go_roundw
      case rel => exact ⟨1, by omega, rfl, HB.out.trans (Qw.below ⟨_, rfl⟩ _)⟩
      case measure => simp [intOf]
    · go_wp2_with fail
      go_ret
      exact ⟨rfl, HB.out⟩
#print axioms first8_any
end Go.Proofs.Ytdgmjedkhjeadaa
