/- The bits of pieces. Conditions: as the statement says. -/
import Derived.Test.YtdgmjedkhjeadaaGreatClm8
import Derived.Test.YtdgmjedkhjeadaaGreatApp
import Derived.OrdersHeld
import Derived.Deep.RegionHeld3
import Derived.Test.YtdgmjedkhjeadaaGreatRcs8
import Derived.Test.YtdgmjedkhjeadaaGreatRangeQ
import Derived.Deep.CutBlock
import Derived.Test.YtdgmjedkhjeadaaGreatTick3
import Derived.Test.YtdgmjedkhjeadaaGreatKeepL
import Derived.Test.YtdgmjedkhjeadaaGreatRkN
import Derived.Test.YtdgmjedkhjeadaaGreatOpen
namespace Go.Proofs.YtdgmjedkhjeadaaGreat
open List (setIfInBounds_toArray set_cons_zero set_cons_succ)
open Go.RowKit
set_option linter.unusedVariables false
attribute [local go_sem] Oper.semAt_some
def bitsP (keys : List Ky) (p : Pc) : List Bool :=
  match findK keys p.id with
  | some i => (match keys[i]? with | some k => (k.bits.drop p.f).take (p.t - p.f) | none => [])
  | none => []
def bitsL (keys : List Ky) (ps : List Pc) : List Bool := ps.flatMap (bitsP keys)
theorem bitsL_take (keys : List Ky) (ps : List Pc) (i : Nat) : (bitsL keys (ps.take i)).length ≤ (bitsL keys ps).length := by
  have h : bitsL keys ps = bitsL keys (ps.take i) ++ bitsL keys (ps.drop i) := by
    unfold bitsL
    rw [← List.flatMap_append, List.take_append_drop]
  rw [h, List.length_append]; omega
theorem bitsL_succ (keys : List Ky) {ps : List Pc} {i : Nat} {p : Pc} (h : ps[i]? = some p) : bitsL keys (ps.take (i + 1)) = bitsL keys (ps.take i) ++ bitsP keys p := by
  unfold bitsL
  rw [List.take_add_one, h, List.flatMap_append]; simp
theorem grown_cell8 {w w' : World} {B : Nat} {t t' : TypeId} {sz n g : Nat} {v : Value} {xs : List Value} {cs : Array Value} (ho : w.ownsRow B t sz v n xs) (hg : w.grownBy w' v.ownBlock) (hb : Bk w g cs t') (ht : t ≠ t') : Bk w' g cs t' := by
  refine (hg.block g hb.lt (fun e => ?_)).trans hb
  rcases ho.2 with ⟨rfl, _⟩ | ⟨g0, cap, cur, rfl, _, hh, _⟩
  · cases e
  · obtain rfl : g = g0 := by simpa [Value.ownBlock] using e
    unfold Bk at hb
    rw [hh] at hb
    injection hb with hb
    injection hb with _ h2
    exact ht h2
def SB8 (S T kg q kn kc : Nat) (x : KB) (bn g : Nat) (p : Pc) (W : World) : Prop :=
  W.cell? ⟨S, 4, none⟩ = some (.pointer (some ⟨T, 0, none⟩)) ∧ W.cell? ⟨T, 0, none⟩ = some (.slice (some ⟨kg, 0, none⟩) kn kc) ∧ W.cell? ⟨kg, q, none⟩ = some (.pointer (some ⟨x.kb, 0, none⟩)) ∧ W.cell? ⟨x.kb, 1, none⟩ = some (.slice (some ⟨x.bb, 0, none⟩) bn x.cb) ∧ W.cell? ⟨g, 0, none⟩ = some (.int .i64 (p.id : Int)) ∧ W.cell? ⟨g, 1, none⟩ = some (.int .i64 (p.f : Int)) ∧ W.cell? ⟨g, 2, none⟩ = some (.int .i64 (p.t : Int))
set_option maxRecDepth 100000 in
set_option maxHeartbeats 2000000 in
theorem bits_any {w : World} {S D : Nat} {s : StM} {T : Nat} {kv : Value} {xs : List KB} {tb : Option Addr} {tc : Nat} {v : Value} {ps : List Pc} (hst : StAt w S D s T kv xs tb tc) (hp : PcR w v ps) (hl : ps.length ≤ 100000) (hn : (bitsL s.j.keys ps).length ≤ 1000000)
    (hgood : ∀ p ∈ ps, ∃ q k, findK s.j.keys p.id = some q ∧ s.j.keys[q]? = some k ∧ p.f ≤ p.t ∧ p.t ≤ k.bits.length) :
    Calls Tryz.prog 80 #[.pointer (some ⟨S, 0, none⟩), v] w fun e w' => ∃ v', e = .returned v' ∧ w'.ownsRow w.heap.size 4 1 v' (bitsL s.j.keys ps).length ((bitsL s.j.keys ps).map Value.bool) ∧ Below w.heap.size w w' := by
  obtain ⟨i0, hi0, hz0, hz1, hz2⟩ := info_parts (by kernel_rfl : (Tryz.prog.info? 4).map (fun i => (i.zero, i.size, i.bytes)) = some (some (.bool false), 1, 1))
  have HI0 := Lib.hid hi0; have HZ0 := Lib.hid hz0; have HZ1 := Lib.hid hz1; have HZ2 := Lib.hid hz2
  have HST := Lib.hid hst; have HGD := Lib.hid hgood; have HN := Lib.hid hn
  obtain ⟨A, c, rfl, hc⟩ := hp
  have HC := Lib.hid hc
  clear hc hst hgood hi0 hz0 hz1 hz2 hn
  go_enter Tryz.func80, Tryz.ntmps80
  go_wp2_with fail
  go_loopw [5, 10] (fun u j wr => ∃ i : Nat, i ≤ ps.length ∧ j = .int .i64 i ∧ wr.ownsRow w.heap.size 4 1 u (bitsL s.j.keys (ps.take i)).length ((bitsL s.j.keys (ps.take i)).map Value.bool) ∧ Below w.heap.size w wr) (fun _ j _ => ps.length - (intOf j).toNat)
  case atStart => exact ⟨0, Nat.zero_le _, rfl, World.ownsRow_nil _ _ _ _, Below.refl _ _⟩
  case round =>
    obtain ⟨i, hi, rfl, ho, hb⟩ := hrel
    obtain ⟨wi, rfl⟩ : ∃ z : World, z = wr := ⟨_, rfl⟩
    have HO := Lib.hid ho; have HB := Lib.hid hb
    clear ho hb
    by_cases hlt : i < ps.length
    · have hki : (i : Int) < (ps.length : Int) := by omega
      obtain ⟨p, hp⟩ : ∃ p, ps[i]? = some p := ⟨_, List.getElem?_eq_getElem hlt⟩
      obtain ⟨b, hA, hbl, h0, h1, h2⟩ := HC.out i p hp
      have HTK := Lib.hid (bitsL_succ s.j.keys hp)
      obtain ⟨q, k, hfq, hkq, hft, htb⟩ := HGD.out p (List.mem_of_getElem? hp)
      have HPB : Hid (bitsP s.j.keys p = (k.bits.drop p.f).take (p.t - p.f)) := Lib.hid (by unfold bitsP; rw [hfq]; dsimp only; rw [hkq])
      subst hA
      have c0 : wi.cell? ⟨b, i * 3, none⟩ = some (.int .i64 (p.id : Int)) := (HB.out.cell (p := ⟨b, i * 3, none⟩) hbl).trans h0
      have c1 : wi.cell? ⟨b, i * 3 + 1, none⟩ = some (.int .i64 (p.f : Int)) := (HB.out.cell (p := ⟨b, i * 3 + 1, none⟩) hbl).trans h1
      have c2 : wi.cell? ⟨b, i * 3 + 2, none⟩ = some (.int .i64 (p.t : Int)) := (HB.out.cell (p := ⟨b, i * 3 + 2, none⟩) hbl).trans h2
      have hqn : q < s.j.keys.length := (List.getElem?_eq_some_iff.1 hkq).1
      obtain ⟨kg, kc, x, k', hkv, hcap, hx, hkk, ci, hat⟩ := HST.out.js.ptr hqn
      obtain rfl : k' = k := by rw [hkq] at hkk; exact (Option.some.inj hkk).symm
      have hbig : k'.bits.length ≤ 1000 := by have := hat.big; have := hat.len; omega
      have hcb := hat.capb
      obtain ⟨n0, hn0⟩ : ∃ n, n = (bitsL s.j.keys (ps.take i)).length := ⟨_, rfl⟩
      have hnle : n0 ≤ 1000000 := by rw [hn0]; exact Nat.le_trans (bitsL_take _ _ _) HN.out
      have HO1 : Hid (wi.ownsRow w.heap.size 4 1 u5 n0 ((bitsL s.j.keys (ps.take i)).map Value.bool)) := Lib.hid (by rw [hn0]; exact HO.out)
      have HN0 := Lib.hid hn0
      have HFX : Hid (fidx s.j.keys p.id = (q : Int)) := Lib.hid (by unfold fidx; rw [hfq])
      have HAT := Lib.hid hat; have HKV := Lib.hid hkv; have HCI := Lib.hid ci
      clear h0 h1 h2 hp hfq hkq hkk hx hn0 hat hkv ci HO hcap
      go_upto_region 5 with fail
      obtain ⟨w2, hw2⟩ : ∃ z, z = wi.alloc (.cells #[.int .i64 (p.id : Int), .int .i64 (p.f : Int), .int .i64 (p.t : Int)] 82) := ⟨_, rfl⟩
      have hb2 : Below wi.heap.size wi w2 := by rw [hw2]; exact balloc _ _
      have hg2 : Bk w2 wi.heap.size #[.int .i64 (p.id : Int), .int .i64 (p.f : Int), .int .i64 (p.t : Int)] 82 := by rw [hw2]; exact Bk.new _ _ _
      rw [← hw2]
      obtain ⟨g, hg⟩ : ∃ g, g = wi.heap.size := ⟨_, rfl⟩
      rw [← hg] at hg2 ⊢
      have HO2 := Lib.hid (ownsRow_past8 HO1.out hb2)
      have HB2 := Lib.hid (bnextK HB.out hb2)
      have HG2 := Lib.hid hg2
      obtain ⟨kn, hkn⟩ : ∃ n, n = s.j.keys.length := ⟨_, rfl⟩
      obtain ⟨bn, hbn⟩ : ∃ n, n = k'.bits.length := ⟨_, rfl⟩
      have HSB : Hid (∀ W : World, Below w.heap.size w W → Bk W g #[.int .i64 (p.id : Int), .int .i64 (p.f : Int), .int .i64 (p.t : Int)] 82 → SB8 S T kg q kn kc x bn g p W) := Lib.hid fun W hbw hgw => by
        have t0 := (HST.out.js.blk.past hbw HST.out.js.blk.lt).cell 0
        rw [HKV.out] at t0
        have k1 := (HAT.out.blk.past hbw HAT.out.blk.lt).cell 1
        refine ⟨(HST.out.blk.past hbw HST.out.blk.lt).cell 4, by rw [hkn]; exact t0, (hbw.cell (p := ⟨kg, q, none⟩) (lt_cell HCI.out)).trans HCI.out, by rw [hbn]; exact k1, hgw.cell 0, hgw.cell 1, hgw.cell 2⟩
      have HRD : Hid (∀ W : World, Below w.heap.size w W → Rd W W.heap.size 1 (if x.cb = p.f then some ⟨x.bb, 0, none⟩ else some ⟨x.bb, p.f, none⟩) (p.t - p.f) ((bitsP s.j.keys p).map Value.bool)) := Lib.hid fun W hbw => by
        obtain ⟨su, hsu⟩ := HAT.out.bits
        have h := hsu.past hbw hsu.lt
        refine ⟨by rw [List.length_map, HPB.out, List.length_take, List.length_drop]; omega, fun h0 => ⟨x.bb, p.f, by rw [if_neg (by omega)], h.lt, fun j u hu => ?_⟩⟩
        rw [HPB.out, List.getElem?_map] at hu
        rw [h.cell, List.getElem?_toArray]
        cases hz : ((k'.bits.drop p.f).take (p.t - p.f))[j]? with
        | none => rw [hz] at hu; cases hu
        | some z =>
          rw [hz] at hu
          rw [List.getElem?_take] at hz
          split at hz
          · rw [List.getElem?_drop] at hz
            rw [List.getElem?_append_left (by have := (List.getElem?_eq_some_iff.1 hz).1; simpa using this), List.getElem?_map, hz]
            exact hu
          · cases hz
      have HS2 := Lib.hid (HSB.out w2.drew (HB2.out.trans (below_drew8 _ _)) (HG2.out.past (below_drew8 _ _) HG2.out.lt))
      have HFD := Lib.hid (find_any (HST.out.js.far (HB2.out.trans (below_drew8 _ _))) p.id)
      have hfd := HFD.out
      rw [HFX.out] at hfd
      have HFE := Lib.hid hfd
      have hqi : (q : Int) < (kn : Int) := by omega
      have hfti : (p.f : Int) ≤ (p.t : Int) := by omega
      have htbi : (p.t : Int) ≤ (x.cb : Int) := by omega
      have HWS : Hid (w.heap.size ≤ w2.heap.size) := Lib.hid HB2.out.size
      clear hw2 hb2 hg2 hfd HFD c0 c1 c2 hg hkn hbn
-- <REGION bits
      refine wp_region_held_drew (S := (fun W => W.cell? ⟨S, 4, none⟩ = some (.pointer (some ⟨T, 0, none⟩)) ∧ W.cell? ⟨T, 0, none⟩ = some (.slice (some ⟨kg, 0, none⟩) kn kc) ∧ W.cell? ⟨kg, q, none⟩ = some (.pointer (some ⟨x.kb, 0, none⟩)) ∧ W.cell? ⟨x.kb, 1, none⟩ = some (.slice (some ⟨x.bb, 0, none⟩) bn x.cb) ∧ W.cell? ⟨g, 0, none⟩ = some (.int .i64 (p.id : Int)) ∧ W.cell? ⟨g, 1, none⟩ = some (.int .i64 (p.f : Int)) ∧ W.cell? ⟨g, 2, none⟩ = some (.int .i64 (p.t : Int)))) (by kernel_rfl) ?_ (fun hHeld => ?_)
      · (try dsimp only); first | exact HS2.out | exact HS4.out | exact HS5.out
      refine wpAnyH_take (i := 0) (oi := ⟨some 14, _, _, _, _, _⟩) (v := ?_) rfl (by kernel_rfl) (by kernel_rfl) (by kernel_rfl) (fun _ _ _ h => h) (Or.inl ⟨by rfl, ?_⟩) (by assumption) ?_; rotate_left
      · intro w hSw; (try dsimp only at hSw); go_simp; try with_reducible rfl
      try simp only [Act.put, setIfInBounds_toArray, set_cons_zero, set_cons_succ]
      refine wpAnyH_take (i := 1) (oi := ⟨some 15, _, _, _, _, _⟩) (v := ?_) rfl (by kernel_rfl) (by kernel_rfl) (by kernel_rfl) (fun _ _ _ h => h) (Or.inl ⟨by rfl, ?_⟩) (by assumption) ?_; rotate_left
      · intro w hSw; (try dsimp only at hSw); go_simp; try with_reducible rfl
      try simp only [Act.put, setIfInBounds_toArray, set_cons_zero, set_cons_succ]
      refine wpAnyH_take (i := 2) (oi := ⟨some 16, _, _, _, _, _⟩) (v := ?_) rfl (by kernel_rfl) (by kernel_rfl) (by kernel_rfl) (fun _ _ _ h => h) (Or.inl ⟨by rfl, ?_⟩) (by assumption) ?_; rotate_left
      · intro w hSw; (try dsimp only at hSw); go_simp; try with_reducible rfl
      try simp only [Act.put, setIfInBounds_toArray, set_cons_zero, set_cons_succ]
      refine wpAnyH_take (i := 3) (oi := ⟨some 17, _, _, _, _, _⟩) (v := ?_) rfl (by kernel_rfl) (by kernel_rfl) (by kernel_rfl) (fun _ _ _ h => h) (Or.inl ⟨by rfl, ?_⟩) (by assumption) ?_; rotate_left
      · intro w hSw; (try dsimp only at hSw); go_simp; try with_reducible rfl
      try simp only [Act.put, setIfInBounds_toArray, set_cons_zero, set_cons_succ]
      refine wpAnyH_take (i := 4) (oi := ⟨some 18, _, _, _, _, _⟩) (v := ?_) rfl (by kernel_rfl) (by kernel_rfl) (by kernel_rfl) (fun _ _ _ h => h) (Or.inl ⟨by rfl, ?_⟩) (by assumption) ?_; rotate_left
      · intro w hSw; (try dsimp only at hSw); go_simp; try with_reducible rfl
      try simp only [Act.put, setIfInBounds_toArray, set_cons_zero, set_cons_succ]
      refine wpAnyH_take (i := 5) (oi := ⟨some 19, _, _, _, _, _⟩) (v := ?_) rfl (by kernel_rfl) (by kernel_rfl) (by kernel_rfl) (fun _ _ _ h => h) (Or.inl ⟨by rfl, ?_⟩) (by assumption) ?_; rotate_left
      · intro w hSw; (try dsimp only at hSw); go_simp; try with_reducible rfl
      try simp only [Act.put, setIfInBounds_toArray, set_cons_zero, set_cons_succ]
      refine wpAnyH_take (i := 6) (oi := ⟨some 20, _, _, _, _, _⟩) (v := ?_) rfl (by kernel_rfl) (by kernel_rfl) (by kernel_rfl) (fun _ _ _ h => h) (Or.inl ⟨by rfl, ?_⟩) (by assumption) ?_; rotate_left
      · intro w hSw; (try dsimp only at hSw); go_simp; try with_reducible rfl
      try simp only [Act.put, setIfInBounds_toArray, set_cons_zero, set_cons_succ]
      refine wpAnyH_take (i := 7) (oi := ⟨some 21, _, _, _, _, _⟩) (v := ?_) rfl (by kernel_rfl) (by kernel_rfl) (by kernel_rfl) (fun _ _ _ h => h) (Or.inl ⟨by rfl, ?_⟩) (by assumption) ?_; rotate_left
      · intro w hSw; (try dsimp only at hSw); go_simp; try with_reducible rfl
      try simp only [Act.put, setIfInBounds_toArray, set_cons_zero, set_cons_succ]
      refine wpAnyH_take (i := 8) (oi := ⟨some 22, _, _, _, _, _⟩) (v := ?_) rfl (by kernel_rfl) (by kernel_rfl) (by kernel_rfl) (fun _ _ _ h => h) (Or.inl ⟨by rfl, ?_⟩) (by assumption) ?_; rotate_left
      · intro w hSw; (try dsimp only at hSw); go_simp; try with_reducible rfl
      try simp only [Act.put, setIfInBounds_toArray, set_cons_zero, set_cons_succ]
      refine wpAnyH_take (i := 9) (oi := ⟨some 23, _, _, _, _, _⟩) (v := ?_) rfl (by kernel_rfl) (by kernel_rfl) (by kernel_rfl) (fun _ _ _ h => h) (Or.inl ⟨by rfl, ?_⟩) (by assumption) ?_; rotate_left
      · intro w hSw; (try dsimp only at hSw); go_simp; try with_reducible rfl
      try simp only [Act.put, setIfInBounds_toArray, set_cons_zero, set_cons_succ]
      refine wpAnyH_take (i := 10) (oi := ⟨some 24, _, _, _, _, _⟩) (v := ?_) rfl (by kernel_rfl) (by kernel_rfl) (by kernel_rfl) (fun _ _ _ h => h) (Or.inl ⟨by rfl, ?_⟩) (by assumption) ?_; rotate_left
      · intro w hSw; (try dsimp only at hSw); go_simp; try with_reducible rfl
      try simp only [Act.put, setIfInBounds_toArray, set_cons_zero, set_cons_succ]
      refine wpAnyH_take (i := 11) (oi := ⟨some 25, _, _, _, _, _⟩) (v := ?_) rfl (by kernel_rfl) (by kernel_rfl) (by kernel_rfl) (fun _ _ _ h => h) (Or.inl ⟨by rfl, ?_⟩) (by assumption) ?_; rotate_left
      · intro w hSw; (try dsimp only at hSw); go_simp; try with_reducible rfl
      try simp only [Act.put, setIfInBounds_toArray, set_cons_zero, set_cons_succ]
      refine wpAnyH_take (i := 12) (oi := ⟨some 26, _, _, _, _, _⟩) (v := ?_) rfl (by kernel_rfl) (by kernel_rfl) (by kernel_rfl) (fun _ _ _ h => h) (Or.inl ⟨by rfl, ?_⟩) (by assumption) ?_; rotate_left
      · intro w hSw; (try dsimp only at hSw); go_simp; try with_reducible rfl
      try simp only [Act.put, setIfInBounds_toArray, set_cons_zero, set_cons_succ]
      refine wpAnyH_take (i := 13) (oi := ⟨some 27, _, _, _, _, _⟩) (v := ?_) rfl (by kernel_rfl) (by kernel_rfl) (by kernel_rfl) (fun _ _ _ h => h) (Or.inl ⟨by rfl, ?_⟩) (by assumption) ?_; rotate_left
      · intro w hSw; (try dsimp only at hSw); go_simp; try with_reducible rfl
      try simp only [Act.put, setIfInBounds_toArray, set_cons_zero, set_cons_succ]
      refine wpAnyH_take (i := 20) (oi := ⟨some 34, _, _, _, _, _⟩) (v := ?_) rfl (by kernel_rfl) (by kernel_rfl) (by kernel_rfl) (fun _ _ _ h => h) (Or.inl ⟨by rfl, ?_⟩) (by assumption) ?_; rotate_left
      · intro w hSw; (try dsimp only at hSw); go_simp; try with_reducible rfl
      try simp only [Act.put, setIfInBounds_toArray, set_cons_zero, set_cons_succ]
      refine wpAnyH_take (i := 21) (oi := ⟨some 35, _, _, _, _, _⟩) (v := ?_) rfl (by kernel_rfl) (by kernel_rfl) (by kernel_rfl) (fun _ _ _ h => h) (Or.inl ⟨by rfl, ?_⟩) (by assumption) ?_; rotate_left
      · intro w hSw; (try dsimp only at hSw); go_simp; try with_reducible rfl
      try simp only [Act.put, setIfInBounds_toArray, set_cons_zero, set_cons_succ]
      refine wpAnyH_take (i := 22) (oi := ⟨some 36, _, _, _, _, _⟩) (v := ?_) rfl (by kernel_rfl) (by kernel_rfl) (by kernel_rfl) (fun _ _ _ h => h) (Or.inl ⟨by rfl, ?_⟩) (by assumption) ?_; rotate_left
      · intro w hSw; (try dsimp only at hSw); go_simp; try with_reducible rfl
      try simp only [Act.put, setIfInBounds_toArray, set_cons_zero, set_cons_succ]
      refine wpAnyH_take (i := 23) (oi := ⟨some 37, _, _, _, _, _⟩) (v := ?_) rfl (by kernel_rfl) (by kernel_rfl) (by kernel_rfl) (fun _ _ _ h => h) (Or.inl ⟨by rfl, ?_⟩) (by assumption) ?_; rotate_left
      · intro w hSw; (try dsimp only at hSw); go_simp; try with_reducible rfl
      try simp only [Act.put, setIfInBounds_toArray, set_cons_zero, set_cons_succ]
      refine wpAnyH_ready (rs := [14]) (by kernel_rfl) (by simp) ?_
      refine AllReadyH.cons (o := ⟨some 28, _, _, _, _, _⟩) rfl (fun K hK => ?_) AllReadyH.nil
      go_simp
      refine HFE.out.mono ?_
      rintro e' w4 ⟨rfl, hb4⟩
      have HBD := Lib.hid ((below_drew8 w2 w2.heap.size).trans (hb4.mono (Nat.le_refl _)))
      have HB4 := Lib.hid (HB2.out.trans (HBD.out.mono HWS.out))
      have HG4 := Lib.hid (HG2.out.past HBD.out HG2.out.lt)
      have HS4 := Lib.hid (HSB.out w4 HB4.out HG4.out)
      have HO4 := Lib.hid (ownsRow_past8 HO2.out HBD.out)
      have hs4 : w.heap.size ≤ w4.heap.size := HB4.out.size
      have hrd := HRD.out w4 HB4.out
      clear hb4
      go_wp2_with fail
      refine hK.out _ _ ?_ (fun hHeld => ?_)
      · (try dsimp only); first | exact HS2.out | exact HS4.out | exact HS5.out
      clear hK K
      try simp only [Act.put, setIfInBounds_toArray, set_cons_zero, set_cons_succ]
      refine wpAnyH_take (i := 15) (oi := ⟨some 29, _, _, _, _, _⟩) (v := ?_) rfl (by kernel_rfl) (by kernel_rfl) (by kernel_rfl) (fun _ _ _ h => h) (Or.inl ⟨by rfl, ?_⟩) (by assumption) ?_; rotate_left
      · intro w hSw; (try dsimp only at hSw); go_simp; try with_reducible rfl
      try simp only [Act.put, setIfInBounds_toArray, set_cons_zero, set_cons_succ]
      refine wpAnyH_take (i := 16) (oi := ⟨some 30, _, _, _, _, _⟩) (v := ?_) rfl (by kernel_rfl) (by kernel_rfl) (by kernel_rfl) (fun _ _ _ h => h) (Or.inl ⟨by rfl, ?_⟩) (by assumption) ?_; rotate_left
      · intro w hSw; (try dsimp only at hSw); go_simp; try with_reducible rfl
      try simp only [Act.put, setIfInBounds_toArray, set_cons_zero, set_cons_succ]
      refine wpAnyH_take (i := 17) (oi := ⟨some 31, _, _, _, _, _⟩) (v := ?_) rfl (by kernel_rfl) (by kernel_rfl) (by kernel_rfl) (fun _ _ _ h => h) (Or.inl ⟨by rfl, ?_⟩) (by assumption) ?_; rotate_left
      · intro w hSw; (try dsimp only at hSw); go_simp; try with_reducible rfl
      try simp only [Act.put, setIfInBounds_toArray, set_cons_zero, set_cons_succ]
      refine wpAnyH_take (i := 18) (oi := ⟨some 32, _, _, _, _, _⟩) (v := ?_) rfl (by kernel_rfl) (by kernel_rfl) (by kernel_rfl) (fun _ _ _ h => h) (Or.inl ⟨by rfl, ?_⟩) (by assumption) ?_; rotate_left
      · intro w hSw; (try dsimp only at hSw); go_simp; try with_reducible rfl
      try simp only [Act.put, setIfInBounds_toArray, set_cons_zero, set_cons_succ]
      refine wpAnyH_take (i := 19) (oi := ⟨some 33, _, _, _, _, _⟩) (v := ?_) rfl (by kernel_rfl) (by kernel_rfl) (by kernel_rfl) (fun _ _ _ h => h) (Or.inl ⟨by rfl, ?_⟩) (by assumption) ?_; rotate_left
      · intro w hSw; (try dsimp only at hSw); go_simp; try with_reducible rfl
      try simp only [Act.put, setIfInBounds_toArray, set_cons_zero, set_cons_succ]
      refine wpAnyH_take (i := 24) (oi := ⟨some 38, _, _, _, _, _⟩) (v := ?_) rfl (by kernel_rfl) (by kernel_rfl) (by kernel_rfl) (fun _ _ _ h => h) (Or.inl ⟨by rfl, ?_⟩) (by assumption) ?_; rotate_left
      · intro w hSw; (try dsimp only at hSw); go_simp; try with_reducible rfl
      try simp only [Act.put, setIfInBounds_toArray, set_cons_zero, set_cons_succ]
      refine wpAnyH_ready (rs := [25]) (by kernel_rfl) (by simp) ?_
      refine AllReadyH.cons (o := ⟨some 39, _, _, _, _, _⟩) rfl (fun K hK => ?_) AllReadyH.nil
      refine step_append_rd _ rfl (.tmp 14) (.tmp 38) _ (by rfl) w.heap.size 4 i0 _ 1 1 Tryz.underlying48 HI0.out HZ0.out HZ1.out HZ2.out rfl (by decide) _ n0 _ (by rfl) HO4.out _ _ (p.t - p.f) _ _ (by rfl) hrd (by intro u hu; obtain ⟨_, _, rfl⟩ := List.mem_map.1 hu; rfl) (by unfold maxLen; omega) (by omega) hs4 ?_
      intro v' w5 ho5 hg5
      have HO5 := Lib.hid ho5
      have HB5 := Lib.hid (HB4.out.grown hg5 hs4 (fun j hj => (HO4.out.lt j hj).1))
      have HS5 := Lib.hid (HSB.out w5 HB5.out (grown_cell8 HO4.out hg5 HG4.out (by decide)))
      clear ho5 hg5
      refine hK.out _ _ ?_ (fun hHeld => ?_)
      · (try dsimp only); first | exact HS2.out | exact HS4.out | exact HS5.out
      clear hK K
      try simp only [Act.put, setIfInBounds_toArray, set_cons_zero, set_cons_succ]
      refine wpAnyH_take (i := 26) (oi := ⟨some 5, _, _, _, _, _⟩) (v := ?_) rfl (by kernel_rfl) (by kernel_rfl) (by kernel_rfl) (fun _ _ _ h => h) (Or.inl ⟨by rfl, ?_⟩) (by assumption) ?_; rotate_left
      · intro w hSw; (try dsimp only at hSw); go_simp; try with_reducible rfl
      try simp only [Act.put, setIfInBounds_toArray, set_cons_zero, set_cons_succ]
      refine wpAnyH_done (by kernel_rfl) ?_ _
      go_wp2_with fail
      go_roundw
      case rel => exact ⟨i + 1, by omega, by go_num, by rw [HTK.out, List.map_append, List.length_append, ← HN0.out, show (bitsP s.j.keys p).length = p.t - p.f from by rw [HPB.out, List.length_take, List.length_drop]; omega]; exact HO5.out, HB5.out⟩
      case measure => simp [intOf]; omega
-- REGION>
    · have hki : ¬ (i : Int) < (ps.length : Int) := by omega
      obtain rfl : i = ps.length := by omega
      go_wp2_with fail
      go_ret
      have h := HO.out
      rw [List.take_of_length_le (Nat.le_refl _)] at h
      exact ⟨_, rfl, h, HB.out⟩
end Go.Proofs.YtdgmjedkhjeadaaGreat
namespace Go.Proofs.YtdgmjedkhjeadaaGreat
open List (setIfInBounds_toArray set_cons_zero set_cons_succ)
set_option linter.unusedVariables false
/-- A state is as a store may have it. -/
structure JnW (j : Jn) : Prop where
  inc : j.keys.Pairwise (fun a b => a.id < b.id)
  key : ∀ k ∈ j.keys, 1 ≤ k.id ∧ k.id ≤ j.last ∧ k.bits.length = k.used.length ∧ 1 ≤ k.used.length ∧ k.used.length ≤ 512
  last : j.last ≤ 2147483647
  tail : j.tail.kind = 1 → 320 < j.tail.a → j.tail.id = j.last ∧ 1 ≤ j.last ∧ (∀ k ∈ j.keys, k.id < j.last) ∧ j.tail.a ≤ 512
theorem unpB_length {b : List Nat} {n : Nat} {l : List Bool} (h : unpB b n = some l) : l.length = n := by
  unfold unpB at h
  split at h
  · injection h with h; subst h; exact unL_len _ _
  · cases h
theorem JnW.zero (p : Nat) : JnW (Jn.zero p) := ⟨by simp [Jn.zero], by simp [Jn.zero], by simp [Jn.zero], fun h => by simp [Jn.zero, rc0] at h⟩
/-- A key is added. -/
theorem JnW.snoc {ks : List Ky} {k : Ky} (h : ks.Pairwise (fun a b => a.id < b.id)) (hk : ∀ x ∈ ks, x.id < k.id) : (ks ++ [k]).Pairwise (fun a b => a.id < b.id) := by
  rw [List.pairwise_append]
  refine ⟨h, by simp, fun a ha b hb => ?_⟩
  rw [List.mem_singleton] at hb
  subst hb
  exact hk a ha
theorem markU_len8 (u : List Bool) (a b : Nat) (h1 : a ≤ b) (h2 : b ≤ u.length) : (markU u a b).length = u.length := by
  unfold markU
  simp only [List.length_append, List.length_take, List.length_replicate, List.length_drop]
  omega
theorem getD_some {α : Type} {l : List α} {i : Nat} {x z : α} (h : l[i]? = some x) : l.getD i z = x := by
  rw [List.getD_eq_getElem?_getD, h]; rfl
theorem JnW.follow {j j' : Jn} {r : Rc} (h : JnW j) (hr : RcG r) (hf : j.follow r = some j') : JnW j' := by
  obtain ⟨j1, h1, rfl⟩ := follow_some hf
  obtain ⟨hi, hk, hl, ht⟩ := h
  have e2 := hr.id
  unfold Jn.step at h1
  rcases hr.form with ⟨e, g1, g2, g3, _⟩ | ⟨e, g1, g2, _⟩ | ⟨e, g1, _⟩ | ⟨e, g1, _⟩ | ⟨e, g1, _⟩
  · rw [if_pos e] at h1
    split at h1
    · cases h1
    · rename_i hid
      split at h1
      · injection h1 with h1; subst h1
        exact ⟨hi, fun k hk2 => by have := hk k hk2; exact ⟨this.1, by show k.id ≤ r.id; omega, this.2.2⟩, hr.id, fun _ _ => ⟨rfl, g1, fun k hk2 => by have := hk k hk2; show k.id < r.id; omega, g3⟩⟩
      · rename_i ha
        unfold Jn.add at h1
        rw [Option.map_eq_some_iff] at h1
        obtain ⟨bits, hb, rfl⟩ := h1
        have hbl := unpB_length hb
        refine ⟨JnW.snoc hi fun x hx => ?_, fun k hk2 => ?_, hr.id, fun _ h2 => absurd h2 ha⟩
        · have := hk x hx; show x.id < r.id; omega
        · rcases List.mem_append.1 hk2 with hk2 | hk2
          · have := hk k hk2; exact ⟨this.1, by show k.id ≤ r.id; omega, this.2.2⟩
          · rw [List.mem_singleton] at hk2
            subst hk2
            exact ⟨g1, Nat.le_refl _, by dsimp only; rw [hbl, List.length_replicate], by dsimp only; rw [List.length_replicate]; omega, by dsimp only; rw [List.length_replicate]; omega⟩
  · rw [if_neg (by omega), if_pos e] at h1
    split at h1
    · rename_i hc
      obtain ⟨t1, t2, t3, t4⟩ := ht hc.1 hc.2
      unfold Jn.add at h1
      rw [Option.map_eq_some_iff] at h1
      obtain ⟨bits, hb, rfl⟩ := h1
      have hbl := unpB_length hb
      refine ⟨JnW.snoc hi fun x hx => ?_, fun k hk2 => ?_, hl, fun h2 => by dsimp only at h2; omega⟩
      · have := t3 x hx; show x.id < j.tail.id; omega
      · rcases List.mem_append.1 hk2 with hk2 | hk2
        · exact hk k hk2
        · rw [List.mem_singleton] at hk2
          subst hk2
          exact ⟨by dsimp only; omega, by dsimp only; omega, by dsimp only; rw [hbl, List.length_replicate], by dsimp only; rw [List.length_replicate]; omega, by dsimp only; rw [List.length_replicate]; omega⟩
    · cases h1
  · rw [if_neg (by omega), if_neg (by omega), if_pos e] at h1
    split at h1
    · cases h1
    · rename_i i hi2
      obtain ⟨k0, hk0, hid0, hlt⟩ := findK_get hi2
      dsimp only at h1
      rw [getD_some hk0] at h1
      split at h1
      · cases h1
      · rename_i hc
        injection h1 with h1; subst h1
        have hm := hk k0 (List.mem_of_getElem? hk0)
        have hids : (j.keys.set i { k0 with used := markU k0.used r.a r.b }).map (·.id) = j.keys.map (·.id) := by
          rw [List.map_set]
          refine List.ext_getElem? fun n => ?_
          rw [List.getElem?_set]
          split
          · rename_i e; subst e
            rw [if_pos (by rw [List.length_map]; exact hlt), List.getElem?_map, hk0]; rfl
          · rfl
        refine ⟨?_, fun k hk2 => ?_, hl, fun h2 => by dsimp only at h2; omega⟩
        · have h3 := (List.pairwise_map (f := Ky.id) (R := fun a b : Nat => a < b)).2 hi
          rw [← hids] at h3
          exact List.pairwise_map.1 h3
        · rcases List.mem_or_eq_of_mem_set hk2 with hk2 | rfl
          · exact hk k hk2
          · dsimp only
            rw [markU_len8 _ _ _ (by omega) (by omega)]
            exact hm
  · rw [if_neg (by omega), if_neg (by omega), if_neg (by omega), if_pos e] at h1
    rw [Option.map_eq_some_iff] at h1
    obtain ⟨i, hi2, rfl⟩ := h1
    exact ⟨hi.sublist (List.eraseIdx_sublist _ _), fun k hk2 => hk k (List.mem_of_mem_eraseIdx hk2), hl, fun h2 => by dsimp only at h2; omega⟩
  · rw [if_neg (by omega), if_neg (by omega), if_neg (by omega), if_neg (by omega)] at h1
    split at h1
    · cases h1
    · rename_i hc
      injection h1 with h1; subst h1
      exact ⟨hi, fun k hk2 => by have := hk k hk2; exact ⟨this.1, by show k.id ≤ r.id; omega, this.2.2⟩, hr.id, fun h2 => by dsimp only at h2; omega⟩
theorem JnW.find {j : Jn} (h : JnW j) {i : Nat} {k : Ky} (hk : j.keys[i]? = some k) : findK j.keys k.id = some i := by
  refine fidx_some hk rfl fun i' k' hi hk' e => ?_
  have h2 := List.pairwise_iff_getElem.1 h.inc i' i (List.getElem?_eq_some_iff.1 hk').1 (List.getElem?_eq_some_iff.1 hk).1 hi
  rw [(List.getElem?_eq_some_iff.1 hk').2, (List.getElem?_eq_some_iff.1 hk).2] at h2
  omega
/-- A piece of a key. -/
def PcG (keys : List Ky) (p : Pc) : Prop := ∃ k ∈ keys, p.id = k.id ∧ p.f < p.t ∧ p.t ≤ k.used.length
theorem endB_lt (l : List Bool) (v : Bool) {k i : Nat} (hk : 0 < k) (h : l[i]? = some v) : i < endB l v k i := by
  obtain ⟨k, rfl⟩ : ∃ m, k = m + 1 := ⟨k - 1, by omega⟩
  rw [endB, if_pos h]
  have := (endB_le l v k (i + 1)).1
  omega
theorem runsB_mem (l : List Bool) (v : Bool) (hi : Nat) : ∀ f i x, x ∈ runsB l v hi f i → i ≤ x.1 ∧ x.1 < x.2 ∧ x.2 ≤ hi
  | 0, _, x, h => by simp [runsB] at h
  | f + 1, i, x, h => by
    rw [runsB] at h
    split at h
    · simp at h
    · rename_i hlt
      split at h
      · rename_i hv
        have h1 := endB_le l v (hi - i) i
        rcases List.mem_cons.1 h with rfl | h
        · exact ⟨Nat.le_refl _, endB_lt l v (by omega) hv, by dsimp only; omega⟩
        · have := runsB_mem l v hi f _ x h
          exact ⟨by omega, this.2⟩
      · have := runsB_mem l v hi f _ x h
        exact ⟨by omega, this.2⟩
theorem freeL_good {keys : List Ky} {side : Int} {p : Pc} (h : p ∈ freeL keys side) : PcG keys p := by
  unfold freeL at h
  obtain ⟨k, hk, h⟩ := List.mem_flatMap.1 h
  unfold freeK runsL at h
  obtain ⟨x, hx, rfl⟩ := List.mem_map.1 h
  have h1 := runsB_mem _ _ _ _ _ _ hx
  have h2 := laneN_le k.used.length side
  exact ⟨k, hk, rfl, h1.2.1, by dsimp only; omega⟩
/-- One piece is taken: the pieces, and how many bits are still wanted. -/
def tkT (p : Pc) (r : Nat) : Nat := min p.t (p.f + min r 512)
def tkStep (q : List Pc × Nat) (p : Pc) : List Pc × Nat := (q.1 ++ [⟨p.id, p.f, tkT p q.2⟩], q.2 - (tkT p q.2 - p.f))
def takeG : List Pc → List Pc × Nat → List Pc × Nat
  | [], q => q
  | p :: ps, q => if q.2 = 0 then q else takeG ps (tkStep q p)
theorem takeG_zero (ps : List Pc) {q : List Pc × Nat} (h : q.2 = 0) : takeG ps q = q := by
  cases ps with
  | nil => rfl
  | cons p ps => rw [takeG, if_pos h]
theorem takeG_append : ∀ (ps rs : List Pc) (q : List Pc × Nat), takeG (ps ++ rs) q = takeG rs (takeG ps q)
  | [], rs, q => rfl
  | p :: ps, rs, q => by
    rw [List.cons_append, takeG]
    split
    · rename_i h
      rw [takeG_zero (p :: ps) h, takeG_zero rs h]
    · rename_i h
      rw [takeG_append ps rs, takeG, if_neg h]
theorem takeG_snoc (ps : List Pc) (p : Pc) {q : List Pc × Nat} (h : (takeG ps q).2 ≠ 0) : takeG (ps ++ [p]) q = tkStep (takeG ps q) p := by
  rw [takeG_append, takeG, if_neg h]; rfl
theorem takeG_pre {ps all : List Pc} {q : List Pc × Nat} (hp : ps <+: all) (h : (takeG ps q).2 = 0) : takeG all q = takeG ps q := by
  obtain ⟨t, rfl⟩ := hp
  rw [takeG_append, takeG_zero t h]
theorem tkT_le {p : Pc} {r : Nat} (hp : p.f < p.t) (hr : r ≠ 0) : p.f < tkT p r ∧ tkT p r ≤ p.t ∧ tkT p r - p.f ≤ r ∧ tkT p r - p.f ≤ 512 := by unfold tkT; omega
theorem takeG_good {keys : List Ky} : ∀ (ps : List Pc) (q : List Pc × Nat), (∀ p ∈ ps, PcG keys p) → (∀ p ∈ q.1, PcG keys p) → ∀ p ∈ (takeG ps q).1, PcG keys p
  | [], q, _, h => h
  | p :: ps, q, h, g => by
    rw [takeG]
    split
    · exact g
    · rename_i hq
      refine takeG_good ps _ (fun x hx => h x (by simp [hx])) fun x hx => ?_
      rcases List.mem_append.1 hx with hx | hx
      · exact g x hx
      · rw [List.mem_singleton] at hx
        subst hx
        obtain ⟨k, hk, h1, h2, h3⟩ := h p (by simp)
        have := tkT_le h2 hq
        exact ⟨k, hk, h1, by dsimp only; omega, by dsimp only; omega⟩
def pcsN (l : List Pc) : Nat := (l.map fun p => p.t - p.f).foldr (· + ·) 0
theorem pcsN_append (a b : List Pc) : pcsN (a ++ b) = pcsN a + pcsN b := by
  induction a with
  | nil => simp [pcsN]
  | cons x a ih => simp only [pcsN, List.cons_append, List.map_cons, List.foldr_cons] at ih ⊢; omega
theorem takeG_sum : ∀ (ps : List Pc) (q : List Pc × Nat), (∀ p ∈ ps, p.f < p.t) → pcsN (takeG ps q).1 + (takeG ps q).2 = pcsN q.1 + q.2
  | [], q, _ => rfl
  | p :: ps, q, h => by
    rw [takeG]
    split
    · rfl
    · rename_i hq
      rw [takeG_sum ps _ fun x hx => h x (by simp [hx])]
      have := tkT_le (h p (by simp)) hq
      unfold tkStep
      dsimp only
      rw [pcsN_append]
      simp only [pcsN, List.map_cons, List.map_nil, List.foldr_cons, List.foldr_nil]
      omega
theorem pcsN_len {l : List Pc} (h : ∀ p ∈ l, p.f < p.t) : l.length ≤ pcsN l := by
  induction l with
  | nil => simp
  | cons x l ih =>
    have h1 := ih fun p hp => h p (by simp [hp])
    have h2 := h x (by simp)
    simp only [pcsN, List.map_cons, List.foldr_cons, List.length_cons] at h1 ⊢
    omega
theorem PcG.lt {keys : List Ky} {p : Pc} (h : PcG keys p) : p.f < p.t := by obtain ⟨k, _, _, h, _⟩ := h; exact h
theorem takeG_bound {keys : List Ky} {ps : List Pc} {n : Nat} (h : ∀ p ∈ ps, PcG keys p) : (takeG ps ([], n)).1.length ≤ n ∧ pcsN (takeG ps ([], n)).1 ≤ n ∧ (takeG ps ([], n)).2 ≤ n := by
  have h1 := takeG_sum ps ([], n) fun p hp => (h p hp).lt
  have h2 := pcsN_len fun p hp => (takeG_good (keys := keys) ps ([], n) h (by simp) p hp).lt
  have h3 : pcsN (([] : List Pc), n).1 = 0 := rfl
  rw [h3] at h1
  dsimp only at h1
  omega
/-- The keys' ids and bits. -/
def shK (ks : List Ky) : List (Nat × List Bool) := ks.map fun k => (k.id, k.bits)
theorem findK_sh {a b : List Ky} (h : shK a = shK b) (id : Nat) : findK a id = findK b id := by
  unfold findK
  have e : ∀ l : List Ky, l.findIdx? (fun k => k.id == id) = (shK l).findIdx? (fun x => x.1 == id) := fun l => by
    unfold shK; rw [List.findIdx?_map]; rfl
  rw [e, e, h]
theorem follow_claim {j j' : Jn} {r : Rc} (hr : r.kind = 3) (h : j.follow r = some j') : shK j'.keys = shK j.keys := by
  obtain ⟨j1, h1, rfl⟩ := follow_some h
  rw [step3 j r hr] at h1
  unfold Jn.claimR at h1
  split at h1
  · cases h1
  · rename_i i hi
    obtain ⟨k0, hk0, _, hlt⟩ := findK_get hi
    dsimp only at h1
    rw [getD_some hk0] at h1
    split at h1
    · cases h1
    · injection h1 with h1; subst h1
      dsimp only
      unfold shK
      rw [List.map_set]
      refine List.ext_getElem? fun n => ?_
      rw [List.getElem?_set]
      split
      · rename_i e; subst e
        rw [if_pos (by rw [List.length_map]; exact hlt), List.getElem?_map, hk0]; rfl
      · rfl
theorem write_claim (d : Dk) (s : StM) (r : Rc) (hr : r.kind = 3) : shK (s.write d r).2.2.j.keys = shK s.j.keys := by
  unfold StM.write
  dsimp only
  split
  · rfl
  · dsimp only
    cases hf : s.j.follow (r.at' s.epoch) with
    | none => rfl
    | some j' => exact follow_claim (r := r.at' s.epoch) hr hf
theorem writes_claim : ∀ (rs : List Rc) (d : Dk) (s : StM), (∀ r ∈ rs, r.kind = 3) → shK (StM.writes d s rs).2.2.j.keys = shK s.j.keys
  | [], d, s, _ => rfl
  | r :: rs, d, s, h => by
    rw [StM.writes]
    split
    · exact write_claim d s r (h r (by simp))
    · rw [writes_claim rs _ _ fun x hx => h x (by simp [hx])]
      exact write_claim d s r (h r (by simp))
theorem commit_claim (d : Dk) (s : StM) (rs : List Rc) (h : ∀ r ∈ rs, r.kind = 3) : shK (s.commit d rs).2.2.j.keys = shK s.j.keys := by
  unfold StM.commit
  split
  · rfl
  · dsimp only
    unfold StM.commitW
    split
    · exact writes_claim rs d s h
    · exact writes_claim rs d s h
/-- Take: what it answers, the pieces, their bits; the disk and the store behind it. -/
def StM.takeR (d : Dk) (s : StM) (n : Int) : Int × List Pc × List Bool × Dk × StM :=
  if s.age ≠ d.age then (13, [], [], d, s)
  else if n < 1 then (2, [], [], d, s)
  else
    let q := takeG (freeL s.j.keys s.j.side) ([], n.toNat)
    if 0 < q.2 then (14, [], [], d, s)
    else
      let c := s.commit d (q.1.map clmR)
      if c.1 ≠ 0 then (c.1, [], [], c.2.1, c.2.2) else (0, q.1, bitsL c.2.2.j.keys q.1, c.2.1, c.2.2)
theorem clm_good {j : Jn} (h : JnW j) {p : Pc} (hp : PcG j.keys p) (e : Nat) (h1 : 1 ≤ e) (h2 : e < 4294967296) : RcG ((clmR p).at' e) := by
  obtain ⟨k, hk, g1, g2, g3⟩ := hp
  have := h.key k hk
  have hl := h.last
  exact ⟨h1, h2, by show p.id ≤ _; omega, by simp [clmR, Rc.at'], .inr (.inr (.inl ⟨rfl, by show 1 ≤ p.id; omega, by show p.f < _; omega, by show p.t < _; omega, rfl⟩))⟩
theorem PcG.bits {j : Jn} (h : JnW j) {ks : List Ky} (hs : shK ks = shK j.keys) {p : Pc} (hp : PcG j.keys p) : ∃ q k, findK ks p.id = some q ∧ ks[q]? = some k ∧ p.f ≤ p.t ∧ p.t ≤ k.bits.length := by
  obtain ⟨k, hk, g1, g2, g3⟩ := hp
  obtain ⟨i, hi, rfl⟩ := List.mem_iff_getElem.1 hk
  have hki : j.keys[i]? = some j.keys[i] := List.getElem?_eq_getElem hi
  have hf := h.find hki
  have h4 := (h.key _ hk).2.2.1
  have he := congrArg (fun l => l[i]?) hs
  unfold shK at he
  simp only [List.getElem?_map, hki, Option.map_some] at he
  cases hq : ks[i]? with
  | none => rw [hq] at he; cases he
  | some k' =>
    rw [hq] at he
    simp only [Option.map_some, Option.some.injEq, Prod.mk.injEq] at he
    exact ⟨i, k', by rw [findK_sh hs, g1]; exact hf, hq, by omega, by rw [he.2]; omega⟩
theorem bitsP_len {j : Jn} (h : JnW j) {ks : List Ky} (hs : shK ks = shK j.keys) {p : Pc} (hp : PcG j.keys p) : (bitsP ks p).length = p.t - p.f := by
  obtain ⟨q, k, h1, h2, h3, h4⟩ := hp.bits h hs
  unfold bitsP
  rw [h1]
  dsimp only
  rw [h2]
  dsimp only
  rw [List.length_take, List.length_drop]
  omega
theorem bitsL_len {j : Jn} (h : JnW j) {ks : List Ky} (hs : shK ks = shK j.keys) {ps : List Pc} (hp : ∀ p ∈ ps, PcG j.keys p) : (bitsL ks ps).length = pcsN ps := by
  induction ps with
  | nil => rfl
  | cons p ps ih =>
    have h1 := ih fun x hx => hp x (by simp [hx])
    have h2 := bitsP_len h hs (hp p (by simp))
    unfold bitsL pcsN at h1 ⊢
    rw [List.flatMap_cons, List.length_append, h1, h2]
    rfl
open Go.RowKit
attribute [local go_sem] Oper.semAt_some
def pcC (ps : List Pc) : List Value := ps.flatMap fun p => [.int .i64 (p.id : Int), .int .i64 (p.f : Int), .int .i64 (p.t : Int)]
/-- What a store that is used must be like. -/
structure UseW (d : Dk) (s : StM) : Prop where
  u : UseOK d s
  e : 1 ≤ s.epoch
  w : JnW s.j
def TakP (D S bs bm cp : Nat) (p : Option Addr) (F B : List Nat) (q : Int × List Pc × List Bool × Dk × StM) (w : World) (e : Ending) (w' : World) : Prop :=
  ∃ v bv, e = .returned (.tuple #[v, bv, .int .i64 q.1]) ∧ w'.ownsRow w.heap.size 82 3 v q.2.1.length (pcC q.2.1) ∧ w'.ownsRow w.heap.size 4 1 bv q.2.2.1.length (q.2.2.1.map Value.bool) ∧
    SysM w w' D S bs bm cp p F B [] q.2.2.2.1 q.2.2.2.2
/-- The state of Take's range: the numbers, the pieces. -/
def TkS (w w4 : World) (bn bl : Nat) (q : List Pc × Nat) (W : World) : Prop :=
  ∃ v, Bk W bn #[.int .i64 (q.2 : Int)] 3 ∧ Bk W bl #[v] 77 ∧ W.ownsRow w.heap.size 82 3 v q.1.length (pcC q.1) ∧ Below w.heap.size w W ∧ w4.heap.size ≤ W.heap.size
theorem bk_iter {X Y : World} {row : Option Nat} {n₀ b : Nat} {cs : Array Value} {t : TypeId} (h : Bk X b cs t) (hg : X.grownBy Y row) (hr : ∀ r, row = some r → n₀ ≤ r ∧ ∃ o : Obj, X.heap[r]? = some o ∧ o.isCells = false) : Bk Y b cs t :=
  (hg.block b h.lt (fun e => by
    obtain ⟨_, o, h1, h2⟩ := hr b e.symm
    unfold Bk at h
    rw [h] at h1; cases h1; cases h2)).trans h
theorem own_iter {X Y : World} {row : Option Nat} {n₀ B sz n : Nat} {t : TypeId} {v : Value} {xs : List Value} (h : X.ownsRow B t sz v n xs) (hg : X.grownBy Y row) (hr : ∀ r, row = some r → n₀ ≤ r ∧ ∃ o : Obj, X.heap[r]? = some o ∧ o.isCells = false) : Y.ownsRow B t sz v n xs := by
  refine ⟨h.1, ?_⟩
  rcases h.2 with h1 | ⟨g, cap, cur, h1, h2, h3, h4⟩
  · exact .inl h1
  · exact .inr ⟨g, cap, cur, h1, h2, bk_iter (show Bk X g cur t from h3) hg hr, h4⟩
theorem TkS.iter {w w4 X Y : World} {bn bl : Nat} {q : List Pc × Nat} {row : Option Nat} {n₀ : Nat} (h : TkS w w4 bn bl q X) (hs : w.heap.size ≤ n₀) (hg : X.grownBy Y row) (hr : ∀ r, row = some r → n₀ ≤ r ∧ ∃ o : Obj, X.heap[r]? = some o ∧ o.isCells = false) : TkS w w4 bn bl q Y := by
  obtain ⟨v, h1, h2, h3, h4, h5⟩ := h
  exact ⟨v, bk_iter h1 hg hr, bk_iter h2 hg hr, own_iter h3 hg hr, h4.grown hg h4.size (fun j hj => Nat.le_trans hs (hr j hj).1), Nat.le_trans h5 hg.size⟩
theorem TkS.fresh {w w4 X Y : World} {bn bl : Nat} {q : List Pc × Nat} (h : TkS w w4 bn bl q X) (hb : Below X.heap.size X Y) : ∃ v, Bk Y bl #[v] 77 ∧ v.ownBlock ≠ some X.heap.size := by
  obtain ⟨v, h1, h2, h3, h4, h5⟩ := h
  exact ⟨v, h2.past hb h2.lt, fun e => by have := own_lt h3 _ (mem_ob.2 e); omega⟩
theorem TkS.size {w w4 X : World} {bn bl : Nat} {q : List Pc × Nat} (h : TkS w w4 bn bl q X) : w4.heap.size ≤ X.heap.size := by
  obtain ⟨v, h1, h2, h3, h4, h5⟩ := h
  exact h5
theorem elP8 : ElemB Tryz.prog 77 82 3 24 := ElemB.of Tryz.underlying77 (by kernel_rfl : (Tryz.prog.info? 82).map (fun i => (i.zero, i.size, i.bytes)) = some (some (.agg #[.int .i64 0, .int .i64 0, .int .i64 0]), 3, 24)) rfl (by decide)
theorem keepL_grown {X Y : World} {v : Value} (h : X.grownBy Y v.ownBlock) : KeepL (ob v) X Y := ⟨h.os, h.tape, h.output, h.size, fun k hk hL => h.block k hk (fun e => hL (mem_ob.2 e.symm))⟩
theorem keepsFrom_L {L : List Nat} {X Y : World} (B : Nat) (h : KeepL L X Y) (hL : ∀ k ∈ L, ∃ cs t, Bk X k cs t) : KeepsFrom B X Y := ⟨h.size, fun k o _ ho hc => (h.block k (Array.getElem?_eq_some_iff.1 ho).1 (fun hm => by
  obtain ⟨cs, t, hb⟩ := hL k hm
  unfold Bk at hb
  rw [ho] at hb; cases hb; cases hc)).trans ho⟩
theorem kpS_L {L : List Nat} {X Y : World} {bn : Nat} (h : KeepL L X Y) (hL : ∀ k ∈ L, ∃ cs t, Bk X k cs t ∧ (t = 77 ∨ t = 82 ∨ t = 125 ∨ t = 115 ∨ k = bn)) (hbn : ∃ cs, Bk X bn cs 3) : KpS [bn] X Y := ⟨h.size, fun b cs t hb h1 h2 h3 h4 h5 => hb.keepL h (fun hm => by
  obtain ⟨cs', t', hb', ht⟩ := hL b hm
  have e : t = t' := by
    unfold Bk at hb hb'
    rw [hb] at hb'; cases hb'; rfl
  rcases ht with rfl | rfl | rfl | rfl | rfl
  · exact h1 e
  · exact h2 e
  · exact h3 e
  · exact h4 e
  · obtain ⟨cs2, hb2⟩ := hbn
    have e2 : t = 3 := by
      unfold Bk at hb hb2
      rw [hb] at hb2; cases hb2; rfl
    exact h5 e2 (by simp))⟩
theorem bk_uniq {X : World} {b : Nat} {c1 c2 : Array Value} {t : TypeId} (h : Bk X b c1 t) (k : Bk X b c2 t) : c1 = c2 := by
  unfold Bk at h k
  rw [h] at k; cases k; rfl
theorem nob_ty {X : World} {B sz n b : Nat} {t t' : TypeId} {v : Value} {xs : List Value} {cs : Array Value} (h : X.ownsRow B t sz v n xs) (hb : Bk X b cs t') (ht : t' ≠ t) : b ∉ ob v := fun hm => by
  obtain ⟨cs', hc⟩ := own_bk h b hm
  exact hb.ne hc ht rfl
theorem nob_bl {X : World} {B sz n b : Nat} {v u : Value} {xs : List Value} (h : X.ownsRow B 82 sz v n xs) (hb : Bk X b #[u] 77) : b ∉ ob v := nob_ty h hb (by decide)
theorem pcC_append (a b : List Pc) : pcC (a ++ b) = pcC a ++ pcC b := by unfold pcC; rw [List.flatMap_append]
section
variable {w w' : World} {S D : Nat} {d : Dk} {s : StM} {bs bm cp : Nat} {p : Option Addr} {F B : List Nat}
theorem DkAt.iter {X Y : World} {row : Option Nat} {n₀ : Nat} (h : DkAt X D d bs bm cp p) (hbm : bm < n₀) (hg : X.grownBy Y row) (hr : ∀ r, row = some r → n₀ ≤ r ∧ ∃ o : Obj, X.heap[r]? = some o ∧ o.isCells = false) : DkAt Y D d bs bm cp p := by
  obtain ⟨h1, h2, ⟨sp, h3⟩, ⟨l, h4⟩, h5⟩ := h
  refine ⟨h1, bk_iter h2 hg hr, ⟨sp, bk_iter h3 hg hr⟩, ⟨l, h4.keep (hg.block _ h4.lt (fun e => by have := (hr _ e.symm).1; omega))⟩, ?_⟩
  revert h5
  cases d.plan with
  | none => exact fun h => h
  | some q =>
    rintro ⟨bp, kv, rfl, h6, A, c, h7, h8⟩
    refine ⟨bp, kv, rfl, bk_iter h6 hg hr, A, c, h7, fun hk => ?_⟩
    obtain ⟨g, C, e1, e2, e3⟩ := h8 hk
    exact ⟨g, C, e1, bk_iter e2 hg hr, e3⟩
theorem StIn.iter {X Y : World} {row : Option Nat} {n₀ : Nat} (h : StIn X S D s F B) (hg : X.grownBy Y row) (hr : ∀ r, row = some r → n₀ ≤ r ∧ ∃ o : Obj, X.heap[r]? = some o ∧ o.isCells = false) : StIn Y S D s F B := by
  obtain ⟨T, kv, xs, tb, tc, h1, rfl, rfl⟩ := h
  exact ⟨T, kv, xs, tb, tc, ⟨bk_iter h1.blk hg hr, h1.js.kp (L := []) (KpS.grown hg fun r e => (hr r e).2), h1.ok⟩, rfl, rfl⟩
theorem SysM.iter {X Y : World} {row : Option Nat} {X' : List Nat} {d' : Dk} {s' : StM} (hbm : bm < w.heap.size) (h : SysM w X D S bs bm cp p F B X' d' s') (hg : X.grownBy Y row) (hr : ∀ r, row = some r → w.heap.size ≤ r ∧ ∃ o : Obj, X.heap[r]? = some o ∧ o.isCells = false) : SysM w Y D S bs bm cp p F B X' d' s' := by
  obtain ⟨⟨p1, h1, h2⟩, ⟨F1, B1, h3, h4, h5⟩, h6⟩ := h
  exact ⟨⟨p1, h1.iter hbm hg hr, h2⟩, ⟨F1, B1, h3.iter hg hr, h4, h5⟩, ⟨hg.os.trans h6.os, hg.tape.trans h6.tape, hg.output.trans h6.output, Nat.le_trans h6.size hg.size, fun j h7 h8 =>
    (hg.block j (Nat.lt_of_lt_of_le h7 h6.size) (fun e => by have := (hr _ e.symm).1; omega)).trans (h6.block j h7 h8)⟩⟩
theorem TakP.iter {X Y : World} {row : Option Nat} {e : Ending} {q : Int × List Pc × List Bool × Dk × StM} (hbm : bm < w.heap.size) (h : TakP D S bs bm cp p F B q w e X) (hg : X.grownBy Y row) (hr : ∀ r, row = some r → w.heap.size ≤ r ∧ ∃ o : Obj, X.heap[r]? = some o ∧ o.isCells = false) : TakP D S bs bm cp p F B q w e Y := by
  obtain ⟨v, bv, h1, h2, h3, h4⟩ := h
  exact ⟨v, bv, h1, own_iter h2 hg hr, own_iter h3 hg hr, h4.iter hbm hg hr⟩
theorem pcC_get : ∀ (ps : List Pc) (i j : Nat) (p : Pc), ps[i]? = some p → j < 3 → (pcC ps)[i * 3 + j]? = [Value.int .i64 (p.id : Int), .int .i64 (p.f : Int), .int .i64 (p.t : Int)][j]?
  | [], i, j, p, h, _ => by simp at h
  | y :: ps, 0, j, p, h, hj => by
    simp only [List.getElem?_cons_zero, Option.some.injEq] at h
    subst h
    unfold pcC
    rw [List.flatMap_cons, Nat.zero_mul, Nat.zero_add, List.getElem?_append_left (by simpa using hj)]
  | y :: ps, i + 1, j, p, h, hj => by
    have ih := pcC_get ps i j p (by simpa using h) hj
    unfold pcC at ih ⊢
    rw [List.flatMap_cons, List.getElem?_append_right (by simp; omega)]
    simp only [List.length_cons, List.length_nil]
    rw [show (i + 1) * 3 + j - (0 + 1 + 1 + 1) = i * 3 + j by omega]
    exact ih
theorem PcR.of_own {X : World} {N : Nat} {v : Value} {ps : List Pc} (h : X.ownsRow N 82 3 v ps.length (pcC ps)) : PcR X v ps := by
  rcases h.2 with ⟨rfl, h0⟩ | ⟨g, cap, cur, rfl, hg, hh, hcap, hm, hs, htk⟩
  · exact ⟨none, 0, by rw [h0], fun i p hp => by have := (List.getElem?_eq_some_iff.1 hp).1; omega⟩
  · refine ⟨some ⟨g, 0, none⟩, cap, rfl, fun i p hp => ?_⟩
    have hb : Bk X g cur 82 := hh
    have key : ∀ j, j < 3 → X.cell? ⟨g, i * 3 + j, none⟩ = [Value.int .i64 (p.id : Int), .int .i64 (p.f : Int), .int .i64 (p.t : Int)][j]? := fun j hj => by
      have hi := (List.getElem?_eq_some_iff.1 hp).1
      rw [hb.cell, ← Array.getElem?_toList]
      have h3 := pcC_get ps i j p hp hj
      rw [← htk, List.getElem?_take, if_pos (by omega)] at h3
      exact h3
    exact ⟨g, rfl, hb.lt, key 0 (by omega), key 1 (by omega), key 2 (by omega)⟩
theorem TakP.none {q : Int × List Pc × List Bool × Dk × StM} (hd : DkAt w D d bs bm cp p) (hs : StIn w S D s F B) {z : Int} (hq : q = (z, [], [], d, s)) (hb : Below w.heap.size w w') : TakP D S bs bm cp p F B q w (.returned (.tuple #[.slice none 0 0, .slice none 0 0, .int .i64 z])) w' := by
  subst hq
  exact ⟨_, _, rfl, World.ownsRow_nil _ _ _ _, World.ownsRow_nil _ _ _ _, SysM.refl hd hs [] hb⟩
set_option maxRecDepth 100000 in
set_option maxHeartbeats 2000000 in
theorem take_any (hd : DkAt w D d bs bm cp p) (hs : StIn w S D s F B) (hu : s.age = d.age → UseW d s) (n : Int) (hn : n ≤ 500) :
    Calls Tryz.prog 34 #[.pointer (some ⟨S, 0, none⟩), .int .i64 n] w (TakP D S bs bm cp p F B (s.takeR d n) w) := by
  obtain ⟨w1, hw1⟩ : ∃ z, z = w.alloc (.cells #[.int .i64 n] 3) := ⟨_, rfl⟩
  have hb1 : Below w.heap.size w w1 := by rw [hw1]; exact balloc _ _
  have hbn : Bk w1 w.heap.size #[.int .i64 n] 3 := by rw [hw1]; exact Bk.new _ _ _
  have HC := Lib.hid (check_any (hd.far hb1) (hs.far hb1))
  have HD := Lib.hid hd; have HS := Lib.hid hs; have HB1 := Lib.hid hb1; have HBN := Lib.hid hbn
  obtain ⟨q, hq⟩ : ∃ q, q = s.takeR d n := ⟨_, rfl⟩
  have HQ := Lib.hid hq
  rw [← hq]
  obtain ⟨bn, hbn2⟩ : ∃ b, b = w.heap.size := ⟨_, rfl⟩
  have HBE := Lib.hid hbn2
  rw [← hbn2] at hbn HBN
  by_cases he : s.age = d.age
  · have HU := Lib.hid (hu he); have HAL := Lib.hid he
    rw [if_pos he] at HC
    have HQ1 : Hid (q = s.takeR d n) := Lib.hid hq
    clear hd hs hq hu he hbn
    refine (callsIn_wide (n := 6)).1 ?_
    refine callsIn_of_wp_marks Tryz.func34 rfl trivial ?_ rfl
    simp only [Tryz.ntmps34, List.size_toArray, List.length_cons, List.length_nil, Nat.reduceAdd, Nat.reduceSub, Array.replicate_succ, Array.replicate_zero, List.push_toArray, List.append_toArray, List.nil_append, List.cons_append]
    refine wpIn_wide.2 ?_
    go_upto_region 1 with fail
    rw [← hw1, ← hbn2]
    clear hw1 hb1 hbn2
    go_wp2_with fail
    refine HC.out.mono ?_
    rintro e w2 ⟨rfl, nq, rfl⟩
    have hqw : Below w1.heap.size w1 (w1.drewN nq) := Qw.below ⟨nq, rfl⟩ _
    have hc : (w1.drewN nq).cell? ⟨bn, 0, none⟩ = some (.int .i64 n) := (HBN.out.past hqw HBN.out.lt).cell 0
    have HB2 := Lib.hid (bnextK HB1.out hqw)
    have HBN2 := Lib.hid (HBN.out.past hqw HBN.out.lt)
    generalize w1.drewN nq = w2 at hc HB2 HBN2
    clear hqw HC
    by_cases c1 : n < 1
    · have HQ2 : Hid (q = (2, [], [], d, s)) := Lib.hid (by rw [HQ1.out]; unfold StM.takeR; rw [if_neg (by simpa using HAL.out), if_pos c1])
      go_wp2_with fail
      refine ⟨_, results_tmp3 rfl _ _ _, ?_⟩
      exact TakP.none HD.out HS.out HQ2.out HB2.out
    have HQ2 : Hid (q = (let q := takeG (freeL s.j.keys s.j.side) ([], n.toNat); if 0 < q.2 then (14, [], [], d, s) else let c := s.commit d (q.1.map clmR); if c.1 ≠ 0 then (c.1, [], [], c.2.1, c.2.2) else (0, q.1, bitsL c.2.2.j.keys q.1, c.2.1, c.2.2))) := Lib.hid (by
      rw [HQ1.out]; unfold StM.takeR; rw [if_neg (by simpa using HAL.out), if_neg c1])
    obtain ⟨m, rfl⟩ : ∃ m : Nat, n = (m : Int) := ⟨n.toNat, by omega⟩
    rw [Int.toNat_natCast] at HQ2
    clear HQ HQ1
    go_upto_region 7 with fail
    obtain ⟨w3, hw3⟩ : ∃ z, z = w2.alloc (.cells #[.slice none 0 0] 77) := ⟨_, rfl⟩
    have hb3 : Below w2.heap.size w2 w3 := by rw [hw3]; exact balloc _ _
    have hbl : Bk w3 w2.heap.size #[.slice none 0 0] 77 := by rw [hw3]; exact Bk.new _ _ _
    obtain ⟨bl, hbl2⟩ : ∃ b, b = w2.heap.size := ⟨_, rfl⟩
    rw [← hbl2] at hbl
    rw [← hw3, ← hbl2]
    have HB3 := Lib.hid (bnextK HB2.out hb3); have HBL := Lib.hid hbl
    have HBN3 := Lib.hid (HBN2.out.past hb3 HBN2.out.lt)
    have HBLE : Hid (w.heap.size ≤ bl) := Lib.hid (by rw [hbl2]; exact HB2.out.size)
    obtain ⟨T, kv, xs, tb, tc, hst, hF, hB⟩ := HS.out.far HB3.out
    have HST := Lib.hid hst
    have c4 : w3.cell? ⟨S, 4, none⟩ = some (.pointer (some ⟨T, 0, none⟩)) := hst.blk.cell 4
    have t4 : w3.cell? ⟨T, 4, none⟩ = some (.int .i64 (s.j.side : Int)) := hst.js.blk.cell 4
    have HFR := Lib.hid (free_any (L := [bn]) HST.out (s.j.side : Int) (fun k hk => by rw [List.mem_singleton] at hk; subst hk; exact HBN3.out.lt))
    generalize (s.j.side : Int) = sd at t4 HFR HQ2
    clear hst hF hB hw3 hb3 hbl hbl2 hc
    go_wp2_with fail
    refine HFR.out.mono ?_
    rintro e w4 ⟨rfl, hcap, hb4⟩
    have HCAP := Lib.hid hcap
    have HB4 := Lib.hid (bnextK HB3.out hb4)
    have HBN4 := Lib.hid (HBN3.out.past hb4 HBN3.out.lt); have HBL4 := Lib.hid (HBL.out.past hb4 HBL.out.lt)
    have HST4 := Lib.hid (HST.out.far hb4)
    have HSQ := Lib.hid (free1_any (L := [bn]) (side := sd) 5 HCAP.out (fun k hk => by rw [List.mem_singleton] at hk; subst hk; exact HBN4.out.lt))
    have HGD : Hid (∀ x ∈ freeL s.j.keys sd, PcG s.j.keys x) := Lib.hid fun x hx => freeL_good hx
    obtain ⟨fl, hfl⟩ : ∃ l, l = freeL s.j.keys sd := ⟨_, rfl⟩
    have HFL := Lib.hid hfl
    rw [← hfl] at HSQ HQ2 HGD
    clear hcap hb4 hfl c4 t4 HFR HST HBN3 HBL HBN2 HB2 HB1 HBN
    go_wp2_with fail
    -- <RANGE
    clear HB3
    refine (wpIn_wide (n := 6)).1 ?_
    refine wpIn_rangeFunc_ownB rfl (by decide) (gf := 100) (lb := freeLb w3.heap.size (w3.heap.size + 1)) rfl trivial (enters_of Tryz.func100 (by kernel_rfl) rfl) HSQ.out (fun _ _ _ _ _ _ h _ _ _ => h) (fun h1 h2 => h1.trans h2) (fun W l o o' _ ho hc _ => KpS.putObj [bn] W l o o' ho hc) (Below.refl _ _) (fun x v W h => by subst h; rfl)
      (fun pre WW => (takeG pre ([], m)).2 ≠ 0 ∧ TkS w w4 bn bl (takeG pre ([], m)) WW)
      (fun c pre WW => c = .exit 0 ∧ (takeG pre ([], m)).2 = 0 ∧ TkS w w4 bn bl (takeG pre ([], m)) WW)
      ?hI ?hIx ⟨?h0a, ?h0b⟩
      (fun x a' WW => ∃ b, a' = { tmps := #[.pointer (some ⟨S, 0, none⟩), .int .i64 (m : Int), undef, .pointer (some ⟨bn, 0, none⟩), .slice none 0 0, .slice none 0 0, .int .i64 0, .int .i64 0, .pointer (some ⟨bl, 0, none⟩), .pointer (some ⟨b, 0, none⟩), undef, .pointer (some ⟨S, 0, none⟩), .int .i64 0, .int .i64 0, .bool false, undef, .int .i64 (m : Int), .bool (decide ((m : Int) < 1)), .pointer (some ⟨S, 0, none⟩), .pointer (some ⟨S, 0, none⟩), .pointer (some ⟨S, 0, none⟩), .pointer (some ⟨S, 4, none⟩), .pointer (some ⟨T, 0, none⟩), .pointer (some ⟨T, 0, none⟩), .pointer (some ⟨T, 4, none⟩), .int .i64 sd, .func (.func 100) #[] (freeLb w3.heap.size (w3.heap.size + 1)), pcV x, undef, undef, undef, undef, undef, undef, undef, undef, undef, undef, undef, undef, undef, undef, undef, undef, undef, undef, undef, undef, undef, undef, undef, undef, undef, undef, undef, undef, undef, undef, undef, undef, undef, undef, undef], defers := [] } ∧ Bk WW b #[.int .i64 (x.id : Int), .int .i64 (x.f : Int), .int .i64 (x.t : Int)] 82 ∧ w4.heap.size ≤ b ∧ ∃ v, Bk WW bl #[v] 77 ∧ v.ownBlock ≠ some b)
      ?hAx ?assign ?body ?done ?stop
    case hI =>
      rintro pre X Y row ⟨h1, h2⟩ hg hr
      exact ⟨h1, h2.iter HB4.out.size hg hr⟩
    case hIx =>
      rintro c pre X Y row ⟨h0, h1, h2⟩ hg hr
      exact ⟨h0, h1, h2.iter HB4.out.size hg hr⟩
    case h0a => show m ≠ 0; omega
    case h0b => exact ⟨.slice none 0 0, HBN4.out, HBL4.out, World.ownsRow_nil _ _ _ _, HB4.out, Nat.le_refl _⟩
    case hAx =>
      rintro x a' s X Y row ⟨b, h1, h2, h3, v, h4, h5⟩ hg hr
      exact ⟨b, h1, bk_iter h2 hg hr, h3, v, bk_iter h4 hg hr, h5⟩
    case assign =>
      rintro l pre x v W K hpre rfl ⟨hi, hts⟩ hK
      unfold pcV at hK ⊢
      refine wpIn_region_lit (wpListIn_of_plain8 (fun a w h => h) _ _ _ (by rfl) ?_)
      go_wp2_with fail
      have hb5 := balloc W (.cells #[.int .i64 (x.id : Int), .int .i64 (x.f : Int), .int .i64 (x.t : Int)] 82)
      exact hK _ _ ⟨hb5.size, fun k o _ ho _ => (hb5.block k (Array.getElem?_eq_some_iff.1 ho).1).trans ho⟩ (KpS.of_below hb5) ⟨hi, hts.iter (n₀ := w4.heap.size) HB4.out.size (grown_of_below8 hb5) (fun r e => by cases e)⟩ ⟨W.heap.size, rfl, Bk.new _ _ _, hts.size, hts.fresh hb5⟩
    case body =>
      rintro l pre x a' WW hpre ⟨hr0, hts⟩ ⟨b, rfl, hbx, hbge, v', hv1, hv2⟩
      obtain ⟨r, hr⟩ : ∃ r, r = (takeG pre ([], m)).2 := ⟨_, rfl⟩
      have hxg := HGD.out x (hpre.subset (by simp))
      have HSN := Lib.hid (takeG_snoc pre x hr0)
      have hbd := takeG_bound (n := m) (fun y hy => HGD.out y (hpre.subset (List.mem_append_left _ hy)))
      rw [← hr] at hr0 hbd
      have hTS := hts
      obtain ⟨v, h1, h2, h3, h4, h5⟩ := hts
      rw [← hr] at h1
      have hvv := bk_uniq h2 hv1
      injection hvv with hvv
      injection hvv with hvv
      subst hvv
      clear hv1
      have hx2 : x.f < x.t ∧ x.t ≤ 512 := by
        obtain ⟨k, hk, e1, e2, e3⟩ := hxg
        have := HU.out.w.key k hk
        exact ⟨e2, by omega⟩
      have HTT : Hid ((tkT x r : Int) = if (x.f : Int) + (r : Int) < (x.t : Int) then (x.f : Int) + (r : Int) else (x.t : Int)) := Lib.hid (by unfold tkT; split <;> omega)
      have HBX := Lib.hid hbx; have H1 := Lib.hid h1; have H2 := Lib.hid h2; have H3 := Lib.hid h3; have H4 := Lib.hid h4; have H5 := Lib.hid h5; have HXG := Lib.hid hxg; have HPRE := Lib.hid hpre; have HR := Lib.hid hr
      have x0 : WW.cell? ⟨b, 0, none⟩ = some (.int .i64 (x.id : Int)) := hbx.cell 0
      have x1 : WW.cell? ⟨b, 1, none⟩ = some (.int .i64 (x.f : Int)) := hbx.cell 1
      have x2 : WW.cell? ⟨b, 2, none⟩ = some (.int .i64 (x.t : Int)) := hbx.cell 2
      have xf2 := hbx.froz 2
      have n0 : WW.cell? ⟨bn, 0, none⟩ = some (.int .i64 (r : Int)) := h1.cell 0
      have r512 : (r : Int) < 512 := by omega
      have r512' : ¬ (512 : Int) < (r : Int) := by omega
      have q1 : wrap64 ((x.f : Int) + (r : Int)) = (x.f : Int) + (r : Int) := by unfold wrap64; omega
      clear hpre hr hxg hbx h1 h2 h3 h4 h5 hTS
      gi_upto_region 9 with fail
      refine wpIn_region_lit (wpListIn_of_plain8 (fun a w h => h) _ _ _ (by rfl) ?_)
      go_wp2_with fail
      have HMN : Hid (min (x.t : Int) ((x.f : Int) + min (r : Int) 512) = (tkT x r : Int)) := Lib.hid (by unfold tkT; omega)
      rw [HMN.out]
      obtain ⟨WA, hWA⟩ : ∃ z, z = WW.setCell ⟨b, 2, none⟩ (.int .i64 (tkT x r : Int)) := ⟨_, rfl⟩
      have ka : KeepL [b] WW WA := by rw [hWA]; exact KeepL.set _ _ _ _
      have ba : Bk WA b #[.int .i64 (x.id : Int), .int .i64 (x.f : Int), .int .i64 (tkT x r : Int)] 82 := by rw [hWA]; exact HBX.out.set 2 _
      rw [← hWA]
      have hbn4 := HBN4.out.lt
      have hbl4 := HBL4.out.lt
      have hbb : b ≠ bn ∧ b ≠ bl ∧ bn ≠ bl := ⟨by omega, by omega, fun e => HBN4.out.ne HBL4.out (by decide) e⟩
      have htl := tkT_le hx2.1 hr0
      have n1 : Bk WA bn #[.int .i64 (r : Int)] 3 := H1.out.keepL ka (by simp [Ne.symm hbb.1])
      have l1 : Bk WA bl #[v] 77 := H2.out.keepL ka (by simp [Ne.symm hbb.2.1])
      have o1 : WA.ownsRow w.heap.size 82 3 v (takeG pre ([], m)).1.length (pcC (takeG pre ([], m)).1) := ownsRow_keepB H3.out ka (fun k hk => by rw [mem_ob] at hk; simp only [List.mem_singleton]; rintro rfl; exact hv2 hk)
      obtain ⟨tt, htt⟩ : ∃ z, z = tkT x r := ⟨_, rfl⟩
      have HTE := Lib.hid htt
      rw [← htt] at htl ba HMN ⊢
      clear hWA htt x0 x1 x2 xf2 n0 HTT q1
      have x1 : WA.cell? ⟨b, 1, none⟩ = some (.int .i64 (x.f : Int)) := ba.cell 1
      have x2 : WA.cell? ⟨b, 2, none⟩ = some (.int .i64 (tt : Int)) := ba.cell 2
      have n0 : WA.cell? ⟨bn, 0, none⟩ = some (.int .i64 (r : Int)) := n1.cell 0
      have nf := n1.froz 0
      have q2 : wrap64 ((tt : Int) - (x.f : Int)) = (tt : Int) - (x.f : Int) := by unfold wrap64; omega
      obtain ⟨r', hr'⟩ : ∃ z, z = r - (tt - x.f) := ⟨_, rfl⟩
      have HRE := Lib.hid hr'
      have HRN : Hid ((r : Int) - ((tt : Int) - (x.f : Int)) = (r' : Int)) := Lib.hid (by omega)
      have KA := Lib.hid ka; have BA := Lib.hid ba; have N1 := Lib.hid n1; have L1 := Lib.hid l1; have O1 := Lib.hid o1
      clear ka ba n1 l1 o1 hr'
      gi_upto_region 10 with fail
      refine wpIn_region_lit (wpListIn_of_plain8 (fun a w h => h) _ _ _ (by rfl) ?_)
      go_wp2_with fail
      rw [HRN.out]
      obtain ⟨WB, hWB⟩ : ∃ z, z = WA.setCell ⟨bn, 0, none⟩ (.int .i64 (r' : Int)) := ⟨_, rfl⟩
      have kb : KeepL [bn] WA WB := by rw [hWB]; exact KeepL.set _ _ _ _
      have nb : Bk WB bn #[.int .i64 (r' : Int)] 3 := by rw [hWB]; exact N1.out.set 0 _
      rw [← hWB]
      have bb : Bk WB b #[.int .i64 (x.id : Int), .int .i64 (x.f : Int), .int .i64 (tt : Int)] 82 := BA.out.keepL kb (by simp [hbb.1])
      have lb : Bk WB bl #[v] 77 := L1.out.keepL kb (by simp [Ne.symm hbb.2.2])
      have ob1 : WB.ownsRow w.heap.size 82 3 v (takeG pre ([], m)).1.length (pcC (takeG pre ([], m)).1) := ownsRow_keepB O1.out kb (fun k hk hm => by
        rw [List.mem_singleton] at hm; subst hm
        obtain ⟨cs, hc⟩ := own_bk O1.out k hk
        exact N1.out.ne hc (by decide) rfl)
      have KB := Lib.hid kb; have NB := Lib.hid nb; have BB := Lib.hid bb; have LB := Lib.hid lb; have OB := Lib.hid ob1
      have b0 : WB.cell? ⟨b, 0, none⟩ = some (.int .i64 (x.id : Int)) := bb.cell 0
      have b1 : WB.cell? ⟨b, 1, none⟩ = some (.int .i64 (x.f : Int)) := bb.cell 1
      have b2 : WB.cell? ⟨b, 2, none⟩ = some (.int .i64 (tt : Int)) := bb.cell 2
      have l0 : WB.cell? ⟨bl, 0, none⟩ = some v := lb.cell 0
      have hsB : w.heap.size ≤ WB.heap.size := Nat.le_trans HB4.out.size (Nat.le_trans H5.out (Nat.le_trans KA.out.size KB.out.size))
      have hlen1 : (takeG pre ([], m)).1.length ≤ 500 := by omega
      clear hWB kb nb bb lb ob1 x1 x2 n0 nf
      gi_upto_region 11 with fail
      refine wpIn_region_lit (wpListIn_of_plain8 (fun a w h => h) _ _ _ (by rfl) ?_)
      go_wp2_with (at_builtin; refine wpList_pushL elP8 (.tmp 44) (.tmp 46) rfl rfl w.heap.size (takeG pre ([], m)).1.length _ rfl OB.out rfl (by rfl) (fun u hu => by simp at hu; rcases hu with rfl | rfl | rfl <;> rfl) (by omega) (by decide) hsB ?_; intro v' w5 ho5 hb5 hg5 _; obtain ⟨A9, d9, rfl, hd9⟩ := own_form ho5; have HO5 := Lib.hid ho5; have HK5 := Lib.hid (keepL_grown hg5); have HL5 := Lib.hid (LB.out.keepL HK5.out (nob_bl OB.out LB.out)); have l5 := HL5.out.cell 0; have lf5 := HL5.out.froz 0; clear ho5 hb5 hg5)
      have HTQ : Hid (takeG (pre ++ [x]) ([], m) = ((takeG pre ([], m)).1 ++ [⟨x.id, x.f, tt⟩], r')) := Lib.hid (by rw [HSN.out]; unfold tkStep; rw [← HR.out, ← HTE.out, HRE.out])
      obtain ⟨WD, hWD⟩ : ∃ z, z = w5.setCell ⟨bl, 0, none⟩ (.slice A9 ((takeG pre ([], m)).1.length + 1) d9) := ⟨_, rfl⟩
      rw [← hWD]
      have kd : KeepL [bl] w5 WD := by rw [hWD]; exact KeepL.set _ _ _ _
      have kall : KeepL (b :: bn :: bl :: ob v) WW WD := (KA.out.sub (by simp)).trans ((KB.out.sub (by simp)).trans ((HK5.out.sub (fun k hk => List.mem_cons_of_mem _ (List.mem_cons_of_mem _ (List.mem_cons_of_mem _ hk)))).trans (kd.sub (by simp))))
      have ld : Bk WD bl #[.slice A9 ((takeG pre ([], m)).1.length + 1) d9] 77 := by rw [hWD]; exact HL5.out.set 0 _
      have nd : Bk WD bn #[.int .i64 (r' : Int)] 3 := (NB.out.keepL HK5.out (nob_ty OB.out NB.out (by decide))).keepL kd (by simp [hbb.2.2])
      have od : WD.ownsRow w.heap.size 82 3 (.slice A9 ((takeG pre ([], m)).1.length + 1) d9) ((takeG pre ([], m)).1.length + 1) (pcC (takeG pre ([], m)).1 ++ [.int .i64 (x.id : Int), .int .i64 (x.f : Int), .int .i64 (tt : Int)]) := ownsRow_keepB HO5.out kd (fun k hk hm => by
        rw [List.mem_singleton] at hm; subst hm
        obtain ⟨cs, hc⟩ := own_bk HO5.out k hk
        exact HL5.out.ne hc (by decide) rfl)
      have HBW : Hid (Below w.heap.size w WD) := Lib.hid (H4.out.trans (kall.below H4.out.size (fun k hk => by
        simp only [List.mem_cons] at hk
        rcases hk with rfl | rfl | rfl | hk
        · exact Nat.le_trans HB4.out.size hbge
        · rw [HBE.out]; exact Nat.le_refl _
        · exact HBLE.out
        · rw [mem_ob] at hk; exact (H3.out.lt k hk).1)))
      have HTD : Hid (TkS w w4 bn bl (takeG (pre ++ [x]) ([], m)) WD) := Lib.hid (by
        rw [HTQ.out]
        refine ⟨_, nd, ld, ?_, HBW.out, Nat.le_trans H5.out kall.size⟩
        rw [pcC_append, List.length_append]
        exact od)
      have HKF : Hid (KeepsFrom w4.heap.size WW WD) := Lib.hid (keepsFrom_L _ kall (fun k hk => by
        simp only [List.mem_cons] at hk
        rcases hk with rfl | rfl | rfl | hk
        · exact ⟨_, _, HBX.out⟩
        · exact ⟨_, _, H1.out⟩
        · exact ⟨_, _, H2.out⟩
        · obtain ⟨cs, hc⟩ := own_bk H3.out k hk
          exact ⟨_, _, hc⟩))
      have HKP : Hid (KpS [bn] WW WD) := Lib.hid (kpS_L kall (fun k hk => by
        simp only [List.mem_cons] at hk
        rcases hk with rfl | rfl | rfl | hk
        · exact ⟨_, _, HBX.out, .inr (.inl rfl)⟩
        · exact ⟨_, _, H1.out, .inr (.inr (.inr (.inr rfl)))⟩
        · exact ⟨_, _, H2.out, .inl rfl⟩
        · obtain ⟨cs, hc⟩ := own_bk H3.out k hk
          exact ⟨_, _, hc, .inr (.inl rfl)⟩) ⟨_, H1.out⟩)
      have n5 : WD.cell? ⟨bn, 0, none⟩ = some (.int .i64 (r' : Int)) := nd.cell 0
      clear hWD kd kall ld nd od l5 lf5 b0 b1 b2 l0
      by_cases hz : r' = 0
      · have hzi : ((r' : Int) == 0) = true := by simp [hz]
        have HZ : Hid ((takeG (pre ++ [x]) ([], m)).2 = 0) := Lib.hid (by rw [HTQ.out]; exact hz)
        clear hz
        gi_wp2_with fail
        exact ⟨HKF.out, rfl, HZ.out, HTD.out⟩
      · have hzi : ((r' : Int) == 0) = false := by simpa using hz
        have HZ : Hid ((takeG (pre ++ [x]) ([], m)).2 ≠ 0) := Lib.hid (by rw [HTQ.out]; exact hz)
        clear hz
        gi_wp2_with fail
        exact ⟨HKF.out, HKP.out, HZ.out, HTD.out⟩
    case done =>
      rintro D1 WW hD ⟨hr0, v, h1, h2, h3, h4, h5⟩ hK
      have HQ3 : Hid (q = (14, [], [], d, s)) := Lib.hid (by rw [HQ2.out]; exact if_pos (by omega))
      have HTK : Hid (TkS w w4 bn bl (takeG fl ([], m)) WW) := Lib.hid ⟨v, h1, h2, h3, h4, h5⟩
      have HM : Hid (Marks8 w4.heap.size [{ target := .collected D1, args := #[] }] WW) := Lib.hid ⟨⟨D1, rfl, hD, hK, by simp⟩, trivial⟩
      generalize (takeG fl ([], m)).2 = r at *
      have c3 : WW.cell? ⟨bn, 0, none⟩ = some (.int .i64 (r : Int)) := h1.cell 0
      have hri : (0 : Int) < (r : Int) := by omega
      clear h1 h2 h3 h4 h5 hK
      go_wp2_with fail
      refine leaves8 (n₀ := w4.heap.size) (I := fun W' => TkS w w4 bn bl (takeG fl ([], m)) W') (fun W' D2 o h h0 ho hc o' => h.iter HB4.out.size (grownBy_putObj' W' D2 o') (fun r e => by cases e; exact ⟨h0, o, ho, hc⟩)) _ _ HM.out HTK.out (fun W' hs' => ?_)
      refine ⟨_, results_tmp3 rfl _ _ _, ?_⟩
      obtain ⟨v, h1, h2, h3, h4, h5⟩ := hs'
      exact TakP.none HD.out HS.out HQ3.out h4
    case stop =>
      rintro D1 c pre WW hD hpre ⟨rfl, hz, hts⟩ hK
      refine wpIn_wide.2 ?_
      have hq := takeG_pre hpre hz
      obtain ⟨v, h1, h2, h3, h4, h5⟩ := hts
      rw [hz] at h1
      rw [← hq] at h3 hz
      have hbd := takeG_bound (n := m) HGD.out
      have HPG := Lib.hid (takeG_good (keys := s.j.keys) fl ([], m) HGD.out (by simp))
      have HQ3 : Hid (q = (let c := s.commit d ((takeG fl ([], m)).1.map clmR); if c.1 ≠ 0 then (c.1, [], [], c.2.1, c.2.2) else (0, (takeG fl ([], m)).1, bitsL c.2.2.j.keys (takeG fl ([], m)).1, c.2.1, c.2.2))) := Lib.hid (by rw [HQ2.out]; exact if_neg (by omega))
      have HM : Hid (Marks8 w4.heap.size [{ target := .collected D1, args := #[] }] WW) := Lib.hid ⟨⟨D1, rfl, hD, hK, by simp⟩, trivial⟩
      clear hq hz hpre hK
      obtain ⟨ps, hps⟩ : ∃ z, z = (takeG fl ([], m)).1 := ⟨_, rfl⟩
      rw [← hps] at h3 hbd HPG HQ3
      obtain ⟨A, c, hv, hc⟩ := own_form h3
      subst hv
      have c3 : WW.cell? ⟨bn, 0, none⟩ = some (.int .i64 0) := h1.cell 0
      have c8 : WW.cell? ⟨bl, 0, none⟩ = some (.slice A ps.length c) := h2.cell 0
      have HCL := Lib.hid (claims_any (PcR.of_own h3) (by omega))
      have H2 := Lib.hid h2; have H3 := Lib.hid h3; have H4 := Lib.hid h4; have H5 := Lib.hid h5
      have HPN : Hid (ps.length ≤ 500 ∧ pcsN ps ≤ 500) := Lib.hid ⟨by omega, by omega⟩
      clear h1 h2 h3 h4 h5 hbd hps hc
      go_wp2_with fail
      refine HCL.out.mono ?_
      rintro e w6 ⟨v', rfl, hra, hb6⟩
      have HB6 := Lib.hid (bnextK H4.out hb6); have HL6 := Lib.hid hb6
      have HRA := Lib.hid hra
      have HD6 := Lib.hid (HD.out.far HB6.out); have HS6 := Lib.hid (HS.out.far HB6.out)
      have HCM := Lib.hid (commit_any HD6.out HS6.out HU.out.u HAL.out (ps.map clmR) v' [] HRA.out (fun y hy => by
        obtain ⟨x, hx, rfl⟩ := List.mem_map.1 hy
        exact clm_good HU.out.w (HPG.out x hx) s.epoch HU.out.e HS.out.ok.epoch) (by rw [List.length_map]; have := HPN.out; omega))
      have hcc := commit_claim d s (ps.map clmR) (fun y hy => by obtain ⟨x, hx, rfl⟩ := List.mem_map.1 hy; rfl)
      obtain ⟨A2, c2, hv2, _⟩ := hra
      have HCC := Lib.hid hcc
      rw [List.length_map] at hv2
      rw [hv2] at HCM ⊢
      clear hb6 hv2 hcc HCL
      go_wp2_with fail
      refine HCM.out.mono ?_
      rintro e w7 ⟨rfl, hsy⟩
      clear HCM
      have hkk := hsy.k
      have HNB : Hid (∀ b cs t, Bk w6 b cs t → t ≠ 96 ∧ t ≠ 101 ∧ t ≠ 103 ∧ t ≠ 120 ∧ t ≠ 117 ∧ t ≠ 121 ∧ t ≠ 123 ∧ t ≠ 4 → Bk w7 b cs t) := Lib.hid (hsy.bk HD6.out HS6.out)
      have HO7 : Hid (w7.ownsRow w.heap.size 82 3 (.slice A ps.length c) ps.length (pcC ps)) := Lib.hid (by
        have h := ownsRow_past8 H3.out HL6.out
        refine ⟨h.1, ?_⟩
        rcases h.2 with g1 | ⟨g, cap, cur, g1, g2, g3, g4⟩
        · exact .inl g1
        · exact .inr ⟨g, cap, cur, g1, g2, HNB.out g cur _ g3 (by decide), g4⟩)
      have HL7 : Hid (Bk w7 bl #[.slice A ps.length c] 77) := Lib.hid (HNB.out _ _ _ (H2.out.past HL6.out H2.out.lt) (by decide))
      have HBM : Hid (bm < w.heap.size) := Lib.hid (by obtain ⟨l, hl⟩ := HD.out.cch; exact hl.lt)
      have HM7 : Hid (Marks8 w4.heap.size [{ target := .collected D1, args := #[] }] w7) := Lib.hid (by
        refine Marks8.keepF (B := w.heap.size) HB4.out.size (W := w6) ⟨hkk.size, fun k o h1 h2 _ => (hkk.block k (Array.getElem?_eq_some_iff.1 h2).1 (fun hm => ?_)).trans h2⟩ (HM.out.keep (fun k o h1 _ => (HL6.out.block k (Array.getElem?_eq_some_iff.1 h1).1).trans h1))
        rcases List.mem_append.1 hm with hm | hm
        · have := HD.out.fpLt k hm; omega
        · have := HS.out.lt.1 k hm; omega)
      have HSY : Hid (SysM w w7 D S bs bm cp p F B [] (s.commit d (ps.map clmR)).2.1 (s.commit d (ps.map clmR)).2.2) := Lib.hid (SysM.news HB6.out hsy (by simp) (NewP.refl _ _))
      obtain ⟨cr, hcr⟩ : ∃ z, z = (s.commit d (ps.map clmR)).1 := ⟨_, rfl⟩
      have HCR := Lib.hid hcr
      rw [← hcr]
      have HS7 : Hid (w.heap.size ≤ w7.heap.size) := Lib.hid (Nat.le_trans HB6.out.size hkk.size)
      have l7 : w7.cell? ⟨bl, 0, none⟩ = some (.slice A ps.length c) := HL7.out.cell 0
      clear hsy hkk hcr c3 c8
      by_cases hz : cr = 0
      · have hzi : (cr != 0) = false := by simp [hz]
        have HQ4 : Hid (q = (0, ps, bitsL (s.commit d (ps.map clmR)).2.2.j.keys ps, (s.commit d (ps.map clmR)).2.1, (s.commit d (ps.map clmR)).2.2)) := Lib.hid (by rw [HQ3.out]; exact if_neg (by rw [← HCR.out]; simpa using hz))
        obtain ⟨_, ⟨F7, B7, hs7, _, _⟩, _⟩ := HSY.out
        obtain ⟨T7, kv7, xs7, tb7, tc7, hst7, _, _⟩ := hs7
        have HBT := Lib.hid (bits_any (hst7.far (below_drew8 w7 _)) ((PcR.of_own HO7.out).far (below_drew8 w7 _)) (by have := HPN.out; omega) (by rw [bitsL_len HU.out.w HCC.out HPG.out]; have := HPN.out; omega) (fun x hx => (HPG.out x hx).bits HU.out.w HCC.out))
        clear hz hst7
        generalize bitsL (s.commit d (ps.map clmR)).2.2.j.keys ps = bl8 at HQ4 HBT
        go_upto_region 18 with fail
        refine wp_region_noPanic ?_
        refine wp_region_held_drew (S := (fun W => W.cell? ⟨bl, 0, none⟩ = some (.slice A ps.length c))) (by kernel_rfl) ?_ (fun hHeld => ?_)
        · (try dsimp only); first | exact l7 | exact l8
        refine wpAnyH_take (i := 0) (oi := ⟨some 59, _, _, _, _, _⟩) (v := ?_) rfl (by kernel_rfl) (by kernel_rfl) (by kernel_rfl) (fun _ _ _ h => h) (Or.inl ⟨by rfl, ?_⟩) (by assumption) ?_; rotate_left
        · intro w hSw; (try dsimp only at hSw); go_simp; try with_reducible rfl
        try simp only [Act.put, setIfInBounds_toArray, set_cons_zero, set_cons_succ]
        refine wpAnyH_take (i := 1) (oi := ⟨some 60, _, _, _, _, _⟩) (v := ?_) rfl (by kernel_rfl) (by kernel_rfl) (by kernel_rfl) (fun _ _ _ h => h) (Or.inl ⟨by rfl, ?_⟩) (by assumption) ?_; rotate_left
        · intro w hSw; (try dsimp only at hSw); go_simp; try with_reducible rfl
        try simp only [Act.put, setIfInBounds_toArray, set_cons_zero, set_cons_succ]
        refine wpAnyH_take (i := 2) (oi := ⟨some 61, _, _, _, _, _⟩) (v := ?_) rfl (by kernel_rfl) (by kernel_rfl) (by kernel_rfl) (fun _ _ _ h => h) (Or.inl ⟨by rfl, ?_⟩) (by assumption) ?_; rotate_left
        · intro w hSw; (try dsimp only at hSw); go_simp; try with_reducible rfl
        try simp only [Act.put, setIfInBounds_toArray, set_cons_zero, set_cons_succ]
        refine wpAnyH_ready (rs := [3]) (by kernel_rfl) (by simp) ?_
        refine AllReadyH.cons (o := ⟨some 62, _, _, _, _, _⟩) rfl (fun K hK => ?_) AllReadyH.nil
        go_simp
        refine HBT.out.mono ?_
        rintro e' w8 ⟨bv, rfl, hob, hb8⟩
        obtain ⟨A8, c8, rfl, _⟩ := own_form hob
        have HOB := Lib.hid hob; have HB8 := Lib.hid ((below_drew8 w7 w7.heap.size).trans (hb8.mono (below_drew8 w7 w7.heap.size).size))
        have l8 : w8.cell? ⟨bl, 0, none⟩ = some (.slice A ps.length c) := (HB8.out.cell (p := ⟨bl, 0, none⟩) HL7.out.lt).trans l7
        clear hob hb8
        go_wp2_with fail
        refine hK.out _ _ ?_ (fun hHeld => ?_)
        · (try dsimp only); first | exact l7 | exact l8
        clear hK K
        try simp only [Act.put, setIfInBounds_toArray, set_cons_zero, set_cons_succ]
        refine wpAnyH_take (i := 4) (oi := ⟨some 4, _, _, _, _, _⟩) (v := ?_) rfl (by kernel_rfl) (by kernel_rfl) (by kernel_rfl) (fun _ _ _ h => h) (Or.inl ⟨by rfl, ?_⟩) (by assumption) ?_; rotate_left
        · intro w hSw; (try dsimp only at hSw); go_simp; try with_reducible rfl
        try simp only [Act.put, setIfInBounds_toArray, set_cons_zero, set_cons_succ]
        refine wpAnyH_take (i := 5) (oi := ⟨some 5, _, _, _, _, _⟩) (v := ?_) rfl (by kernel_rfl) (by kernel_rfl) (by kernel_rfl) (fun _ _ _ h => h) (Or.inl ⟨by rfl, ?_⟩) (by assumption) ?_; rotate_left
        · intro w hSw; (try dsimp only at hSw); go_simp; try with_reducible rfl
        try simp only [Act.put, setIfInBounds_toArray, set_cons_zero, set_cons_succ]
        refine wpAnyH_take (i := 6) (oi := ⟨some 6, _, _, _, _, _⟩) (v := ?_) rfl (by kernel_rfl) (by kernel_rfl) (by kernel_rfl) (fun _ _ _ h => h) (Or.inl ⟨by rfl, ?_⟩) (by assumption) ?_; rotate_left
        · intro w hSw; (try dsimp only at hSw); go_simp; try with_reducible rfl
        try simp only [Act.put, setIfInBounds_toArray, set_cons_zero, set_cons_succ]
        refine wpAnyH_done (by kernel_rfl) ?_ _
        refine NoPanic.normal ?_
        have HT : Hid (TakP D S bs bm cp p F B q w (.returned (.tuple #[.slice A ps.length c, .slice A8 bl8.length c8, .int .i64 0])) w8) := Lib.hid (by
          rw [HQ4.out]
          exact ⟨_, _, rfl, ownsRow_past8 HO7.out HB8.out, ownsRow_mono HOB.out (Nat.le_trans HS7.out (below_drew8 w7 w7.heap.size).size), HSY.out.below HB8.out⟩)
        have HM8 : Hid (Marks8 w4.heap.size [{ target := .collected D1, args := #[] }] w8) := Lib.hid (HM7.out.keep (fun k o h1 _ => (HB8.out.block k (Array.getElem?_eq_some_iff.1 h1).1).trans h1))
        go_wp2_with fail
        refine leaves8 (n₀ := w4.heap.size) (I := fun W' => TakP D S bs bm cp p F B q w (.returned (.tuple #[.slice A ps.length c, .slice A8 bl8.length c8, .int .i64 0])) W') (fun W' D2 o h h0 ho hc o' => h.iter HBM.out (grownBy_putObj' W' D2 o') (fun r e => by cases e; exact ⟨Nat.le_trans HB4.out.size h0, o, ho, hc⟩)) _ _ HM8.out HT.out (fun W' hs' => ?_)
        refine ⟨_, results_tmp3 rfl _ _ _, ?_⟩
        exact hs'
      · have hzi : (cr != 0) = true := by simpa using hz
        have HQ4 : Hid (q = (cr, [], [], (s.commit d (ps.map clmR)).2.1, (s.commit d (ps.map clmR)).2.2)) := Lib.hid (by rw [HQ3.out, HCR.out]; exact if_pos (by rw [← HCR.out]; exact hz))
        have HT : Hid (TakP D S bs bm cp p F B q w (.returned (.tuple #[.slice none 0 0, .slice none 0 0, .int .i64 cr])) w7) := Lib.hid (by rw [HQ4.out]; exact ⟨_, _, rfl, World.ownsRow_nil _ _ _ _, World.ownsRow_nil _ _ _ _, HSY.out⟩)
        clear hz
        go_wp2_with fail
        refine leaves8 (n₀ := w4.heap.size) (I := fun W' => TakP D S bs bm cp p F B q w (.returned (.tuple #[.slice none 0 0, .slice none 0 0, .int .i64 cr])) W') (fun W' D2 o h h0 ho hc o' => h.iter HBM.out (grownBy_putObj' W' D2 o') (fun r e => by cases e; exact ⟨Nat.le_trans HB4.out.size h0, o, ho, hc⟩)) _ _ HM7.out HT.out (fun W' hs' => ?_)
        refine ⟨_, results_tmp3 rfl _ _ _, ?_⟩
        exact hs'
    -- RANGE>
  · rw [if_neg he] at HC
    have HQ1 : Hid (q = (13, [], [], d, s)) := Lib.hid (by rw [HQ.out]; unfold StM.takeR; rw [if_pos he])
    clear hd hs hq hu he hbn
    go_enter Tryz.func34, Tryz.ntmps34
    go_upto_region 1 with fail
    rw [← hw1, ← hbn2]
    clear hw1 hb1 hbn2
    go_wp2_with fail
    refine HC.out.mono ?_
    rintro e w2 ⟨rfl, hqw⟩
    have HB2 := Lib.hid (bnextK HB1.out (hqw.below _))
    clear hqw HC
    go_wp2_with fail
    refine bodyPost_ret (results_tmp3 rfl _ _ _) rfl ?_
    exact TakP.none HD.out HS.out HQ1.out HB2.out
end
end Go.Proofs.YtdgmjedkhjeadaaGreat
namespace Go.Proofs.YtdgmjedkhjeadaaGreat
open List (setIfInBounds_toArray set_cons_zero set_cons_succ)
open Go.RowKit
set_option linter.unusedVariables false
def rdyR (side : Nat) : Rc := ⟨0, 5, 0, side, 0, []⟩
/-- The store that Open makes of what it reads. -/
def Dk.first (d : Dk) : StM :=
  if (d.journal 1).ready = true ∧ ((d.journal 0).ready = false ∨ (d.journal 0).age < (d.journal 1).age) then ⟨0, 1, d.greatest + 1, d.journal 1⟩ else ⟨0, 0, d.greatest + 1, d.journal 0⟩
/-- What is done to a disk that has no ready area. -/
def Dk.begin8 (d : Dk) (side : Nat) : Bool × Dk × StM := StM.commitW { d with age := d.age + 1 } ⟨d.age + 1, 0, d.greatest + 1, Jn.zero 0⟩ [rdyR side]
def Dk.openR (d : Dk) (side : Int) : Int × Dk × Option StM :=
  if side ≠ 0 ∧ side ≠ 1 then (2, d, none)
  else if d.down = true then (13, d, none)
  else if d.greatest = 4294967295 then (8, d, none)
  else if d.first.j.ready = true ∧ (d.first.j.side : Int) ≠ side then (11, d, none)
  else if d.first.j.ready = true then (0, { d with age := d.age + 1 }, some { d.first with age := d.age + 1 })
  else if (d.begin8 side.toNat).1 = true then (13, (d.begin8 side.toNat).2.1, none) else (0, (d.begin8 side.toNat).2.1, some (d.begin8 side.toNat).2.2)
theorem rdyV (side : Nat) : recV (rdyR side) none 0 = .agg #[.int .i64 0, .int .i64 5, .int .i64 0, .int .i64 (side : Int), .int .i64 0, .slice none 0 0] := rfl
theorem rdy_good (side e : Nat) (h : side ≤ 1) (h1 : 1 ≤ e) (h2 : e < 4294967296) : RcG ((rdyR side).at' e) := ⟨h1, h2, by simp [rdyR, Rc.at'], by simp [rdyR, Rc.at'], .inr (.inr (.inr (.inr ⟨rfl, h, rfl, rfl⟩)))⟩
section
variable {w w' : World} {S D : Nat} {d : Dk} {s : StM} {bs bm cp : Nat} {p : Option Addr} {T : Nat} {kv : Value} {xs : List KB} {tb : Option Addr} {tc : Nat}
set_option maxRecDepth 100000 in
set_option maxHeartbeats 2000000 in
theorem open1_rdy (hd : DkAt w D d bs bm cp p) (hst : StAt w S D s T kv xs tb tc) (hr : s.j.ready = true) {b7 b3 b2 : Nat} (h7 : Bk w b7 #[.pointer (some ⟨S, 0, none⟩)] 52) :
    Calls Tryz.prog 73 #[.pointer (some ⟨b7, 0, none⟩), .pointer (some ⟨b3, 0, none⟩), .pointer (some ⟨b2, 0, none⟩)] w (ComR D S bs bm cp p (S :: fpJ T kv xs) (obT tb) [] (false, d, s) w) := by
  have c0 : w.cell? ⟨b7, 0, none⟩ = some (.pointer (some ⟨S, 0, none⟩)) := h7.cell 0
  have c4 : w.cell? ⟨S, 4, none⟩ = some (.pointer (some ⟨T, 0, none⟩)) := hst.blk.cell 4
  have t2 : w.cell? ⟨T, 2, none⟩ = some (.bool true) := by rw [hst.js.blk.cell, ← hr]; rfl
  have HD := Lib.hid hd; have HST := Lib.hid hst
  clear hd hst hr h7
  go_enter Tryz.func73, Tryz.ntmps73
  go_wp2_with fail
  go_ret
  exact ⟨fun h => Bool.noConfusion h, fun _ => rfl, SysM.refl HD.out ⟨T, kv, xs, tb, tc, HST.out, rfl, rfl⟩ [] (Below.refl _ _), fun b cs t h _ => h⟩
set_option maxRecDepth 100000 in
set_option maxHeartbeats 2000000 in
theorem open1_new (hd : DkAt w D d bs bm cp p) (hst : StAt w S D s T kv xs tb tc) (hr : s.j.ready = false) (ha : AgeOK d) (side : Nat) (hsd : side ≤ 1) (he : 1 ≤ s.epoch) {b7 b3 b2 : Nat} (h7 : Bk w b7 #[.pointer (some ⟨S, 0, none⟩)] 52)
    (h3 : Bk w b3 #[.int .i64 (side : Int)] 3) (h2 : Bk w b2 #[.pointer (some ⟨D, 0, none⟩)] 24) :
    Calls Tryz.prog 73 #[.pointer (some ⟨b7, 0, none⟩), .pointer (some ⟨b3, 0, none⟩), .pointer (some ⟨b2, 0, none⟩)] w (ComR D S bs bm cp p (S :: fpJ T kv xs) (obT tb) [] (StM.commitW d ⟨s.age, 0, s.epoch, Jn.zero 0⟩ [rdyR side]) w) := by
  have c0 : w.cell? ⟨b7, 0, none⟩ = some (.pointer (some ⟨S, 0, none⟩)) := h7.cell 0
  have c4 : w.cell? ⟨S, 4, none⟩ = some (.pointer (some ⟨T, 0, none⟩)) := hst.blk.cell 4
  have c2 : w.cell? ⟨S, 2, none⟩ = some (.int .i64 (s.area : Int)) := hst.blk.cell 2
  have f2 := hst.blk.froz 2; have f4 := hst.blk.froz 4
  have t2 : w.cell? ⟨T, 2, none⟩ = some (.bool false) := by rw [hst.js.blk.cell, ← hr]; rfl
  have d3 : w.cell? ⟨b3, 0, none⟩ = some (.int .i64 (side : Int)) := h3.cell 0
  have d2 : w.cell? ⟨b2, 0, none⟩ = some (.pointer (some ⟨D, 0, none⟩)) := h2.cell 0
  have hS := hst.blk.lt
  have HD := Lib.hid hd; have HST := Lib.hid hst; have H7 := Lib.hid h7; have H3 := Lib.hid h3; have H2 := Lib.hid h2; have HA := Lib.hid ha
  clear hd hst hr h7 h3 h2 ha
  go_enter Tryz.func73, Tryz.ntmps73
  go_upto_region 3 with fail
  obtain ⟨W2, hW2⟩ : ∃ z, z = (((w.setCell ⟨S, 2, none⟩ (.int .i64 0)).setCell ⟨S, 4, none⟩ (.pointer (some ⟨w.heap.size, 0, none⟩))).alloc (.cells #[.slice none 0 0, .int .i64 0, .bool false, .int .i64 0, .int .i64 0, .int .i64 0, .int .i64 0, .int .i64 0, .int .i64 0, .int .i64 0, .int .i64 0, .slice none 0 0] 117)) := ⟨_, rfl⟩
  obtain ⟨W1, hW1⟩ : ∃ z, z = (w.setCell ⟨S, 2, none⟩ (.int .i64 0)).setCell ⟨S, 4, none⟩ (.pointer (some ⟨w.heap.size, 0, none⟩)) := ⟨_, rfl⟩
  rw [← hW2]
  rw [← hW1] at hW2
  have k1 : KeepL [S] w W1 := by rw [hW1]; exact (KeepL.set _ _ _ _).trans (KeepL.set _ _ _ _)
  have s1 : W1.heap.size = w.heap.size := by rw [hW1, size_setCell, size_setCell]
  have b1 : Bk W1 S #[.pointer (some ⟨D, 0, none⟩), .int .i64 s.age, .int .i64 0, .int .i64 (s.epoch : Int), .pointer (some ⟨w.heap.size, 0, none⟩)] 120 := by rw [hW1]; exact (HST.out.blk.set 2 (.int .i64 0)).set 4 (.pointer (some ⟨w.heap.size, 0, none⟩))
  have hb2 : Below W1.heap.size W1 W2 := by rw [hW2]; exact balloc _ _
  have t2 : Bk W2 w.heap.size (stC (.slice none 0 0) (Jn.zero 0) none 0) 117 := by rw [hW2, ← s1]; exact Bk.new _ _ _
  have hk2 : KeepL [S] w W2 := k1.trans (.of_below hb2)
  have HST2 : Hid (StAt W2 S D ⟨s.age, 0, s.epoch, Jn.zero 0⟩ w.heap.size (.slice none 0 0) [] none 0) := Lib.hid
    ⟨b1.past hb2 b1.lt, ⟨⟨by simp [Jn.zero], by simp [Jn.zero], rc0_ok, by show 0 < _; omega⟩, t2, World.ownsRow_nil _ _ _ _, fun i x k hx => by simp at hx, World.ownsRow_nil _ _ _ _, by simp⟩, ⟨by show 0 ≤ 1; omega, HST.out.ok.epoch, JrI.zero 0⟩⟩
  have HS2 : Hid (StIn W2 S D ⟨s.age, 0, s.epoch, Jn.zero 0⟩ (S :: fpJ w.heap.size (.slice none 0 0) []) (obT none)) := Lib.hid ⟨_, _, _, _, _, HST2.out, rfl, rfl⟩
  have HD2 : Hid (DkAt W2 D d bs bm cp p) := Lib.hid (HD.out.keepT hk2 fun b hb => by
    rw [List.mem_singleton] at hb; subst hb
    exact ⟨_, _, HST.out.blk, by decide, by decide, by decide, by decide⟩)
  have HK2 := Lib.hid hk2
  have e7 : W2.cell? ⟨b7, 0, none⟩ = some (.pointer (some ⟨S, 0, none⟩)) := by rw [(H7.out.keepL hk2 (by simp only [List.mem_singleton]; exact H7.out.ne HST.out.blk (by decide))).cell]; rfl
  have e3 : W2.cell? ⟨b3, 0, none⟩ = some (.int .i64 (side : Int)) := by rw [(H3.out.keepL hk2 (by simp only [List.mem_singleton]; exact H3.out.ne HST.out.blk (by decide))).cell]; rfl
  have hb2k := H2.out.keepL hk2 (by simp only [List.mem_singleton]; exact H2.out.ne HST.out.blk (by decide))
  have HB2K := Lib.hid hb2k
  have hX : ∀ k ∈ obT (none : Option Addr), k ∈ ([] : List Nat) := fun k hk => by simp [obT, ob, Value.ownBlock] at hk
  have HWR := Lib.hid (swrite_any HD2.out HS2.out (rdyR side) none 0 (World.ownsRow_nil _ _ _ _) ⟨HA.out, rdy_good side _ hsd he HST.out.ok.epoch, by show 0 < _; have := HD.out.ok.n2; omega⟩ [] hX)
  rw [rdyV] at HWR
  have HTR : Hid (∀ w3 d' s', SysM W2 w3 D S bs bm cp p (S :: fpJ w.heap.size (.slice none 0 0) []) (obT none) [] d' s' → SysM w w3 D S bs bm cp p (S :: fpJ T kv xs) (obT tb) [] d' s' ∧ ∀ b cs t, Bk w b cs t → t ≠ 96 ∧ t ≠ 101 ∧ t ≠ 103 ∧ t ≠ 120 ∧ t ≠ 117 ∧ t ≠ 121 ∧ t ≠ 123 ∧ t ≠ 4 → Bk w3 b cs t) := Lib.hid fun w3 d' s' h =>
    ⟨SysM.trans (NewP.refl w p) (fun k hk => by
        simp only [fpJ, ob, Value.ownBlock, List.mem_cons, List.flatMap_nil, List.append_nil, Option.toList_none, List.not_mem_nil, or_false] at hk
        rcases hk with rfl | rfl
        · exact .inl (by simp)
        · exact .inr (Nat.le_refl _)) (fun k hk => by simp [obT, ob, Value.ownBlock] at hk) (HK2.out.sub (by simp)) h (fun k hk => .inl hk),
      fun b cs t hb ht => h.bk HD2.out HS2.out b cs t (hb.keepL HK2.out (by simp only [List.mem_singleton]; exact hb.ne HST.out.blk ht.2.2.2.1)) ht⟩
  clear hW1 hW2 k1 s1 b1 hb2 t2 hk2 hb2k hX c0 c4 c2 f2 f4 d3 d2
  obtain ⟨s0, hs0⟩ : ∃ z : StM, z = ⟨s.age, 0, s.epoch, Jn.zero 0⟩ := ⟨_, rfl⟩
  rw [← hs0] at HWR
  have HS0 := Lib.hid hs0
  clear hs0
  go_wp2_with fail
  refine HWR.out.mono ?_
  rintro e w3 ⟨hbad, hok, hsy3⟩
  have HSY3 := Lib.hid hsy3
  cases hq : (s0.write d (rdyR side)).1 with
  | true =>
    have he := hbad hq
    subst he
    have HF : Hid (s0.commitW d [rdyR side] = s0.write d (rdyR side)) := Lib.hid (by
      have : StM.writes d s0 [rdyR side] = s0.write d (rdyR side) := by rw [StM.writes, if_pos hq]
      unfold StM.commitW
      rw [this, if_pos hq])
    have HQ := Lib.hid hq
    clear hq hbad hok hsy3
    go_wp2_with fail
    refine ⟨rfl, ?_⟩
    unfold ComR
    rw [← HS0.out, HF.out]
    exact ⟨fun _ => rfl, fun h => Bool.noConfusion (HQ.out.symm.trans h), (HTR.out _ _ _ HSY3.out).1, (HTR.out _ _ _ HSY3.out).2⟩
  | false =>
    have he := hok hq
    subst he
    have hwf := write_false hq
    have HF : Hid (s0.commitW d [rdyR side] = (decide ((s0.write d (rdyR side)).2.1.syncR.1 ≠ 0), (s0.write d (rdyR side)).2.1.syncR.2, (s0.write d (rdyR side)).2.2)) := Lib.hid (by
      have : StM.writes d s0 [rdyR side] = (false, (s0.write d (rdyR side)).2.1, (s0.write d (rdyR side)).2.2) := by
        rw [StM.writes, if_neg (by rw [hq]; simp)]; rfl
      unfold StM.commitW
      rw [this, if_neg (by simp)])
    obtain ⟨p1, q1, q2⟩ := hsy3.d
    obtain ⟨F1, B1, q3, q4, q5⟩ := hsy3.s
    have hkk := hsy3.bk HD2.out HS2.out
    have g2 : w3.cell? ⟨b2, 0, none⟩ = some (.pointer (some ⟨D, 0, none⟩)) := by rw [(hkk _ _ _ HB2K.out (by decide)).cell]; rfl
    generalize (s0.write d (rdyR side)).2.1 = d1 at *
    generalize (s0.write d (rdyR side)).2.2 = s1 at *
    have HSYN := Lib.hid (sync_any q1 (⟨by rw [hwf.1]; exact HA.out.1, by rw [hwf.1]; exact HA.out.2⟩ : AgeOK d1))
    have HTR2 : Hid (∀ w4 d', DkMut w3 w4 D bs bm cp p1 d' → SysM W2 w4 D S bs bm cp p (S :: fpJ w.heap.size (.slice none 0 0) []) (obT none) [] d' s1) := Lib.hid fun w4 d' h =>
      SysM.trans q2 q4 q5 hsy3.k (SysM.ofDisk q1 q3 h []) (fun k hk => .inl hk)
    have hv : d1.syncR.1 = 0 ∨ d1.syncR.1 = 13 := by
      unfold Dk.syncR
      split
      · exact .inr rfl
      · dsimp only; split
        · exact .inr rfl
        · exact .inl rfl
    clear hsy3 hq hbad hok q1 q2 q3 q4 q5 hkk HSY3 hwf HWR
    go_wp2_with fail
    refine HSYN.out.mono ?_
    rintro e w4 ⟨rfl, hm4⟩
    have HM4 := Lib.hid (HTR.out _ _ _ (HTR2.out _ _ hm4))
    clear hm4 HSYN HTR HTR2
    rcases hv with hv | hv
    · rw [hv]
      have HQ : Hid (s0.commitW d [rdyR side] = (false, d1.syncR.2, s1)) := Lib.hid (by rw [HF.out, hv]; rfl)
      clear hv
      go_wp2_with fail
      refine (must_ok _).mono ?_
      rintro e w5 ⟨rfl, rfl⟩
      go_wp2_with fail
      go_ret
      unfold ComR
      rw [← HS0.out, HQ.out]
      exact ⟨fun h => Bool.noConfusion h, fun _ => rfl, HM4.out.1, HM4.out.2⟩
    · rw [hv]
      have HQ : Hid (s0.commitW d [rdyR side] = (true, d1.syncR.2, s1)) := Lib.hid (by rw [HF.out, hv]; rfl)
      clear hv
      go_wp2_with fail
      refine (must_bad _).mono ?_
      rintro e w5 ⟨rfl, rfl⟩
      go_wp2_with fail
      refine ⟨rfl, ?_⟩
      unfold ComR
      rw [← HS0.out, HQ.out]
      exact ⟨fun _ => rfl, fun h => Bool.noConfusion h, HM4.out.1, HM4.out.2⟩
end
end Go.Proofs.YtdgmjedkhjeadaaGreat
namespace Go.Proofs.YtdgmjedkhjeadaaGreat
open List (setIfInBounds_toArray set_cons_zero set_cons_succ)
open Go.RowKit
set_option linter.unusedVariables false
def OpnP (D bs bm cp : Nat) (p : Option Addr) (q : Int × Dk × Option StM) (w : World) (e : Ending) (w' : World) : Prop :=
  (∃ p', DkAt w' D q.2.1 bs bm cp p' ∧ NewP w p p') ∧ KeepL (fpL D bs bm p) w w' ∧
  ((q.2.2 = none ∧ e = .returned (.tuple #[.pointer none, .int .i64 q.1])) ∨
   ∃ s S F B, q.2.2 = some s ∧ e = .returned (.tuple #[.pointer (some ⟨S, 0, none⟩), .int .i64 q.1]) ∧ StIn w' S D s F B ∧ (∀ k ∈ F, w.heap.size ≤ k) ∧ ∀ k ∈ B, w.heap.size ≤ k)
section
variable {w w' : World} {D : Nat} {d : Dk} {bs bm cp : Nat} {p : Option Addr}
theorem OpnP.no {q : Int × Dk × Option StM} {z : Int} (hd : DkAt w D d bs bm cp p) (hq : q = (z, d, none)) (hb : Below w.heap.size w w') : OpnP D bs bm cp p q w (.returned (.tuple #[.pointer none, .int .i64 z])) w' := by
  subst hq
  exact ⟨⟨p, hd.far hb, .refl _ _⟩, .of_below hb, .inl ⟨rfl, rfl⟩⟩
/-- The new blocks of Open. -/
structure OpA (w : World) (D b2 b3 : Nat) (side : Int) (W : World) : Prop where
  b2 : Bk W b2 #[.pointer (some ⟨D, 0, none⟩)] 24
  b3 : Bk W b3 #[.int .i64 side] 3
  b : Below w.heap.size w W
theorem OpA.far {b2 b3 : Nat} {side : Int} {W W' : World} (h : OpA w D b2 b3 side W) (hb : Below W.heap.size W W') : OpA w D b2 b3 side W' := ⟨h.b2.past hb h.b2.lt, h.b3.past hb h.b3.lt, bnextK h.b hb⟩
/-- The new store of Open. -/
def OpS (w : World) (D b2 b3 : Nat) (side : Int) (b7 S : Nat) (s : StM) (W : World) : Prop :=
  OpA w D b2 b3 side W ∧ Bk W b7 #[.pointer (some ⟨S, 0, none⟩)] 52 ∧ w.heap.size ≤ S ∧ w.heap.size ≤ b7 ∧ ∃ T kv xs tb tc, StAt W S D s T kv xs tb tc ∧ (∀ k ∈ fpJ T kv xs, w.heap.size ≤ k) ∧ ∀ k ∈ obT tb, w.heap.size ≤ k
theorem OpS.far {b2 b3 b7 S : Nat} {side : Int} {s : StM} {W W' : World} (h : OpS w D b2 b3 side b7 S s W) (hb : Below W.heap.size W W') : OpS w D b2 b3 side b7 S s W' := by
  obtain ⟨h1, h2, h3, h4, T, kv, xs, tb, tc, h5, h6, h7⟩ := h
  exact ⟨h1.far hb, h2.past hb h2.lt, h3, h4, T, kv, xs, tb, tc, h5.far hb, h6, h7⟩
theorem bkA {W : World} {o : Obj} {b : Nat} {cs : Array Value} {t : TypeId} (h : Bk W b cs t) : Bk (W.alloc o) b cs t := h.past (balloc W o) h.lt
theorem bkD {W : World} {b : Nat} {cs : Array Value} {t : TypeId} (h : Bk W b cs t) : Bk W.drew b cs t := h.past (below_drew8 W W.heap.size) h.lt
theorem bkN (W : World) (o : Obj) (cs : Array Value) (t : TypeId) : Bk ((W.alloc o).alloc (.cells cs t)) (W.heap.size + 1) cs t := by
  have := Bk.new (W.alloc o) cs t
  rw [World.size_alloc] at this
  exact this
theorem bkNs (W : World) (a : Addr) (u : Value) (cs : Array Value) (t : TypeId) : Bk ((W.setCell a u).alloc (.cells cs t)) W.heap.size cs t := by
  have := Bk.new (W.setCell a u) cs t
  rw [size_setCell] at this
  exact this
theorem opn_end {b2 b3 : Nat} {w3 w4 W : World} {T gr : Nat} {kv : Value} {xs : List KB} {tb : Option Addr} {tc : Nat} {side : Int} {j : Jn} {L : List Nat} (h3 : OpA w D b2 b3 side w3) (hb4 : Below w3.heap.size w3 w4) (hj : JnAt w4 T j kv xs tb tc) (hr : JrI j) (hf : ∀ k ∈ fpJ T kv xs, w3.heap.size ≤ k) (ho : ∀ k ∈ obT tb, w3.heap.size ≤ k) (hg : gr + 1 < 4294967296)
    (hbW : KeepL L w4 W) (hL : ∀ b ∈ L, ∃ cs, Bk w4 b cs 52 ∧ w3.heap.size ≤ b) {b7 S : Nat} (hb7 : Bk W b7 #[.pointer (some ⟨S, 0, none⟩)] 52) (hS : Bk W S #[.pointer (some ⟨D, 0, none⟩), .int .i64 0, .int .i64 0, .int .i64 ((gr : Int) + 1), .pointer (some ⟨T, 0, none⟩)] 120) (h7 : w3.heap.size ≤ b7) (hSz : w3.heap.size ≤ S) :
    OpS w D b2 b3 side b7 S ⟨0, 0, gr + 1, j⟩ W := by
  have hs := h3.b.size
  have h4 := h3.far hb4
  have hno : ∀ b cs t, Bk w4 b cs t → t ≠ 52 → b ∉ L := fun b cs t hb ht hm => by
    obtain ⟨cs', h1, _⟩ := hL b hm
    exact hb.ne h1 ht rfl
  refine ⟨⟨h4.b2.keepL hbW (hno _ _ _ h4.b2 (by decide)), h4.b3.keepL hbW (hno _ _ _ h4.b3 (by decide)), h4.b.trans (hbW.below h4.b.size (fun k hk => by obtain ⟨_, _, h⟩ := hL k hk; omega))⟩, hb7, by omega, by omega, T, kv, xs, tb, tc, ⟨hS, hj.keepL hbW (fun k hk => ?_) (fun k hk => ?_), ⟨by show 0 ≤ 1; omega, hg, hr⟩⟩, fun k hk => Nat.le_trans hs (hf k hk), fun k hk => Nat.le_trans hs (ho k hk)⟩
  · obtain ⟨cs, t, h1, h2⟩ := hj.fpT k hk
    exact hno _ _ _ h1 (by rcases h2 with rfl | rfl | rfl | rfl <;> decide)
  · obtain ⟨cs, h1⟩ := own_bk hj.tail k (by rw [ob_tb]; exact hk)
    exact hno _ _ _ h1 (by decide)
theorem opn_sw {b2 b3 : Nat} {w5 W : World} {T T1 gr b7 S : Nat} {kv kv1 : Value} {xs xs1 : List KB} {tb tb1 : Option Addr} {tc tc1 : Nat} {side : Int} {s : StM} {j : Jn} (h : OpS w D b2 b3 side b7 S s w5) (hst : StAt w5 S D s T kv xs tb tc) (hj : JnAt w5 T1 j kv1 xs1 tb1 tc1) (hr : JrI j) (hf : ∀ k ∈ fpJ T1 kv1 xs1, w.heap.size ≤ k) (ho : ∀ k ∈ obT tb1, w.heap.size ≤ k) (hg : gr + 1 < 4294967296)
    (hk : KeepL [S] w5 W) (hS : Bk W S #[.pointer (some ⟨D, 0, none⟩), .int .i64 0, .int .i64 1, .int .i64 ((gr : Int) + 1), .pointer (some ⟨T1, 0, none⟩)] 120) : OpS w D b2 b3 side b7 S ⟨0, 1, gr + 1, j⟩ W := by
  obtain ⟨h1, h2, h3, h4, _⟩ := h
  have hno : ∀ b cs t, Bk w5 b cs t → t ≠ 120 → b ∉ [S] := fun b cs t hb ht => by
    simp only [List.mem_singleton]
    exact hb.ne hst.blk ht
  refine ⟨⟨h1.b2.keepL hk (hno _ _ _ h1.b2 (by decide)), h1.b3.keepL hk (hno _ _ _ h1.b3 (by decide)), h1.b.trans (hk.below h1.b.size (fun k hk => by rw [List.mem_singleton] at hk; omega))⟩, h2.keepL hk (hno _ _ _ h2 (by decide)), h3, h4, T1, kv1, xs1, tb1, tc1, ⟨hS, hj.keepL hk (fun k hk => ?_) (fun k hk => ?_), ⟨by show 1 ≤ 1; omega, hg, hr⟩⟩, hf, ho⟩
  · obtain ⟨cs, t, h1, h2⟩ := hj.fpT k hk
    exact hno _ _ _ h1 (by rcases h2 with rfl | rfl | rfl | rfl <;> decide)
  · obtain ⟨cs, h1⟩ := own_bk hj.tail k (by rw [ob_tb]; exact hk)
    exact hno _ _ _ h1 (by decide)
theorem opn_fin {W w4 w5 : World} {S b7 : Nat} {d' : Dk} {s : StM} {p9 : Option Addr} {F B : List Nat} {q0 : Bool × Dk × StM} {e : Ending} (hd : DkAt W D d' bs bm cp p9) (hs : StIn W S D s F B) (hk : KeepL (fpL D bs bm p) w W) (hp : NewP w p p9) (hF : ∀ k ∈ F, w.heap.size ≤ k) (hB : ∀ k ∈ B, w.heap.size ≤ k)
    (h7 : Bk W b7 #[.pointer (some ⟨S, 0, none⟩)] 52) (hr : ComR D S bs bm cp p9 F B [] q0 (W.alloc (.cells #[.int .i64 0] 25)) e w4) (hk5 : KeepL [W.heap.size] w4 w5) :
    endI e = (if q0.1 = true then 13 else 0) ∧ (∃ p', DkAt w5 D q0.2.1 bs bm cp p' ∧ NewP w p p') ∧ KeepL (fpL D bs bm p) w w5 ∧ (∃ F' B', StIn w5 S D q0.2.2 F' B' ∧ (∀ k ∈ F', w.heap.size ≤ k) ∧ ∀ k ∈ B', w.heap.size ≤ k) ∧ Bk w5 b7 #[.pointer (some ⟨S, 0, none⟩)] 52 := by
  obtain ⟨h1, h1', h4, h5⟩ := hr
  have hb := balloc W (.cells #[.int .i64 0] 25)
  have h6 : SysM W w4 D S bs bm cp p9 F B [] q0.2.1 q0.2.2 := SysM.trans (NewP.refl W p9) (fun k hk => .inl hk) (fun k hk => .inl hk) (.of_below hb) h4 (fun k hk => .inl hk)
  have h7' := h6.own (h5 _ _ _ (Bk.new W _ _) (by decide)) (Nat.le_refl _) hk5 (by decide) (by decide) (by decide)
  obtain ⟨⟨p', e1, e2⟩, ⟨F', B', e3, e4, e5⟩, e6⟩ := h7'
  have hsz := hk.size
  refine ⟨?_, ⟨p', e1, hp.trans e2 hsz⟩, hk.then e6 fun b hb => ?_, ⟨F', B', e3, fun k hk => ?_, fun k hk => ?_⟩, (h5 _ _ _ (bkA h7) (by decide)).keepL hk5 (by simp only [List.mem_singleton]; have := h7.lt; omega)⟩
  · cases hq : q0.1 with
    | true => rw [h1 hq]; rfl
    | false => rw [h1' hq]; rfl
  · rcases List.mem_append.1 hb with hb | hb
    · by_cases hlt : b < w.heap.size
      · exact .inl (hp.fp D bs bm b hb hlt)
      · exact .inr (by omega)
    · exact .inr (hF b hb)
  · rcases e4 k hk with h | h
    · exact hF k h
    · omega
  · rcases e5 k hk with h | h | h
    · exact hB k h
    · simp at h
    · omega
theorem greatest_lt (h : DkAt w D d bs bm cp p) : d.greatest < 4294967296 := by
  have key : ∀ k, k ≤ d.dur.length → grtN d k < 4294967296 := by
    intro k
    induction k with
    | zero => intro _; show (0 : Nat) < _; omega
    | succ k ih =>
      intro hk
      rw [grtN_succ]
      have := ih (by omega)
      have := epoS_lt (h.newOK (i := k) (by omega))
      omega
  exact key _ (Nat.le_refl _)
set_option maxRecDepth 100000 in
set_option maxHeartbeats 2000000 in
theorem open_any (hd : DkAt w D d bs bm cp p) (ha : 0 ≤ d.age ∧ d.age < 4611686018427380000) (side : Int) :
    Calls Tryz.prog 29 #[.pointer (some ⟨D, 0, none⟩), .int .i64 side] w (OpnP D bs bm cp p (d.openR side) w) := by
  obtain ⟨w1, hw1⟩ : ∃ z, z = w.alloc (.cells #[.pointer (some ⟨D, 0, none⟩)] 24) := ⟨_, rfl⟩
  obtain ⟨w2, hw2⟩ : ∃ z, z = w1.alloc (.cells #[.int .i64 side] 3) := ⟨_, rfl⟩
  obtain ⟨b2, hb2⟩ : ∃ z, z = w.heap.size := ⟨_, rfl⟩
  have hB1 : Below w.heap.size w w1 := by rw [hw1]; exact balloc _ _
  have hB2 : Below w1.heap.size w1 w2 := by rw [hw2]; exact balloc _ _
  have hs1 : w1.heap.size = b2 + 1 := by rw [hw1, World.size_alloc, hb2]
  have HOA : Hid (OpA w D b2 (b2 + 1) side w2) := Lib.hid ⟨by rw [hb2]; exact (show Bk w1 w.heap.size _ _ by rw [hw1]; exact Bk.new _ _ _).past hB2 (by rw [← hb2, hs1]; omega), by rw [← hs1, hw2]; exact Bk.new _ _ _, bnextK hB1 hB2⟩
  have HD := Lib.hid hd; have HA := Lib.hid ha
  have HD2 := Lib.hid (hd.far HOA.out.b)
  have HV := Lib.hid (dvalid_any HD2.out)
  have c0 : w2.cell? ⟨b2, 0, none⟩ = some (.pointer (some ⟨D, 0, none⟩)) := HOA.out.b2.cell 0
  have c1 : w2.cell? ⟨b2 + 1, 0, none⟩ = some (.int .i64 side) := HOA.out.b3.cell 0
  have c3 := HD2.out.c3
  obtain ⟨q, hq⟩ : ∃ q, q = d.openR side := ⟨_, rfl⟩
  have HQ := Lib.hid hq
  rw [← hq]
  have HW1 := Lib.hid hw1; have HB2 := Lib.hid hb2
  clear hd ha hB1 hB2 hs1 hq
  go_enter Tryz.func29, Tryz.ntmps29
  go_upto_region 1 with fail
  rw [← hw1, ← hw2, ← hb2]
  clear hw1 hw2 hb2
  go_wp2_with fail
  refine HV.out.mono ?_
  rintro e w' ⟨rfl, rfl⟩
  by_cases hs : side ≠ 0 ∧ side ≠ 1
  · have HQ1 : Hid (q = (2, d, none)) := Lib.hid (by rw [HQ.out]; unfold Dk.openR; rw [if_pos hs])
    have e1 : (side != 0) = true := by simpa using hs.1
    have e2 : (side != 1) = true := by simpa using hs.2
    go_wp2_with fail
    refine bodyPost_ret (results_tmp2 rfl _ _ _) rfl ?_
    exact OpnP.no HD.out HQ1.out HOA.out.b
  have hs' : side = 0 ∨ side = 1 := by omega
  have HQ1 := Lib.hid (HQ.out.trans (show d.openR side = _ from if_neg hs))
  clear hs
  go_upto_region 3 with fail
  go_cut [14] from 14 to 21 (fun v14 wd => v14 = .bool false ∧ w2 = wd)
  case first =>
    rcases hs' with rfl | rfl
    · go_wp2_with fail
      go_meet
      exact ⟨rfl, rfl⟩
    · go_wp2_with fail
      go_meet
      exact ⟨rfl, rfl⟩
  case rest =>
    obtain ⟨w2', rfl⟩ : ∃ z : World, z = wc := ⟨_, rfl⟩
    obtain ⟨rfl, rfl⟩ := hcut
    cases hdn : d.down with
    | true =>
      rw [hdn] at c3
      have HQ2 : Hid (q = (13, d, none)) := Lib.hid (HQ1.out.trans (if_pos hdn))
      clear hdn
      go_wp2_with fail
      refine bodyPost_ret (results_tmp2 rfl _ _ _) rfl ?_
      exact OpnP.no HD.out HQ2.out HOA.out.b
    | false =>
    rw [hdn] at c3
    have HQ2 := Lib.hid (HQ1.out.trans (if_neg (by rw [hdn]; simp)))
    have HDN := Lib.hid hdn
    clear hdn HQ HQ1
    have HG := Lib.hid (greatest_any HD2.out)
    have hgl := greatest_lt HD2.out
    obtain ⟨gr, hgr⟩ : ∃ z, z = d.greatest := ⟨_, rfl⟩
    rw [← hgr] at HG HQ2 hgl
    have HGR := Lib.hid hgr
    clear hgr
    go_upto_region 7 with fail
    go_wp2_with fail
    refine HG.out.mono ?_
    rintro e w3 ⟨rfl, hb3⟩
    have HOA3 := Lib.hid (HOA.out.far hb3)
    clear hb3 HG
    by_cases hov : gr = 4294967295
    · have hov2 : ((gr : Int) == 4294967295) = true := by simp; omega
      have HQ3 : Hid (q = (8, d, none)) := Lib.hid (HQ2.out.trans (if_pos hov))
      clear hov
      go_wp2_with fail
      refine bodyPost_ret (results_tmp2 rfl _ _ _) rfl ?_
      exact OpnP.no HD.out HQ3.out HOA3.out.b
    have hov2 : ((gr : Int) == 4294967295) = false := by simp; omega
    have HQ3 := Lib.hid (HQ2.out.trans (if_neg hov))
    clear hov HQ2 c0 c1 c3
    have HD3 := Lib.hid (HD.out.far HOA3.out.b)
    have c0 : w3.cell? ⟨b2, 0, none⟩ = some (.pointer (some ⟨D, 0, none⟩)) := HOA3.out.b2.cell 0
    have q1 : IntKind.i64.wrap ((gr : Int) + 1) = (gr : Int) + 1 := by simp [IntKind.wrap, IntKind.bits, IntKind.signed]; omega
    have HG1 : Hid (gr + 1 < 4294967296) := Lib.hid (by simp at hov2; omega)
    have HJ0 : Hid (∀ W, Below w3.heap.size w3 W → Calls Tryz.prog 72 #[.pointer (some ⟨D, 0, none⟩), .int .i64 0] W (JouP (d.journal 0) W)) := Lib.hid fun W hW => journal_any (HD3.out.far hW) 0 (by omega)
    go_upto_region 10 with fail
    go_cut [7] from 7 to 37 (fun v7 wd => ∃ b7 S, v7 = .pointer (some ⟨b7, 0, none⟩) ∧ OpS w D b2 (b2 + 1) side b7 S ⟨0, 0, gr + 1, d.journal 0⟩ wd)
    case first => as_aux_lemma =>
      -- <REGION r10
      refine wp_region_held_drew (S := (fun W => W.cell? ⟨b2, 0, none⟩ = some (.pointer (some ⟨D, 0, none⟩)))) (by kernel_rfl) ?_ (fun hHeld => ?_)
      · (try dsimp only); first | exact c0 | exact c4 | exact (bkA HBK4.out).cell 0 | exact (bkA (bkA HBK4.out)).cell 0 | exact (bkA (bkD HOA3.out.b2)).cell 0 | exact (bkA (HBK4.out.keepL (KeepL.set _ _ _ _) (by simp only [List.mem_singleton]; exact HBK4.out.ne HB7.out (by decide)))).cell 0
      refine wpAnyH_take (i := 0) (oi := ⟨some 30, _, _, _, _, _⟩) (v := ?_) rfl (by kernel_rfl) (by kernel_rfl) (by kernel_rfl) (fun _ _ _ h => h) (Or.inl ⟨by rfl, ?_⟩) (by assumption) ?_; rotate_left
      · intro w hSw; (try dsimp only at hSw); go_simp; try with_reducible rfl
      try simp only [Act.put, setIfInBounds_toArray, set_cons_zero, set_cons_succ]
      refine wpAnyH_take (i := 1) (oi := ⟨some 31, _, _, _, _, _⟩) (v := ?_) rfl (by kernel_rfl) (by kernel_rfl) (by kernel_rfl) (fun _ _ _ h => h) (Or.inl ⟨by rfl, ?_⟩) (by assumption) ?_; rotate_left
      · intro w hSw; (try dsimp only at hSw); go_simp; try with_reducible rfl
      try simp only [Act.put, setIfInBounds_toArray, set_cons_zero, set_cons_succ]
      refine wpAnyH_take (i := 2) (oi := ⟨some 32, _, _, _, _, _⟩) (v := ?_) rfl (by kernel_rfl) (by kernel_rfl) (by kernel_rfl) (fun _ _ _ h => h) (Or.inl ⟨by rfl, ?_⟩) (by assumption) ?_; rotate_left
      · intro w hSw; (try dsimp only at hSw); go_simp; try with_reducible rfl
      try simp only [Act.put, setIfInBounds_toArray, set_cons_zero, set_cons_succ]
      refine wpAnyH_take (i := 3) (oi := ⟨some 33, _, _, _, _, _⟩) (v := ?_) rfl (by kernel_rfl) (by kernel_rfl) (by kernel_rfl) (fun _ _ _ h => h) (Or.inl ⟨by rfl, ?_⟩) (by assumption) ?_; rotate_left
      · intro w hSw; (try dsimp only at hSw); go_simp; try with_reducible rfl
      try simp only [Act.put, setIfInBounds_toArray, set_cons_zero, set_cons_succ]
      refine wpAnyH_ready (rs := [4, 7]) (by kernel_rfl) (by simp) ?_
      refine AllReadyH.cons (o := ⟨some 34, _, _, _, _, _⟩) rfl (fun K hK => ?_) ?_
      · skip
        go_simp
        refine (HJ0.out _ (below_drew8 w3 w3.heap.size)).mono ?_
        rintro e' w4 ⟨T, kv, xs, tb, tc, rfl, hj, hjr, hf, hob, hb4⟩
        have HJ4 := Lib.hid hj; have HJR := Lib.hid hjr; have HF4 : Hid (∀ k ∈ fpJ T kv xs, w3.heap.size ≤ k) := Lib.hid fun k hk => Nat.le_trans (below_drew8 w3 w3.heap.size).size (hf k hk); have HO4 : Hid (∀ k ∈ obT tb, w3.heap.size ≤ k) := Lib.hid fun k hk => Nat.le_trans (below_drew8 w3 w3.heap.size).size (hob k hk); have HB4 := Lib.hid (bnextK (below_drew8 w3 w3.heap.size) hb4)
        have HBK4 := Lib.hid (HOA3.out.b2.past HB4.out HOA3.out.b2.lt)
        have c4 : w4.cell? ⟨b2, 0, none⟩ = some (.pointer (some ⟨D, 0, none⟩)) := HBK4.out.cell 0
        have hb4' := hb4
        clear hj hjr hf hob hb4
        clear hb4'
        go_wp2_with fail
        refine hK.out _ _ ?_ (fun hHeld => ?_)
        · (try dsimp only); first | exact c0 | exact c4 | exact (bkA HBK4.out).cell 0 | exact (bkA (bkA HBK4.out)).cell 0 | exact (bkA (bkD HOA3.out.b2)).cell 0 | exact (bkA (HBK4.out.keepL (KeepL.set _ _ _ _) (by simp only [List.mem_singleton]; exact HBK4.out.ne HB7.out (by decide)))).cell 0
        clear hK K
        try simp only [Act.put, setIfInBounds_toArray, set_cons_zero, set_cons_succ]
        refine wpAnyH_take (i := 5) (oi := ⟨some 35, _, _, _, _, _⟩) (v := ?_) rfl (by kernel_rfl) (by kernel_rfl) (by kernel_rfl) (fun _ _ _ h => h) (Or.inl ⟨by rfl, ?_⟩) (by assumption) ?_; rotate_left
        · intro w hSw; (try dsimp only at hSw); go_simp; try with_reducible rfl
        try simp only [Act.put, setIfInBounds_toArray, set_cons_zero, set_cons_succ]
        refine wpAnyH_ready (rs := [6, 7]) (by kernel_rfl) (by simp) ?_
        refine AllReadyH.cons (o := ⟨some 36, _, _, _, _, _⟩) rfl (fun K hK => ?_) ?_
        · skip
          go_simp
          refine hK.out _ _ ?_ (fun hHeld => ?_)
          · (try dsimp only); first | exact c0 | exact c4 | exact (bkA HBK4.out).cell 0 | exact (bkA (bkA HBK4.out)).cell 0 | exact (bkA (bkD HOA3.out.b2)).cell 0 | exact (bkA (HBK4.out.keepL (KeepL.set _ _ _ _) (by simp only [List.mem_singleton]; exact HBK4.out.ne HB7.out (by decide)))).cell 0
          clear hK K
          try simp only [Act.put, setIfInBounds_toArray, set_cons_zero, set_cons_succ]
          refine wpAnyH_ready (rs := [7]) (by kernel_rfl) (by simp) ?_
          refine AllReadyH.cons (o := ⟨some 7, _, _, _, _, _⟩) rfl (fun K hK => ?_) AllReadyH.nil
          go_simp
          refine hK.out _ _ ?_ (fun hHeld => ?_)
          · (try dsimp only); first | exact c0 | exact c4 | exact (bkA HBK4.out).cell 0 | exact (bkA (bkA HBK4.out)).cell 0 | exact (bkA (bkD HOA3.out.b2)).cell 0 | exact (bkA (HBK4.out.keepL (KeepL.set _ _ _ _) (by simp only [List.mem_singleton]; exact HBK4.out.ne HB7.out (by decide)))).cell 0
          clear hK K
          try simp only [Act.put, setIfInBounds_toArray, set_cons_zero, set_cons_succ]
          refine wpAnyH_ready (rs := [8]) (by kernel_rfl) (by simp) ?_
          refine AllReadyH.cons (o := ⟨none, _, _, _, _, _⟩) rfl (fun K hK => ?_) AllReadyH.nil
          go_simp
          refine hK.out _ _ ?_ (fun hHeld => ?_)
          · (try dsimp only); first | exact c0 | exact c4 | exact (bkA HBK4.out).cell 0 | exact (bkA (bkA HBK4.out)).cell 0 | exact (bkA (bkD HOA3.out.b2)).cell 0 | exact (bkA (HBK4.out.keepL (KeepL.set _ _ _ _) (by simp only [List.mem_singleton]; exact HBK4.out.ne HB7.out (by decide)))).cell 0
          clear hK K
          try simp only [Act.put]
          refine wpAnyH_done (by kernel_rfl) ?_ _
          go_wp2_with fail
          go_meet
          exact ⟨_, _, rfl, opn_end (L := []) HOA3.out HB4.out HJ4.out HJR.out HF4.out HO4.out HG1.out (.of_below (bnextK (balloc _ _) (balloc _ _))) (by simp) (bkN _ _ _ _) (bkA (Bk.new _ _ _)) (Nat.le_succ_of_le HB4.out.size) HB4.out.size⟩
        refine AllReadyH.cons (o := ⟨some 7, _, _, _, _, _⟩) rfl (fun K hK => ?_) AllReadyH.nil
        go_simp
        refine hK.out _ _ ?_ (fun hHeld => ?_)
        · (try dsimp only); first | exact c0 | exact c4 | exact (bkA HBK4.out).cell 0 | exact (bkA (bkA HBK4.out)).cell 0 | exact (bkA (bkD HOA3.out.b2)).cell 0 | exact (bkA (HBK4.out.keepL (KeepL.set _ _ _ _) (by simp only [List.mem_singleton]; exact HBK4.out.ne HB7.out (by decide)))).cell 0
        clear hK K
        try simp only [Act.put, setIfInBounds_toArray, set_cons_zero, set_cons_succ]
        refine wpAnyH_ready (rs := [6]) (by kernel_rfl) (by simp) ?_
        refine AllReadyH.cons (o := ⟨some 36, _, _, _, _, _⟩) rfl (fun K hK => ?_) AllReadyH.nil
        go_simp
        refine hK.out _ _ ?_ (fun hHeld => ?_)
        · (try dsimp only); first | exact c0 | exact c4 | exact (bkA HBK4.out).cell 0 | exact (bkA (bkA HBK4.out)).cell 0 | exact (bkA (bkD HOA3.out.b2)).cell 0 | exact (bkA (HBK4.out.keepL (KeepL.set _ _ _ _) (by simp only [List.mem_singleton]; exact HBK4.out.ne HB7.out (by decide)))).cell 0
        clear hK K
        try simp only [Act.put, setIfInBounds_toArray, set_cons_zero, set_cons_succ]
        refine wpAnyH_ready (rs := [8]) (by kernel_rfl) (by simp) ?_
        refine AllReadyH.cons (o := ⟨none, _, _, _, _, _⟩) rfl (fun K hK => ?_) AllReadyH.nil
        go_simp
        refine hK.out _ _ ?_ (fun hHeld => ?_)
        · (try dsimp only); first | exact c0 | exact c4 | exact (bkA HBK4.out).cell 0 | exact (bkA (bkA HBK4.out)).cell 0 | exact (bkA (bkD HOA3.out.b2)).cell 0 | exact (bkA (HBK4.out.keepL (KeepL.set _ _ _ _) (by simp only [List.mem_singleton]; exact HBK4.out.ne HB7.out (by decide)))).cell 0
        clear hK K
        try simp only [Act.put]
        refine wpAnyH_done (by kernel_rfl) ?_ _
        go_wp2_with fail
        go_meet
        exact ⟨_, _, rfl, opn_end (L := []) HOA3.out HB4.out HJ4.out HJR.out HF4.out HO4.out HG1.out (.of_below (bnextK (balloc _ _) (balloc _ _))) (by simp) (bkA (Bk.new _ _ _)) (bkN _ _ _ _) HB4.out.size (Nat.le_succ_of_le HB4.out.size)⟩
      refine AllReadyH.cons (o := ⟨some 7, _, _, _, _, _⟩) rfl (fun K hK => ?_) AllReadyH.nil
      go_simp
      refine hK.out _ _ ?_ (fun hHeld => ?_)
      · (try dsimp only); first | exact c0 | exact c4 | exact (bkA HBK4.out).cell 0 | exact (bkA (bkA HBK4.out)).cell 0 | exact (bkA (bkD HOA3.out.b2)).cell 0 | exact (bkA (HBK4.out.keepL (KeepL.set _ _ _ _) (by simp only [List.mem_singleton]; exact HBK4.out.ne HB7.out (by decide)))).cell 0
      clear hK K
      try simp only [Act.put, setIfInBounds_toArray, set_cons_zero, set_cons_succ]
      refine wpAnyH_ready (rs := [4]) (by kernel_rfl) (by simp) ?_
      refine AllReadyH.cons (o := ⟨some 34, _, _, _, _, _⟩) rfl (fun K hK => ?_) AllReadyH.nil
      go_simp
      refine (HJ0.out _ (bnextK (below_drew8 w3 w3.heap.size) (balloc _ _))).mono ?_
      rintro e' w4 ⟨T, kv, xs, tb, tc, rfl, hj, hjr, hf, hob, hb4⟩
      have HJ4 := Lib.hid hj; have HJR := Lib.hid hjr; have HF4 : Hid (∀ k ∈ fpJ T kv xs, w3.heap.size ≤ k) := Lib.hid fun k hk => Nat.le_trans (bnextK (below_drew8 w3 w3.heap.size) (balloc _ _)).size (hf k hk); have HO4 : Hid (∀ k ∈ obT tb, w3.heap.size ≤ k) := Lib.hid fun k hk => Nat.le_trans (bnextK (below_drew8 w3 w3.heap.size) (balloc _ _)).size (hob k hk); have HB4 := Lib.hid (bnextK (bnextK (below_drew8 w3 w3.heap.size) (balloc _ _)) hb4)
      have HBK4 := Lib.hid (HOA3.out.b2.past HB4.out HOA3.out.b2.lt)
      have c4 : w4.cell? ⟨b2, 0, none⟩ = some (.pointer (some ⟨D, 0, none⟩)) := HBK4.out.cell 0
      have hb4' := hb4
      clear hj hjr hf hob hb4
      have hb7 : Bk w4 w3.heap.size #[.pointer none] 52 := (Bk.new w3.drew #[.pointer none] 52).past hb4' (Bk.new w3.drew #[.pointer none] 52).lt
      have c7 := hb7.cell 0; have f7 := hb7.froz 0; have l7 := hb7.lt
      have c7' : w4.cell? ⟨w3.heap.size, 0, none⟩ = some (.pointer none) := c7
      have HB7 := Lib.hid hb7
      clear hb4' hb7 c7
      go_wp2_with fail
      refine hK.out _ _ ?_ (fun hHeld => ?_)
      · (try dsimp only); first | exact c0 | exact c4 | exact (bkA HBK4.out).cell 0 | exact (bkA (bkA HBK4.out)).cell 0 | exact (bkA (bkD HOA3.out.b2)).cell 0 | exact (bkA (HBK4.out.keepL (KeepL.set _ _ _ _) (by simp only [List.mem_singleton]; exact HBK4.out.ne HB7.out (by decide)))).cell 0
      clear hK K
      try simp only [Act.put, setIfInBounds_toArray, set_cons_zero, set_cons_succ]
      refine wpAnyH_take (i := 5) (oi := ⟨some 35, _, _, _, _, _⟩) (v := ?_) rfl (by kernel_rfl) (by kernel_rfl) (by kernel_rfl) (fun _ _ _ h => h) (Or.inl ⟨by rfl, ?_⟩) (by assumption) ?_; rotate_left
      · intro w hSw; (try dsimp only at hSw); go_simp; try with_reducible rfl
      try simp only [Act.put, setIfInBounds_toArray, set_cons_zero, set_cons_succ]
      refine wpAnyH_ready (rs := [6]) (by kernel_rfl) (by simp) ?_
      refine AllReadyH.cons (o := ⟨some 36, _, _, _, _, _⟩) rfl (fun K hK => ?_) AllReadyH.nil
      go_simp
      refine hK.out _ _ ?_ (fun hHeld => ?_)
      · (try dsimp only); first | exact c0 | exact c4 | exact (bkA HBK4.out).cell 0 | exact (bkA (bkA HBK4.out)).cell 0 | exact (bkA (bkD HOA3.out.b2)).cell 0 | exact (bkA (HBK4.out.keepL (KeepL.set _ _ _ _) (by simp only [List.mem_singleton]; exact HBK4.out.ne HB7.out (by decide)))).cell 0
      clear hK K
      try simp only [Act.put, setIfInBounds_toArray, set_cons_zero, set_cons_succ]
      refine wpAnyH_ready (rs := [8]) (by kernel_rfl) (by simp) ?_
      refine AllReadyH.cons (o := ⟨none, _, _, _, _, _⟩) rfl (fun K hK => ?_) AllReadyH.nil
      go_simp
      refine hK.out _ _ ?_ (fun hHeld => ?_)
      · (try dsimp only); first | exact c0 | exact c4 | exact (bkA HBK4.out).cell 0 | exact (bkA (bkA HBK4.out)).cell 0 | exact (bkA (bkD HOA3.out.b2)).cell 0 | exact (bkA (HBK4.out.keepL (KeepL.set _ _ _ _) (by simp only [List.mem_singleton]; exact HBK4.out.ne HB7.out (by decide)))).cell 0
      clear hK K
      try simp only [Act.put]
      refine wpAnyH_done (by kernel_rfl) ?_ _
      go_wp2_with fail
      go_meet
      exact ⟨_, _, rfl, opn_end HOA3.out HB4.out HJ4.out HJR.out HF4.out HO4.out HG1.out ((KeepL.set _ _ _ _).trans (.alloc _ _ _)) (fun b hb => by rw [List.mem_singleton] at hb; subst hb; exact ⟨_, HB7.out, Nat.le_refl _⟩) (bkA (HB7.out.set 0 _)) (bkNs _ _ _ _ _) (Nat.le_refl _) HB4.out.size⟩
      -- REGION>
    case rest => as_aux_lemma =>
      obtain ⟨w4, rfl⟩ : ∃ z : World, z = wc := ⟨_, rfl⟩
      obtain ⟨b7, S, rfl, hops⟩ := hcut
      have HOS := Lib.hid hops
      clear hops HJ0 c0
      have HD4 := Lib.hid (HD.out.far HOS.out.1.b)
      have HJ1 := Lib.hid (journal_any HD4.out 1 (by omega))
      have c0 : w4.cell? ⟨b2, 0, none⟩ = some (.pointer (some ⟨D, 0, none⟩)) := HOS.out.1.b2.cell 0
      go_upto_region 11 with fail
      go_wp2_with fail
      refine HJ1.out.mono ?_
      rintro e w5 ⟨T1, kv1, xs1, tb1, tc1, rfl, hj1, hjr1, hf1, ho1, hb5⟩
      have HJ := Lib.hid hj1; have HJR := Lib.hid hjr1
      have HF : Hid (∀ k ∈ fpJ T1 kv1 xs1, w.heap.size ≤ k) := Lib.hid fun k hk => Nat.le_trans HOS.out.1.b.size (hf1 k hk)
      have HO : Hid (∀ k ∈ obT tb1, w.heap.size ≤ k) := Lib.hid fun k hk => Nat.le_trans HOS.out.1.b.size (ho1 k hk)
      have HO5 := Lib.hid (HOS.out.far hb5)
      obtain ⟨g1, g2, g3, g4, T, kv, xs, tb, tc, g5, g6, g7⟩ := HO5.out
      have HST := Lib.hid g5; have HB7 := Lib.hid g2; have HS4 := Lib.hid (And.intro g3 g4)
      have m1 : w5.cell? ⟨T1, 2, none⟩ = some (.bool (d.journal 1).ready) := hj1.blk.cell 2
      have m2 : w5.cell? ⟨T1, 3, none⟩ = some (.int .i64 ((d.journal 1).age : Int)) := hj1.blk.cell 3
      have m3 : w5.cell? ⟨b7, 0, none⟩ = some (.pointer (some ⟨S, 0, none⟩)) := g2.cell 0
      have m4 : w5.cell? ⟨S, 4, none⟩ = some (.pointer (some ⟨T, 0, none⟩)) := g5.blk.cell 4
      have m5 : w5.cell? ⟨T, 2, none⟩ = some (.bool (d.journal 0).ready) := g5.js.blk.cell 2
      have m6 : w5.cell? ⟨T, 3, none⟩ = some (.int .i64 ((d.journal 0).age : Int)) := g5.js.blk.cell 3
      obtain ⟨bc, hbc⟩ : ∃ b : Bool, b = decide ((d.journal 1).ready = true ∧ ((d.journal 0).ready = false ∨ (d.journal 0).age < (d.journal 1).age)) := ⟨_, rfl⟩
      have HNO : Hid (bc = false → OpS w D b2 (b2 + 1) side b7 S ⟨0, d.first.area, gr + 1, d.first.j⟩ w5) := Lib.hid fun h => by
        unfold Dk.first; rw [if_neg (by rw [h] at hbc; exact of_decide_eq_false hbc.symm)]; exact HO5.out
      have HYES : Hid (bc = true → ∀ W, KeepL [S] w5 W → Bk W S #[.pointer (some ⟨D, 0, none⟩), .int .i64 0, .int .i64 1, .int .i64 ((gr : Int) + 1), .pointer (some ⟨T1, 0, none⟩)] 120 → OpS w D b2 (b2 + 1) side b7 S ⟨0, d.first.area, gr + 1, d.first.j⟩ W) := Lib.hid fun h W hk hb => by
        unfold Dk.first; rw [if_pos (by rw [h] at hbc; exact of_decide_eq_true hbc.symm)]
        exact opn_sw HO5.out HST.out HJ.out HJR.out HF.out HO.out HG1.out hk hb
      clear hj1 hjr1 hf1 ho1 hb5 g1 g2 g3 g4 g5 g6 g7
      generalize (d.journal 1).ready = r1 at m1 hbc
      generalize (d.journal 0).ready = r0 at m5 hbc
      generalize (d.journal 1).age = a1 at m2 hbc
      generalize (d.journal 0).age = a0 at m6 hbc
      go_upto_region 12 with fail
      go_cut [66] from 39 to 67 (fun v66 wd => v66 = .bool bc ∧ Qw w5 wd)
      case first => as_aux_lemma =>
        cases r1 with
        | false =>
          obtain rfl : bc = false := by rw [hbc]; simp
          clear hbc
          go_quiet (fail)
          go_wp2_with fail
          go_meet
          exact ⟨rfl, ⟨_, rfl⟩⟩
        | true =>
          cases r0 with
          | false =>
            obtain rfl : bc = true := by rw [hbc]; simp
            clear hbc
            go_quiet (fail)
            go_wp2_with fail
            go_meet
            exact ⟨rfl, ⟨_, rfl⟩⟩
          | true =>
            by_cases hlt : a0 < a1
            · have hlti : (a0 : Int) < (a1 : Int) := by omega
              obtain rfl : bc = true := by rw [hbc]; simpa using hlt
              clear hbc
              go_quiet (fail)
              go_wp2_with fail
              go_meet
              exact ⟨rfl, ⟨_, rfl⟩⟩
            · have hlti : ¬ (a0 : Int) < (a1 : Int) := by omega
              obtain rfl : bc = false := by rw [hbc]; simpa using hlt
              clear hbc
              go_quiet (fail)
              go_wp2_with fail
              go_meet
              exact ⟨rfl, ⟨_, rfl⟩⟩
      case rest => as_aux_lemma =>
        obtain ⟨w6, rfl⟩ : ∃ z : World, z = wc := ⟨_, rfl⟩
        obtain ⟨rfl, hqw⟩ := hcut
        have HB6 : Hid (Below w5.heap.size w5 w6) := Lib.hid (hqw.below _)
        clear hqw hbc m1 m2 m5 m6
        go_upto_if 66 with fail
        go_cut [9] from 67 to 74 (fun v9 wd => OpS w D b2 (b2 + 1) side b7 S ⟨0, d.first.area, gr + 1, d.first.j⟩ wd)
        case first => as_aux_lemma =>
          cases bc with
          | false =>
            have HN := Lib.hid ((HNO.out rfl).far HB6.out)
            clear HNO HYES
            go_wp2_with fail
            go_meet
            exact HN.out
          | true =>
            have n3 : w6.cell? ⟨b7, 0, none⟩ = some (.pointer (some ⟨S, 0, none⟩)) := (HB7.out.past HB6.out HB7.out.lt).cell 0
            have hb6 := HST.out.blk.past HB6.out HST.out.blk.lt
            have n2 : w6.cell? ⟨S, 2, none⟩ = some (.int .i64 ((0 : Nat) : Int)) := hb6.cell 2
            have n4 : w6.cell? ⟨S, 4, none⟩ = some (.pointer (some ⟨T, 0, none⟩)) := hb6.cell 4
            have f2 := hb6.froz 2; have f4 := hb6.froz 4
            go_upto_region 13 with fail
            go_region
            go_wp2_with fail
            go_meet
            have hk : KeepL [S] w6 ((w6.setCell ⟨S, 2, none⟩ (.int .i64 1)).setCell ⟨S, 4, none⟩ (.pointer (some ⟨T1, 0, none⟩))) := (KeepL.set _ _ _ _).trans (KeepL.set _ _ _ _)
            have hs : Bk ((w6.setCell ⟨S, 2, none⟩ (.int .i64 1)).setCell ⟨S, 4, none⟩ (.pointer (some ⟨T1, 0, none⟩))) S #[.pointer (some ⟨D, 0, none⟩), .int .i64 0, .int .i64 1, .int .i64 ((gr : Int) + 1), .pointer (some ⟨T1, 0, none⟩)] 120 := (hb6.set 2 (.int .i64 1)).set 4 (.pointer (some ⟨T1, 0, none⟩))
            exact HYES.out trivial _ (((KeepL.of_below HB6.out).trans hk).trans (.of_below (below_drew8 _ _))) (bkD hs)
        case rest => as_aux_lemma =>
          obtain ⟨w7, rfl⟩ : ∃ z : World, z = wc := ⟨_, rfl⟩
          have HO7 := Lib.hid hcut
          clear hcut HNO HYES HB6 HO5 HST HB7 HS4 HF HO HJ HJR HJ1 HOS m3 m4 c0 HD4
          have hcut := HO7.out
          obtain ⟨⟨k2, k3, kb⟩, k7, k4, k5, T, kv, xs, tb, tc, k6, k8, k9⟩ := hcut
          have HST := Lib.hid k6; have HF := Lib.hid k8; have HO := Lib.hid k9; have HB := Lib.hid kb; have H7 := Lib.hid k7; have H2 := Lib.hid k2; have H3 := Lib.hid k3; have HSS := Lib.hid (And.intro k4 k5)
          have m7 : w7.cell? ⟨b7, 0, none⟩ = some (.pointer (some ⟨S, 0, none⟩)) := k7.cell 0
          have m4 : w7.cell? ⟨S, 4, none⟩ = some (.pointer (some ⟨T, 0, none⟩)) := k6.blk.cell 4
          have m3 : w7.cell? ⟨b2 + 1, 0, none⟩ = some (.int .i64 side) := k3.cell 0
          have m2 : w7.cell? ⟨T, 2, none⟩ = some (.bool d.first.j.ready) := k6.js.blk.cell 2
          have mt : w7.cell? ⟨T, 4, none⟩ = some (.int .i64 (d.first.j.side : Int)) := k6.js.blk.cell 4
          have HD7 := Lib.hid (HD.out.far kb)
          obtain ⟨rd, hrd⟩ : ∃ z, z = d.first.j.ready := ⟨_, rfl⟩
          obtain ⟨sd, hsd⟩ : ∃ z, z = d.first.j.side := ⟨_, rfl⟩
          have HRD := Lib.hid hrd
          rw [← hrd] at m2 HQ3
          rw [← hsd] at mt HQ3
          obtain ⟨bd, hbd⟩ : ∃ b : Bool, b = decide (rd = true ∧ (sd : Int) ≠ side) := ⟨_, rfl⟩
          clear k2 k3 kb k7 k4 k5 k6 k8 k9 hrd hsd
          go_upto_region 14 with fail
          go_cut [91] from 74 to 92 (fun v91 wd => v91 = .bool bd ∧ Qw w7 wd)
          case first => as_aux_lemma =>
            cases rd with
            | false =>
              obtain rfl : bd = false := by rw [hbd]; simp
              clear hbd
              go_quiet (fail)
              go_wp2_with fail
              go_meet
              exact ⟨rfl, ⟨_, rfl⟩⟩
            | true =>
              by_cases hlt : (sd : Int) = side
              · have hlti : ((sd : Int) != side) = false := by simp [hlt]
                obtain rfl : bd = false := by rw [hbd]; simpa using hlt
                clear hbd hlt
                go_quiet (fail)
                go_wp2_with fail
                go_meet
                exact ⟨rfl, ⟨_, rfl⟩⟩
              · have hlti : ((sd : Int) != side) = true := by simpa using hlt
                obtain rfl : bd = true := by rw [hbd]; simpa using hlt
                clear hbd hlt
                go_quiet (fail)
                go_wp2_with fail
                go_meet
                exact ⟨rfl, ⟨_, rfl⟩⟩
          case rest => as_aux_lemma =>
            obtain ⟨w8, rfl⟩ : ∃ z : World, z = wc := ⟨_, rfl⟩
            obtain ⟨rfl, hqw⟩ := hcut
            have HB8 : Hid (Below w7.heap.size w7 w8) := Lib.hid (hqw.below _)
            clear hqw m2 m3 m4 mt m7
            cases bd with
            | true =>
              have hb := of_decide_eq_true hbd.symm
              have HQ4 : Hid (q = (11, d, none)) := Lib.hid (HQ3.out.trans (if_pos hb))
              clear hbd hb
              go_wp2_with fail
              refine bodyPost_ret (results_tmp2 rfl _ _ _) rfl ?_
              exact OpnP.no HD.out HQ4.out (bnextK HB.out HB8.out)
            | false =>
              have hb := of_decide_eq_false hbd.symm
              have HQ4 := Lib.hid (HQ3.out.trans (if_neg hb))
              clear hbd hb HQ3
              have HD8 := Lib.hid (HD7.out.far HB8.out)
              have HA8 := HA.out
              obtain ⟨ag, hag⟩ : ∃ z, z = d.age := ⟨_, rfl⟩
              have HAG := Lib.hid hag
              rw [← hag] at HA8
              have e2 : w8.cell? ⟨b2, 0, none⟩ = some (.pointer (some ⟨D, 0, none⟩)) := (H2.out.past HB8.out H2.out.lt).cell 0
              have e4 : w8.cell? ⟨D, 4, none⟩ = some (.int .i64 ag) := by rw [hag]; exact HD8.out.c4
              have f4 := HD8.out.f 4
              clear hag
              go_upto_region 17 with fail
              obtain ⟨w9, hw9⟩ : ∃ z, z = w8.setCell ⟨D, 4, none⟩ (.int .i64 (ag + 1)) := ⟨_, rfl⟩
              rw [← hw9]
              have hdm : DkMut w8 w9 D bs bm cp p { d with age := ag + 1 } := by rw [hw9]; exact HD8.out.setAge (ag + 1)
              have hk9 : KeepL [D] w8 w9 := by rw [hw9]; exact KeepL.set _ _ _ _
              have hno : ∀ b cs t, Bk w8 b cs t → t ≠ 96 → b ∉ [D] := fun b cs t hb ht => by
                simp only [List.mem_singleton]
                exact hb.ne HD8.out.blk ht
              obtain ⟨p9, hd9, hp9⟩ := hdm.1
              have g2 := (H2.out.past HB8.out H2.out.lt).keepL hk9 (hno _ _ _ (H2.out.past HB8.out H2.out.lt) (by decide))
              have g3 := (H3.out.past HB8.out H3.out.lt).keepL hk9 (hno _ _ _ (H3.out.past HB8.out H3.out.lt) (by decide))
              have g7 := (H7.out.past HB8.out H7.out.lt).keepL hk9 (hno _ _ _ (H7.out.past HB8.out H7.out.lt) (by decide))
              have hst8 := HST.out.far HB8.out
              have gS := hst8.blk.keepL hk9 (hno _ _ _ hst8.blk (by decide))
              have gJ := hst8.js.keepL hk9 (fun k hk => by
                obtain ⟨cs, t, h1, h2⟩ := hst8.js.fpT k hk
                exact hno _ _ _ h1 (by rcases h2 with rfl | rfl | rfl | rfl <;> decide)) (fun k hk => by
                obtain ⟨cs, h1⟩ := own_bk hst8.js.tail k (by rw [ob_tb]; exact hk)
                exact hno _ _ _ h1 (by decide))
              have HK9 : Hid (KeepL (fpL D bs bm p) w w9) := Lib.hid ((KeepL.of_below (bnextK HB.out HB8.out)).trans hdm.2)
              have HD9 := Lib.hid hd9; have HP9 := Lib.hid hp9; have G2 := Lib.hid g2; have G3 := Lib.hid g3; have G7 := Lib.hid g7; have GS := Lib.hid gS; have GJ := Lib.hid gJ
              have m7 : w9.cell? ⟨b7, 0, none⟩ = some (.pointer (some ⟨S, 0, none⟩)) := g7.cell 0
              have m2 : w9.cell? ⟨b2, 0, none⟩ = some (.pointer (some ⟨D, 0, none⟩)) := g2.cell 0
              have m4 : w9.cell? ⟨D, 4, none⟩ = some (.int .i64 (ag + 1)) := hd9.c4
              have s1 : w9.cell? ⟨S, 1, none⟩ = some (.int .i64 0) := gS.cell 1
              have sf := gS.froz 1
              clear hw9 hdm hk9 hno hd9 hp9 g2 g3 g7 hst8 gS gJ e2 e4 f4
              go_region
              obtain ⟨W, hW⟩ : ∃ z, z = (w9.setCell ⟨S, 1, none⟩ (.int .i64 (ag + 1))).drew := ⟨_, rfl⟩
              rw [← hW]
              have hkW : KeepL [S] w9 W := by rw [hW]; exact (KeepL.set _ _ _ _).trans (.of_below (below_drew8 _ _))
              have hno : ∀ b cs t, Bk w9 b cs t → t ≠ 120 → b ∉ [S] := fun b cs t hb ht => by
                simp only [List.mem_singleton]
                exact hb.ne GS.out ht
              have hjw := GJ.out.keepL hkW (fun k hk => by
                obtain ⟨cs, t, h1, h2⟩ := GJ.out.fpT k hk
                exact hno _ _ _ h1 (by rcases h2 with rfl | rfl | rfl | rfl <;> decide)) (fun k hk => by
                obtain ⟨cs, h1⟩ := own_bk GJ.out.tail k (by rw [ob_tb]; exact hk)
                exact hno _ _ _ h1 (by decide))
              have HSTW : Hid (StAt W S D ⟨ag + 1, d.first.area, gr + 1, d.first.j⟩ T kv xs tb tc) := Lib.hid ⟨by rw [hW]; exact bkD (GS.out.set 1 (.int .i64 (ag + 1))), hjw, HST.out.ok.area, HST.out.ok.epoch, HST.out.ok.jr⟩
              have HDW : Hid (DkAt W D { d with age := ag + 1 } bs bm cp p9) := Lib.hid (HD9.out.keepT hkW fun b hb => by
                rw [List.mem_singleton] at hb; subst hb
                exact ⟨_, _, GS.out, by decide, by decide, by decide, by decide⟩)
              have HKW : Hid (KeepL (fpL D bs bm p) w W) := Lib.hid (HK9.out.then hkW fun b hb => by rw [List.mem_singleton] at hb; subst hb; exact .inr HSS.out.1)
              have x7 := G7.out.keepL hkW (hno _ _ _ G7.out (by decide))
              have x3 := G3.out.keepL hkW (hno _ _ _ G3.out (by decide))
              have x2 := G2.out.keepL hkW (hno _ _ _ G2.out (by decide))
              have HPW : Hid (NewP w p p9) := Lib.hid (NewP.trans (NewP.refl w p) HP9.out (bnextK HB.out HB8.out).size)
              have hfe : d.first.epoch = gr + 1 := by rw [HGR.out]; unfold Dk.first; split <;> rfl
              have hcl : ∃ q0 : Bool × Dk × StM, q = (if q0.1 = true then (13, q0.2.1, none) else (0, q0.2.1, some q0.2.2)) ∧
                  Calls Tryz.prog 73 #[.pointer (some ⟨b7, 0, none⟩), .pointer (some ⟨b2 + 1, 0, none⟩), .pointer (some ⟨b2, 0, none⟩)] (W.alloc (.cells #[.int .i64 0] 25)) (ComR D S bs bm cp p9 (S :: fpJ T kv xs) (obT tb) [] q0 (W.alloc (.cells #[.int .i64 0] 25))) := by
                have hba := balloc W (.cells #[.int .i64 0] 25)
                cases hr : rd with
                | true =>
                  refine ⟨(false, { d with age := ag + 1 }, ⟨ag + 1, d.first.area, gr + 1, d.first.j⟩), ?_, open1_rdy (HDW.out.far hba) (HSTW.out.far hba) (by show d.first.j.ready = true; rw [← HRD.out]; exact hr) (bkA x7)⟩
                  rw [HQ4.out, if_pos hr, HAG.out, hfe]
                  rfl
                | false =>
                  obtain ⟨sn, hsn, hs1⟩ : ∃ n : Nat, side = (n : Int) ∧ n ≤ 1 := by
                    rcases hs' with h | h
                    · exact ⟨0, by rw [h]; rfl, by omega⟩
                    · exact ⟨1, by rw [h]; rfl, by omega⟩
                  rw [hsn] at x3
                  refine ⟨StM.commitW { d with age := ag + 1 } ⟨ag + 1, 0, gr + 1, Jn.zero 0⟩ [rdyR sn], ?_, open1_new (HDW.out.far hba) (HSTW.out.far hba) (by show d.first.j.ready = false; rw [← HRD.out]; exact hr) ⟨by show 0 ≤ ag + 1; omega, by show ag + 1 < _; omega⟩ sn hs1 (by show 1 ≤ gr + 1; omega) (bkA x7) (bkA x3) (bkA x2)⟩
                  rw [HQ4.out, if_neg (by rw [hr]; simp)]
                  unfold Dk.begin8
                  rw [← HGR.out, ← HAG.out, hsn, Int.toNat_natCast]
              obtain ⟨q0, hq0, hcall⟩ := hcl
              have HQ0 := Lib.hid hq0
              have X7 := Lib.hid x7
              have HGD := Lib.hid (guard_any (w := W) (K := 73) (caps := #[.pointer (some ⟨b7, 0, none⟩), .pointer (some ⟨b2 + 1, 0, none⟩), .pointer (some ⟨b2, 0, none⟩)]) (fun W => enters_of Tryz.func73 (by kernel_rfl) rfl _ W) hcall (fun e w2 hr => ⟨hr.2.2.2 _ _ _ (Bk.new W _ _) (by decide), by
                cases hq : q0.1 with
                | true => exact .inr (hr.1 hq)
                | false => exact .inl ⟨0, hr.2.1 hq⟩⟩))
              have hmf : ∀ (fn : Fn) (first cap : Array Value) (w : World), (Instr.makeFunc fn first cap).run Tryz.prog w = .ok (.func fn first cap) w := fun _ _ _ _ => rfl
              clear hW hkW hno hjw x7 x3 x2 hfe hq0 hcall HQ4 m7 m2 m4 s1 sf HST GS GJ G2 G3 G7 HD9 HK9 HP9
              go_wp2_with fail
              refine HGD.out.mono ?_
              rintro e w5 ⟨e4, w4', hr4, rfl, hk5⟩
              have hfin := opn_fin HDW.out ⟨T, kv, xs, tb, tc, HSTW.out, rfl, rfl⟩ HKW.out HPW.out (by
                intro k hk
                rcases List.mem_cons.1 hk with rfl | hk
                · exact HSS.out.1
                · exact HF.out k hk) HO.out X7.out hr4 hk5
              have HFIN := Lib.hid hfin.2
              rw [hfin.1]
              have y7 : w5.cell? ⟨b7, 0, none⟩ = some (.pointer (some ⟨S, 0, none⟩)) := hfin.2.2.2.2.cell 0
              clear hfin hr4 hk5 HGD
              cases hq : q0.1 with
              | true =>
                have HQF : Hid (q = (13, q0.2.1, none)) := Lib.hid (HQ0.out.trans (if_pos hq))
                clear hq
                go_wp2_with fail
                refine bodyPost_ret (results_tmp2 rfl _ _ _) rfl ?_
                unfold OpnP
                rw [HQF.out]
                exact ⟨HFIN.out.1, HFIN.out.2.1, .inl ⟨rfl, rfl⟩⟩
              | false =>
                have HQF : Hid (q = (0, q0.2.1, some q0.2.2)) := Lib.hid (HQ0.out.trans (if_neg (by rw [hq]; simp)))
                clear hq
                go_wp2_with fail
                refine bodyPost_ret (results_tmp2 rfl _ _ _) rfl ?_
                unfold OpnP
                rw [HQF.out]
                obtain ⟨f1, f2, ⟨F', B', f3, f4, f5⟩, _⟩ := HFIN.out
                exact ⟨f1, f2, .inr ⟨_, S, F', B', rfl, rfl, f3, f4, f5⟩⟩
end
end Go.Proofs.YtdgmjedkhjeadaaGreat
namespace Go.Proofs.YtdgmjedkhjeadaaGreat
open List (setIfInBounds_toArray set_cons_zero set_cons_succ)
open Go.RowKit
set_option linter.unusedVariables false
def Dk.copy (d : Dk) : Dk := { d with age := 0 }
def CpyP (d : Dk) (w : World) (e : Ending) (w' : World) : Prop :=
  ∃ D' bs' bm' cp' p', e = .returned (.pointer (some ⟨D', 0, none⟩)) ∧ DkAt w' D' d.copy bs' bm' cp' p' ∧ (∀ k ∈ fpL D' bs' bm' p', w.heap.size ≤ k) ∧ Below w.heap.size w w'
/-- The sectors' cells. -/
theorem durC_one {l : List Sec} : ∀ u ∈ durC l, u.oneCell' = true := fun u hu => by
  unfold durC at hu
  obtain ⟨s, hs, hu⟩ := List.mem_flatten.1 hu
  obtain ⟨x, _, rfl⟩ := List.mem_map.1 hs
  exact secC_one x u hu
section
variable {w : World} {D : Nat} {d : Dk} {bs bm cp : Nat} {p : Option Addr}
theorem DkAt.durRd (h : DkAt w D d bs bm cp p) : Rd w w.heap.size 64 (some ⟨bs, 0, none⟩) d.dur.length (durC d.dur) := by
  obtain ⟨sp, hb⟩ := h.dur
  refine ⟨durC_length _ h.ok.dur, fun _ => ⟨bs, 0, rfl, hb.lt, fun j u hu => ?_⟩⟩
  rw [Nat.zero_add, hb.cell, List.getElem?_toArray, List.getElem?_append_left (List.getElem?_eq_some_iff.1 hu).1]
  exact hu
/-- A new row of sectors is a block. -/
theorem own_dur {W : World} {N : Nat} {A : Option Addr} {n c : Nat} {l : List Value} (hn : 0 < n) (h : W.ownsRow N 101 64 (.slice A n c) n l) : ∃ g sp, A = some ⟨g, 0, none⟩ ∧ N ≤ g ∧ Bk W g (l ++ sp).toArray 101 := by
  rcases h.2 with ⟨_, h0⟩ | ⟨g, cap, cur, hv, hg, hh, _, _, _, htk⟩
  · omega
  · injection hv with hA _ _
    refine ⟨g, cur.toList.drop (n * 64), hA, hg, ?_⟩
    rw [← htk, List.take_append_drop]
    exact hh
/-- A disk whose cache is empty, with no plan. -/
def Dk.bare (d : Dk) : Dk := ⟨d.dur, List.replicate d.dur.length none, none, d.down, 0⟩
theorem DkOK.bare {d : Dk} (h : DkOK d) : DkOK d.bare := ⟨h.n2, h.n256, by simp [Dk.bare], h.dur, fun s hs => (by cases (List.mem_replicate.1 hs).2), fun a k e => (by cases e)⟩
theorem bare_made {W : World} {d : Dk} (ho : DkOK d) {g b : Nat} (c : Nat) {sp : List Value} (hb : Bk W g (durC d.dur ++ sp).toArray 101) (hm : MapL intK W b [] (fun _ => none)) :
    DkAt (W.alloc (.cells #[.slice (some ⟨g, 0, none⟩) d.dur.length c, .map (some b), .pointer none, .bool d.down, .int .i64 0] 96)) W.heap.size d.bare g b c none := by
  have hB := balloc W (.cells #[.slice (some ⟨g, 0, none⟩) d.dur.length c, .map (some b), .pointer none, .bool d.down, .int .i64 0] 96)
  refine ⟨ho.bare, Bk.new _ _ _, ⟨sp, hb.past hB hb.lt⟩, ⟨[], (hm.keep (hB.block _ hm.lt)).same fun x hx => ?_⟩, rfl⟩
  unfold cchF Dk.bare
  dsimp only
  split
  · rw [List.getD_eq_getElem?_getD, List.getElem?_replicate]
    split <;> rfl
  · rfl
/-- The copy at the loop's start. -/
def CpyQ (w : World) (d : Dk) (v : Value) (wd : World) : Prop :=
  ∃ D' bs' bm' cp', v = .pointer (some ⟨D', 0, none⟩) ∧ DkAt wd D' d.bare bs' bm' cp' none ∧ w.heap.size ≤ D' ∧ w.heap.size ≤ bs' ∧ w.heap.size ≤ bm' ∧ Below w.heap.size w wd
theorem cpy_a {w w1 : World} {d : Dk} (ho : DkOK d) (c : Nat) (hb1 : Below w.drew.heap.size w.drew w1) {g : Nat} {sp : List Value} (hg : w.drew.heap.size ≤ g) (hbk : Bk w1 g (durC d.dur ++ sp).toArray 101) :
    CpyQ w d (.pointer (some ⟨w1.heap.size + 1, 0, none⟩)) ((w1.alloc (.map #[] 0)).alloc (.cells #[.slice (some ⟨g, 0, none⟩) d.dur.length c, .map (some w1.heap.size), .pointer none, .bool d.down, .int .i64 0] 96)) := by
  have hB : Below w.heap.size w w1 := bnextK (below_drew8 w _) hb1
  have e : (w1.alloc (.map #[] 0)).heap.size = w1.heap.size + 1 := Array.size_push _
  have h := bare_made ho c (hbk.past (balloc w1 (.map #[] 0)) hbk.lt) (MapL.made intK w1)
  rw [e] at h
  exact ⟨_, g, _, c, rfl, h, Nat.le_trans hB.size (Nat.le_succ _), hg, hB.size, bnextK (bnextK hB (balloc _ _)) (balloc _ _)⟩
theorem cpy_b {w w1 : World} {d : Dk} (ho : DkOK d) (c : Nat) (hb1 : Below (w.alloc (.map #[] 0)).drew.heap.size (w.alloc (.map #[] 0)).drew w1) {g : Nat} {sp : List Value} (hg : (w.alloc (.map #[] 0)).drew.heap.size ≤ g) (hbk : Bk w1 g (durC d.dur ++ sp).toArray 101) :
    CpyQ w d (.pointer (some ⟨w1.heap.size, 0, none⟩)) (w1.alloc (.cells #[.slice (some ⟨g, 0, none⟩) d.dur.length c, .map (some w.heap.size), .pointer none, .bool d.down, .int .i64 0] 96)) := by
  have hB0 : Below (w.alloc (.map #[] 0)).heap.size (w.alloc (.map #[] 0)) w1 := bnextK (below_drew8 _ _) hb1
  have hB : Below w.heap.size w w1 := bnextK (balloc w _) hB0
  have hm := (MapL.made intK w).keep (hB0.block _ (MapL.made intK w).lt)
  exact ⟨_, g, _, c, rfl, bare_made ho c hbk hm, hB.size, Nat.le_trans (balloc w (.map #[] 0)).size hg, Nat.le_refl _, bnextK hB (balloc _ _)⟩
/-- What the copy's cache holds while the old one is gone through. -/
def cpyL (d : Dk) (rest : List Int) : List (Option Sec) := (List.range d.dur.length).map fun i => if ((i : Nat) : Int) ∈ rest then none else d.cch.getD i none
def Dk.part (d : Dk) (rest : List Int) : Dk := ⟨d.dur, cpyL d rest, none, d.down, 0⟩
theorem cpyL_getD (d : Dk) (rest : List Int) (i : Nat) (hi : i < d.dur.length) : (cpyL d rest).getD i none = if (i : Int) ∈ rest then none else d.cch.getD i none := by
  unfold cpyL
  rw [List.getD_eq_getElem?_getD, List.getElem?_map, List.getElem?_range hi]
  rfl
theorem cpyL_nil {d : Dk} (ho : DkOK d) : cpyL d [] = d.cch := by
  refine List.ext_getElem (by simp [cpyL, ho.len]) fun i h1 h2 => ?_
  have h3 : i < d.dur.length := by rw [← ho.len]; exact h2
  have := cpyL_getD d [] i h3
  rw [if_neg (by simp), List.getD_eq_getElem?_getD, List.getD_eq_getElem?_getD, List.getElem?_eq_getElem h1, List.getElem?_eq_getElem h2] at this
  exact this
theorem cpyL_full {d : Dk} {l : List Int} (hl : ∀ i, i < d.dur.length → (d.cch.getD i none).isSome = true → (i : Int) ∈ l) : cpyL d l = List.replicate d.dur.length none := by
  refine List.ext_getElem (by simp [cpyL]) fun i h1 h2 => ?_
  have h3 : i < d.dur.length := by simpa using h2
  have := cpyL_getD d l i h3
  rw [List.getD_eq_getElem?_getD, List.getElem?_eq_getElem h1] at this
  refine this.trans ?_
  rw [List.getElem_replicate]
  split
  · rfl
  · rename_i hn
    cases hc : d.cch.getD i none with
    | none => rfl
    | some x => exact absurd (hl i h3 (by rw [hc]; rfl)) hn
theorem cpyL_set {d : Dk} {rest : List Int} (hnd : rest.Nodup) {i : Nat} (hi : i < d.dur.length) {s : Sec} (hs : d.cch.getD i none = some s) : (cpyL d rest).set i (some s) = cpyL d (rest.erase (i : Int)) := by
  refine List.ext_getElem (by simp [cpyL]) fun q h1 h2 => ?_
  have h3 : q < d.dur.length := by simpa [cpyL] using h2
  have e1 := cpyL_getD d rest q h3
  have e2 := cpyL_getD d (rest.erase (i : Int)) q h3
  rw [List.getD_eq_getElem?_getD, List.getElem?_eq_getElem h2] at e2
  rw [List.getElem_set]
  refine Eq.trans ?_ e2.symm
  by_cases hq : i = q
  · subst hq
    rw [if_pos rfl, if_neg (by rw [hnd.mem_erase_iff]; simp), hs]
  · rw [if_neg hq]
    have hm : ((q : Int) ∈ rest.erase (i : Int)) ↔ (q : Int) ∈ rest := by rw [hnd.mem_erase_iff]; exact ⟨fun h => h.2, fun h => ⟨by omega, h⟩⟩
    rw [List.getD_eq_getElem?_getD, List.getElem?_eq_getElem (by simpa [cpyL] using h3)] at e1
    refine Eq.trans e1 ?_
    by_cases hr : (q : Int) ∈ rest
    · rw [if_pos hr, if_pos (hm.2 hr)]
    · rw [if_neg hr, if_neg (fun h => hr (hm.1 h))]
/-- The loop's state. -/
structure CyS (w0 : World) (bm r D1 bs1 bm1 cp1 : Nat) (d : Dk) (l rest : List Int) (w : World) : Prop where
  rng : RngI w bm r l rest (cchF d)
  dk : DkAt w D1 (d.part rest) bs1 bm1 cp1 none
  keep : KeepL (r :: fpL D1 bs1 bm1 none) w0 w
theorem kRd {w W : World} {A : Option Addr} {c : Nat} {k : List Nat} (h : KpV w (.slice A k.length c) k) (hW : Below w.heap.size w W) : Rd W W.heap.size 1 A k.length ((k.map fun (x : Nat) => (x : Int)).map (Value.int .i64)) := by
  obtain ⟨A', c', e, h1⟩ := h.far hW
  injection e with e1 _ _
  subst e1
  refine ⟨by simp, fun hn => ?_⟩
  obtain ⟨b, C, rfl, h2, h3⟩ := h1 (by intro e; rw [e] at hn; simp at hn)
  refine ⟨b, 0, rfl, h2.lt, fun j u hu => ?_⟩
  rw [Nat.zero_add, h2.cell]
  have hj : j < k.length := by have := (List.getElem?_eq_some_iff.1 hu).1; simpa using this
  rw [h3 j hj]
  rw [List.getElem?_map, List.getElem?_map, List.getElem?_eq_getElem hj] at hu
  rw [List.getD_eq_getElem?_getD, List.getElem?_eq_getElem hj]
  exact hu
theorem own_KpV {W : World} {N : Nat} {A : Option Addr} {c : Nat} {k : List Nat} (h : W.ownsRow N 3 1 (.slice A k.length c) k.length ((k.map fun (x : Nat) => (x : Int)).map (Value.int .i64))) : KpV W (.slice A k.length c) k := by
  refine ⟨A, c, rfl, fun hk => ?_⟩
  rcases h.2 with ⟨_, h0⟩ | ⟨g, cap, cur, hv, hg, hh, _, _, _, htk⟩
  · exact absurd (List.length_eq_zero_iff.1 (by omega)) hk
  · injection hv with hA _ _
    refine ⟨g, cur, hA, hh, fun i hi => ?_⟩
    have e : (cur.toList.take (k.length * 1))[i]? = some (.int .i64 (k.getD i 0 : Nat)) := by
      rw [htk, List.getElem?_map, List.getElem?_map, List.getElem?_eq_getElem hi, List.getD_eq_getElem?_getD, List.getElem?_eq_getElem hi]
      rfl
    rw [List.getElem?_take] at e
    split at e
    · rw [← e, Array.getElem?_toList]
    · cases e
theorem cpy_p {w wa W w6 : World} {d : Dk} {a : Nat} {k : List Nat} {D1 bs1 bm1 cp1 : Nat} {A' : Option Addr} {c' : Nat}
    (hf : d.plan = some (a, k) ∧ (w.heap.size ≤ D1 ∧ w.heap.size ≤ bs1 ∧ w.heap.size ≤ bm1) ∧ Below w.heap.size w wa ∧ DkOK d)
    (hd : DkAt wa D1 ⟨d.dur, d.cch, none, d.down, 0⟩ bs1 bm1 cp1 none) (hW : Below wa.heap.size wa W) (hb : Below W.heap.size W w6)
    (ho : w6.ownsRow W.heap.size 3 1 (.slice A' k.length c') k.length ((k.map fun (x : Nat) => (x : Int)).map (Value.int .i64))) :
    CpyP d w (.returned (.pointer (some ⟨D1, 0, none⟩))) ((w6.alloc (.cells #[.int .i64 (a : Int), .slice A' k.length c'] 103)).setCell ⟨D1, 2, none⟩ (.pointer (some ⟨w6.heap.size, 0, none⟩))) := by
  obtain ⟨hq, hge, hba, hok⟩ := hf
  obtain ⟨w7, hw7⟩ : ∃ z, z = w6.alloc (.cells #[.int .i64 (a : Int), .slice A' k.length c'] 103) := ⟨_, rfl⟩
  have h6 : Below wa.heap.size wa w6 := bnextK hW hb
  have h7 : Below w6.heap.size w6 w7 := by rw [hw7]; exact balloc _ _
  have hB7 : Bk w7 w6.heap.size #[.int .i64 (a : Int), .slice A' k.length c'] 103 := by rw [hw7]; exact Bk.new _ _ _
  have hk7 : KpV w7 (.slice A' k.length c') k := (own_KpV ho).far h7
  have hd7 := hd.far (bnextK h6 h7)
  rw [← hw7]
  clear hw7
  have hks : KeepL [D1] w7 (w7.setCell ⟨D1, 2, none⟩ (.pointer (some ⟨w6.heap.size, 0, none⟩))) := KeepL.set _ _ _ _
  obtain ⟨x1, x2, ⟨sp, x3⟩, ⟨l, x4⟩, x5⟩ := hd7
  refine ⟨D1, bs1, bm1, cp1, some ⟨w6.heap.size, 0, none⟩, rfl, ⟨⟨hok.n2, hok.n256, hok.len, hok.dur, hok.cch, hok.keep⟩, ?_, ⟨sp, x3.keepL hks (by simp only [List.mem_singleton]; exact fun e => x3.ne x2 (by decide) e)⟩, ⟨l, x4.keep (hks.block bm1 x4.lt (by simp only [List.mem_singleton]; exact fun e => x2.nemap x4 e.symm))⟩, ?_⟩, fun z hz => ?_, ?_⟩
  · exact x2.set 2 _
  · show PlanAt _ _ d.plan
    rw [hq]
    refine ⟨w6.heap.size, _, rfl, hB7.keepL hks (by simp only [List.mem_singleton]; exact fun e => hB7.ne x2 (by decide) e), ?_⟩
    obtain ⟨A2, c2, e, h2⟩ := hk7
    refine ⟨A2, c2, e, fun hk => ?_⟩
    obtain ⟨g, C, e1, h3, h4⟩ := h2 hk
    exact ⟨g, C, e1, h3.keepL hks (by simp only [List.mem_singleton]; exact fun e => h3.ne x2 (by decide) e), h4⟩
  · simp only [fpL, List.mem_cons, List.not_mem_nil, or_false] at hz
    have h8 := hba.size
    have h9 := h6.size
    rcases hz with rfl | rfl | rfl | rfl
    · exact hge.1
    · exact hge.2.1
    · exact hge.2.2
    · omega
  · exact (hba.trans ((bnextK h6 h7).mono hba.size)).trans (hks.below (Nat.le_trans hba.size (bnextK h6 h7).size) (fun z hz => by simp only [List.mem_singleton] at hz; subst hz; exact hge.1))
theorem DkAt.kept8 {w w' : World} {D : Nat} {d : Dk} {bs bm cp r : Nat} (h : DkAt w D d bs bm cp none) (hk : KeepL [r] w w') (hn : ∀ k ∈ fpL D bs bm none, k ∉ [r]) : DkAt w' D d bs bm cp none := by
  obtain ⟨h1, h2, ⟨sp, h3⟩, ⟨l, h4⟩, h5⟩ := h
  refine ⟨h1, h2.keepL hk (hn D (by simp [fpL])), ⟨sp, h3.keepL hk (hn bs (by simp [fpL]))⟩, ⟨l, h4.keep (hk.block bm h4.lt (hn bm (by simp [fpL])))⟩, ?_⟩
  cases hp : d.plan with
  | none => exact rfl
  | some q =>
    rw [hp] at h5
    obtain ⟨bp, kv, e, _⟩ := h5
    cases e
set_option maxRecDepth 100000 in
set_option maxHeartbeats 2000000 in
theorem copy8_any (h : DkAt w D d bs bm cp p) : Calls Tryz.prog 13 #[.pointer (some ⟨D, 0, none⟩)] w (CpyP d w) := by
  have HV := Lib.hid (dvalid_any h)
  have HD := Lib.hid h
  have hmm := @run_makeMap Tryz.prog
  have HCL : Hid (∀ W, Below w.heap.size w W → Calls Tryz.prog 44 #[.slice (some ⟨bs, 0, none⟩) d.dur.length cp] W fun e w' => ∃ A' c', e = .returned (.slice A' d.dur.length c') ∧ d.dur.length ≤ c' ∧ w'.ownsRow W.heap.size 101 64 (.slice A' d.dur.length c') d.dur.length (durC d.dur) ∧ Below W.heap.size W w') := Lib.hid fun W hW =>
    CloneSec_any _ _ _ _ W (by have := h.ok.n256; omega) durC_one (h.far hW).durRd
  have HSb : Hid (∀ W, Below w.heap.size w W → W.cell? ⟨D, 0, none⟩ = some (.slice (some ⟨bs, 0, none⟩) d.dur.length cp) ∧ W.cell? ⟨D, 3, none⟩ = some (.bool d.down)) := Lib.hid fun W hW => ⟨(h.far hW).c0, (h.far hW).c3⟩
  have HNL := Lib.hid (And.intro h.ok.n2 h.ok.n256)
  clear h
  go_enter Tryz.func13, Tryz.ntmps13
  go_wp2_with fail
  refine HV.out.mono ?_
  rintro e w' ⟨rfl, rfl⟩
  clear HV
  go_upto_region 3 with fail
  go_cut [3] from 3 to 21 (fun v3 wd => CpyQ w d v3 wd)
  case first => as_aux_lemma =>
      -- <REGION r3
      refine wp_region_held_drew (S := (fun W => W.cell? ⟨D, 0, none⟩ = some (.slice (some ⟨bs, 0, none⟩) d.dur.length cp) ∧ W.cell? ⟨D, 3, none⟩ = some (.bool d.down))) (by kernel_rfl) ?_ (fun hHeld => ?_)
      · (try dsimp only); exact HSb.out _ (by (repeat (first | exact Below.refl _ _ | exact below_drew8 _ _ | refine bnextK ?_ (balloc _ _) | refine bnextK ?_ (below_drew8 _ _) | refine bnextK ?_ hb1)))
      refine wpAnyH_take (i := 0) (oi := ⟨some 9, _, _, _, _, _⟩) (v := ?_) rfl (by kernel_rfl) (by kernel_rfl) (by kernel_rfl) (fun _ _ _ h => h) (Or.inl ⟨by rfl, ?_⟩) (by assumption) ?_; rotate_left
      · intro w hSw; (try dsimp only at hSw); go_simp; try with_reducible rfl
      try simp only [Act.put, setIfInBounds_toArray, set_cons_zero, set_cons_succ]
      refine wpAnyH_take (i := 1) (oi := ⟨some 10, _, _, _, _, _⟩) (v := ?_) rfl (by kernel_rfl) (by kernel_rfl) (by kernel_rfl) (fun _ _ _ h => h) (Or.inl ⟨by rfl, ?_⟩) (by assumption) ?_; rotate_left
      · intro w hSw; (try dsimp only at hSw); go_simp; try with_reducible rfl
      try simp only [Act.put, setIfInBounds_toArray, set_cons_zero, set_cons_succ]
      refine wpAnyH_take (i := 2) (oi := ⟨some 11, _, _, _, _, _⟩) (v := ?_) rfl (by kernel_rfl) (by kernel_rfl) (by kernel_rfl) (fun _ _ _ h => h) (Or.inl ⟨by rfl, ?_⟩) (by assumption) ?_; rotate_left
      · intro w hSw; (try dsimp only at hSw); go_simp; try with_reducible rfl
      try simp only [Act.put, setIfInBounds_toArray, set_cons_zero, set_cons_succ]
      refine wpAnyH_take (i := 3) (oi := ⟨some 12, _, _, _, _, _⟩) (v := ?_) rfl (by kernel_rfl) (by kernel_rfl) (by kernel_rfl) (fun _ _ _ h => h) (Or.inl ⟨by rfl, ?_⟩) (by assumption) ?_; rotate_left
      · intro w hSw; (try dsimp only at hSw); go_simp; try with_reducible rfl
      try simp only [Act.put, setIfInBounds_toArray, set_cons_zero, set_cons_succ]
      refine wpAnyH_take (i := 6) (oi := ⟨some 15, _, _, _, _, _⟩) (v := ?_) rfl (by kernel_rfl) (by kernel_rfl) (by kernel_rfl) (fun _ _ _ h => h) (Or.inl ⟨by rfl, ?_⟩) (by assumption) ?_; rotate_left
      · intro w hSw; (try dsimp only at hSw); go_simp; try with_reducible rfl
      try simp only [Act.put, setIfInBounds_toArray, set_cons_zero, set_cons_succ]
      refine wpAnyH_take (i := 7) (oi := ⟨some 16, _, _, _, _, _⟩) (v := ?_) rfl (by kernel_rfl) (by kernel_rfl) (by kernel_rfl) (fun _ _ _ h => h) (Or.inl ⟨by rfl, ?_⟩) (by assumption) ?_; rotate_left
      · intro w hSw; (try dsimp only at hSw); go_simp; try with_reducible rfl
      try simp only [Act.put, setIfInBounds_toArray, set_cons_zero, set_cons_succ]
      refine wpAnyH_take (i := 8) (oi := ⟨some 17, _, _, _, _, _⟩) (v := ?_) rfl (by kernel_rfl) (by kernel_rfl) (by kernel_rfl) (fun _ _ _ h => h) (Or.inl ⟨by rfl, ?_⟩) (by assumption) ?_; rotate_left
      · intro w hSw; (try dsimp only at hSw); go_simp; try with_reducible rfl
      try simp only [Act.put, setIfInBounds_toArray, set_cons_zero, set_cons_succ]
      refine wpAnyH_take (i := 9) (oi := ⟨some 18, _, _, _, _, _⟩) (v := ?_) rfl (by kernel_rfl) (by kernel_rfl) (by kernel_rfl) (fun _ _ _ h => h) (Or.inl ⟨by rfl, ?_⟩) (by assumption) ?_; rotate_left
      · intro w hSw; (try dsimp only at hSw); go_simp; try with_reducible rfl
      try simp only [Act.put, setIfInBounds_toArray, set_cons_zero, set_cons_succ]
      refine wpAnyH_ready (rs := [4, 5]) (by kernel_rfl) (by simp) ?_
      refine AllReadyH.cons (o := ⟨some 13, _, _, _, _, _⟩) rfl (fun K hK => ?_) ?_
      · skip
        go_simp
        refine (HCL.out _ (by (repeat (first | exact Below.refl _ _ | exact below_drew8 _ _ | refine bnextK ?_ (balloc _ _) | refine bnextK ?_ (below_drew8 _ _) | refine bnextK ?_ hb1)))).mono ?_
        rintro e' w1 ⟨A', c', rfl, hc1, ho1, hb1⟩
        have HO1 := Lib.hid ho1
        have HC1 := Lib.hid hc1
        clear ho1 hc1
        go_wp2_with fail
        refine hK.out _ _ ?_ (fun hHeld => ?_)
        · (try dsimp only); exact HSb.out _ (by (repeat (first | exact Below.refl _ _ | exact below_drew8 _ _ | refine bnextK ?_ (balloc _ _) | refine bnextK ?_ (below_drew8 _ _) | refine bnextK ?_ hb1)))
        clear hK K
        try simp only [Act.put, setIfInBounds_toArray, set_cons_zero, set_cons_succ]
        refine wpAnyH_ready (rs := [5]) (by kernel_rfl) (by simp) ?_
        refine AllReadyH.cons (o := ⟨some 14, _, _, _, _, _⟩) rfl (fun K hK => ?_) AllReadyH.nil
        go_simp
        refine hK.out _ _ ?_ (fun hHeld => ?_)
        · (try dsimp only); exact HSb.out _ (by (repeat (first | exact Below.refl _ _ | exact below_drew8 _ _ | refine bnextK ?_ (balloc _ _) | refine bnextK ?_ (below_drew8 _ _) | refine bnextK ?_ hb1)))
        clear hK K
        try simp only [Act.put, setIfInBounds_toArray, set_cons_zero, set_cons_succ]
        refine wpAnyH_take (i := 10) (oi := ⟨some 19, _, _, _, _, _⟩) (v := ?_) rfl (by kernel_rfl) (by kernel_rfl) (by kernel_rfl) (fun _ _ _ h => h) (Or.inl ⟨by rfl, ?_⟩) (by assumption) ?_; rotate_left
        · intro w hSw; (try dsimp only at hSw); go_simp; try with_reducible rfl
        try simp only [Act.put, setIfInBounds_toArray, set_cons_zero, set_cons_succ]
        refine wpAnyH_ready (rs := [11]) (by kernel_rfl) (by simp) ?_
        refine AllReadyH.cons (o := ⟨some 20, _, _, _, _, _⟩) rfl (fun K hK => ?_) AllReadyH.nil
        go_simp
        refine hK.out _ _ ?_ (fun hHeld => ?_)
        · (try dsimp only); exact HSb.out _ (by (repeat (first | exact Below.refl _ _ | exact below_drew8 _ _ | refine bnextK ?_ (balloc _ _) | refine bnextK ?_ (below_drew8 _ _) | refine bnextK ?_ hb1)))
        clear hK K
        try simp only [Act.put, setIfInBounds_toArray, set_cons_zero, set_cons_succ]
        refine wpAnyH_take (i := 12) (oi := ⟨some 3, _, _, _, _, _⟩) (v := ?_) rfl (by kernel_rfl) (by kernel_rfl) (by kernel_rfl) (fun _ _ _ h => h) (Or.inl ⟨by rfl, ?_⟩) (by assumption) ?_; rotate_left
        · intro w hSw; (try dsimp only at hSw); go_simp; try with_reducible rfl
        try simp only [Act.put, setIfInBounds_toArray, set_cons_zero, set_cons_succ]
        refine wpAnyH_done (by kernel_rfl) ?_ _
        go_wp2_with fail
        go_meet
        obtain ⟨g, sp, rfl, hg, hbk⟩ := own_dur (by have := HNL.out.1; omega) HO1.out
        first
          | exact cpy_a HD.out.ok c' hb1 hg hbk
          | exact cpy_b HD.out.ok c' hb1 hg hbk
      refine AllReadyH.cons (o := ⟨some 14, _, _, _, _, _⟩) rfl (fun K hK => ?_) AllReadyH.nil
      go_simp
      refine hK.out _ _ ?_ (fun hHeld => ?_)
      · (try dsimp only); exact HSb.out _ (by (repeat (first | exact Below.refl _ _ | exact below_drew8 _ _ | refine bnextK ?_ (balloc _ _) | refine bnextK ?_ (below_drew8 _ _) | refine bnextK ?_ hb1)))
      clear hK K
      try simp only [Act.put, setIfInBounds_toArray, set_cons_zero, set_cons_succ]
      refine wpAnyH_ready (rs := [4]) (by kernel_rfl) (by simp) ?_
      refine AllReadyH.cons (o := ⟨some 13, _, _, _, _, _⟩) rfl (fun K hK => ?_) AllReadyH.nil
      go_simp
      refine (HCL.out _ (by (repeat (first | exact Below.refl _ _ | exact below_drew8 _ _ | refine bnextK ?_ (balloc _ _) | refine bnextK ?_ (below_drew8 _ _) | refine bnextK ?_ hb1)))).mono ?_
      rintro e' w1 ⟨A', c', rfl, hc1, ho1, hb1⟩
      have HO1 := Lib.hid ho1
      have HC1 := Lib.hid hc1
      clear ho1 hc1
      go_wp2_with fail
      refine hK.out _ _ ?_ (fun hHeld => ?_)
      · (try dsimp only); exact HSb.out _ (by (repeat (first | exact Below.refl _ _ | exact below_drew8 _ _ | refine bnextK ?_ (balloc _ _) | refine bnextK ?_ (below_drew8 _ _) | refine bnextK ?_ hb1)))
      clear hK K
      try simp only [Act.put, setIfInBounds_toArray, set_cons_zero, set_cons_succ]
      refine wpAnyH_take (i := 10) (oi := ⟨some 19, _, _, _, _, _⟩) (v := ?_) rfl (by kernel_rfl) (by kernel_rfl) (by kernel_rfl) (fun _ _ _ h => h) (Or.inl ⟨by rfl, ?_⟩) (by assumption) ?_; rotate_left
      · intro w hSw; (try dsimp only at hSw); go_simp; try with_reducible rfl
      try simp only [Act.put, setIfInBounds_toArray, set_cons_zero, set_cons_succ]
      refine wpAnyH_ready (rs := [11]) (by kernel_rfl) (by simp) ?_
      refine AllReadyH.cons (o := ⟨some 20, _, _, _, _, _⟩) rfl (fun K hK => ?_) AllReadyH.nil
      go_simp
      refine hK.out _ _ ?_ (fun hHeld => ?_)
      · (try dsimp only); exact HSb.out _ (by (repeat (first | exact Below.refl _ _ | exact below_drew8 _ _ | refine bnextK ?_ (balloc _ _) | refine bnextK ?_ (below_drew8 _ _) | refine bnextK ?_ hb1)))
      clear hK K
      try simp only [Act.put, setIfInBounds_toArray, set_cons_zero, set_cons_succ]
      refine wpAnyH_take (i := 12) (oi := ⟨some 3, _, _, _, _, _⟩) (v := ?_) rfl (by kernel_rfl) (by kernel_rfl) (by kernel_rfl) (fun _ _ _ h => h) (Or.inl ⟨by rfl, ?_⟩) (by assumption) ?_; rotate_left
      · intro w hSw; (try dsimp only at hSw); go_simp; try with_reducible rfl
      try simp only [Act.put, setIfInBounds_toArray, set_cons_zero, set_cons_succ]
      refine wpAnyH_done (by kernel_rfl) ?_ _
      go_wp2_with fail
      go_meet
      obtain ⟨g, sp, rfl, hg, hbk⟩ := own_dur (by have := HNL.out.1; omega) HO1.out
      first
        | exact cpy_a HD.out.ok c' hb1 hg hbk
        | exact cpy_b HD.out.ok c' hb1 hg hbk
      -- REGION>
  case rest => as_aux_lemma =>
    obtain ⟨D1, bs1, bm1, cp1, rfl, hd1, hD1, hs1, hm1, hb⟩ := hcut
    clear HCL HSb hmm
    have HDw := Lib.hid (HD.out.far hb)
    obtain ⟨l, hm⟩ := HDw.out.cch
    have c1 := HDw.out.c1
    have HM := Lib.hid hm; have HD1 := Lib.hid hd1; have HGE := Lib.hid (And.intro hD1 (And.intro hs1 hm1)); have HB := Lib.hid hb
    clear hm hd1 hD1 hs1 hm1 hb
    obtain ⟨w1, rfl⟩ : ∃ z : World, z = wc := ⟨_, rfl⟩
    go_wp2_with (at_range; refine wpList_rangeI _ rfl _ _ _ rfl Tryz.underlying93 bm l _ rfl HM.out ?_; intro w2 hr2 hg2 hs2)
    try simp only [Act.put, setIfInBounds_toArray, set_cons_zero, set_cons_succ]
    have HC : Hid (CyS w1 bm w1.heap.size D1 bs1 bm1 cp1 d l l w2) := Lib.hid (by
      have hb := bgrown hg2
      refine ⟨hr2, ?_, KeepL.of_below hb⟩
      have e : d.part l = d.bare := by
        unfold Dk.part Dk.bare
        rw [cpyL_full fun i hi hc => (HDw.out.keys HM.out _).2 ⟨i, (frK_mem _ _ _).2 ⟨Nat.zero_le _, by rw [HDw.out.ok.len]; omega, by rw [Nat.sub_zero]; exact hc⟩, rfl⟩]
      rw [e]
      exact HD1.out.far hb)
    have HR : Hid ((∀ k ∈ fpL D bs bm p, k < w1.heap.size) ∧ (∀ k ∈ fpL D1 bs1 bm1 none, k < w1.heap.size) ∧ ∀ k ∈ fpL D bs bm p, k < w.heap.size) := Lib.hid ⟨HDw.out.fpLt, HD1.out.fpLt, HD.out.fpLt⟩
    clear hr2 hg2 hs2 c1
    obtain ⟨r, hr⟩ : ∃ r, r = w1.heap.size := ⟨_, rfl⟩
    rw [← hr] at HC ⊢
    have HRS := Lib.hid hr
    clear hr
    go_loopw [4, 5] (fun _ _ wr => ∃ rest, CyS w1 bm r D1 bs1 bm1 cp1 d l rest wr) (fun _ _ wr => wr.rangeLeft bm r)
    case atStart => exact ⟨l, HC.out⟩
    case round =>
      clear HC
      obtain ⟨rest, hc⟩ := hrel
      obtain ⟨wa, rfl⟩ : ∃ z : World, z = wr := ⟨_, rfl⟩
      have HC := Lib.hid hc
      clear hc
      go_wp2_with (at_next; refine wpList_nextI _ rfl _ rfl bm r l rest _ rfl HC.out.rng ?_ ?_)
      · intro hrest
        subst hrest
        have HBA : Hid (Below w.heap.size w wa) := Lib.hid (HB.out.trans (HC.out.keep.below HB.out.size (fun k hk => by
          rcases List.mem_cons.1 hk with rfl | hk
          · rw [HRS.out]; exact HB.out.size
          · have h2 := HGE.out
            simp only [fpL, List.mem_cons, List.not_mem_nil, or_false] at hk
            omega)))
        have HDA := Lib.hid (HD.out.far HBA.out)
        have HCA : Hid (DkAt wa D1 ⟨d.dur, d.cch, none, d.down, 0⟩ bs1 bm1 cp1 none) := Lib.hid (by
          have := HC.out.dk
          unfold Dk.part at this
          rw [cpyL_nil HD.out.ok] at this
          exact this)
        have c2 := HDA.out.c2
        have hP := HDA.out.plan
        clear HC HM HDw
        cases hq : d.plan with
        | none =>
          rw [hq] at hP
          obtain rfl : p = none := hP
          have HF : Hid (CpyP d w (.returned (.pointer (some ⟨D1, 0, none⟩))) wa) := Lib.hid ⟨D1, bs1, bm1, cp1, none, rfl, (by have := HCA.out; unfold Dk.copy; rw [hq]; exact this), (fun k hk => by
            have h2 := HGE.out
            simp only [fpL, List.mem_cons, List.not_mem_nil, or_false] at hk
            omega), HBA.out⟩
          clear hq
          go_wp2_with fail
          go_ret
          exact HF.out
        | some q =>
          obtain ⟨a, k⟩ := q
          rw [hq] at hP
          obtain ⟨bp, kv, rfl, hbp, hkv⟩ := hP
          obtain ⟨A, c, rfl, hk1⟩ := hkv
          have HS9 : Hid (∀ W, Below wa.heap.size wa W → W.cell? ⟨D, 2, none⟩ = some (.pointer (some ⟨bp, 0, none⟩)) ∧ W.cell? ⟨bp, 0, none⟩ = some (.int .i64 (a : Int)) ∧ W.cell? ⟨bp, 1, none⟩ = some (.slice A k.length c)) := Lib.hid fun W hW =>
            ⟨(HDA.out.far hW).c2, by rw [(hbp.past hW hbp.lt).cell]; rfl, by rw [(hbp.past hW hbp.lt).cell]; rfl⟩
          have HS9s : Hid (∀ W u, Below wa.heap.size wa W → (W.setCell ⟨D1, 2, none⟩ u).cell? ⟨D, 2, none⟩ = some (.pointer (some ⟨bp, 0, none⟩)) ∧ (W.setCell ⟨D1, 2, none⟩ u).cell? ⟨bp, 0, none⟩ = some (.int .i64 (a : Int)) ∧ (W.setCell ⟨D1, 2, none⟩ u).cell? ⟨bp, 1, none⟩ = some (.slice A k.length c)) := Lib.hid fun W u hW => by
            have hk := KeepL.set W D1 2 u
            have h1 := HR.out.2.2 D (by simp [fpL])
            have h2 := HR.out.2.2 bp (by simp [fpL])
            have h3 := HGE.out.1
            have h4 := HBA.out.size
            have h5 := hW.size
            have n1 : D ∉ [D1] := by simp only [List.mem_singleton]; omega
            have n2 : bp ∉ [D1] := by simp only [List.mem_singleton]; omega
            rw [hk.cell (by omega) n1, hk.cell (by omega) n2, hk.cell (by omega) n2]
            exact HS9.out W hW
          have HC2 : Hid (∀ W, Below wa.heap.size wa W → W.cell? ⟨D1, 2, none⟩ = some (.pointer none) ∧ W.frozen? ⟨D1, 2, none⟩ = false) := Lib.hid fun W hW => ⟨(HCA.out.far hW).c2, (HCA.out.far hW).f 2⟩
          have HCI : Hid (∀ W, Below wa.heap.size wa W → Calls Tryz.prog 45 #[.slice A k.length c] W fun e w' => ∃ A' c', e = .returned (.slice A' k.length c') ∧ k.length ≤ c' ∧ w'.ownsRow W.heap.size 3 1 (.slice A' k.length c') k.length ((k.map fun (x : Nat) => (x : Int)).map (Value.int .i64)) ∧ Below W.heap.size W w') := Lib.hid fun W hW =>
            CloneI_any A k.length c (k.map fun (x : Nat) => (x : Int)) W (by have := (HD.out.ok.keep a k hq).1; omega) (kRd ⟨A, c, rfl, hk1⟩ hW)
          have HF := Lib.hid (And.intro hq (And.intro HGE.out (And.intro HBA.out HD.out.ok)))
          clear hbp hk1 hq
          go_upto_region 9 with fail
          -- <REGION r9
          refine wp_region_held_drew (S := (fun W => W.cell? ⟨D, 2, none⟩ = some (.pointer (some ⟨bp, 0, none⟩)) ∧ W.cell? ⟨bp, 0, none⟩ = some (.int .i64 (a : Int)) ∧ W.cell? ⟨bp, 1, none⟩ = some (.slice A k.length c))) (by kernel_rfl) ?_ (fun hHeld => ?_)
          · (try dsimp only); first | (refine HS9s.out _ _ ?_; (repeat (first | exact Below.refl _ _ | exact below_drew8 _ _ | refine bnextK ?_ (balloc _ _) | refine bnextK ?_ (below_drew8 _ _) | refine bnextK ?_ hb6)); done) | (refine HS9.out _ ?_; (repeat (first | exact Below.refl _ _ | exact below_drew8 _ _ | refine bnextK ?_ (balloc _ _) | refine bnextK ?_ (below_drew8 _ _) | refine bnextK ?_ hb6)); done)
          refine wpAnyH_take (i := 0) (oi := ⟨some 42, _, _, _, _, _⟩) (v := ?_) rfl (by kernel_rfl) (by kernel_rfl) (by kernel_rfl) (fun _ _ _ h => h) (Or.inl ⟨by rfl, ?_⟩) (by assumption) ?_; rotate_left
          · intro w hSw; (try dsimp only at hSw); go_simp; try with_reducible rfl
          try simp only [Act.put, setIfInBounds_toArray, set_cons_zero, set_cons_succ]
          refine wpAnyH_take (i := 1) (oi := ⟨some 43, _, _, _, _, _⟩) (v := ?_) rfl (by kernel_rfl) (by kernel_rfl) (by kernel_rfl) (fun _ _ _ h => h) (Or.inl ⟨by rfl, ?_⟩) (by assumption) ?_; rotate_left
          · intro w hSw; (try dsimp only at hSw); go_simp; try with_reducible rfl
          try simp only [Act.put, setIfInBounds_toArray, set_cons_zero, set_cons_succ]
          refine wpAnyH_take (i := 2) (oi := ⟨some 44, _, _, _, _, _⟩) (v := ?_) rfl (by kernel_rfl) (by kernel_rfl) (by kernel_rfl) (fun _ _ _ h => h) (Or.inl ⟨by rfl, ?_⟩) (by assumption) ?_; rotate_left
          · intro w hSw; (try dsimp only at hSw); go_simp; try with_reducible rfl
          try simp only [Act.put, setIfInBounds_toArray, set_cons_zero, set_cons_succ]
          refine wpAnyH_take (i := 3) (oi := ⟨some 45, _, _, _, _, _⟩) (v := ?_) rfl (by kernel_rfl) (by kernel_rfl) (by kernel_rfl) (fun _ _ _ h => h) (Or.inl ⟨by rfl, ?_⟩) (by assumption) ?_; rotate_left
          · intro w hSw; (try dsimp only at hSw); go_simp; try with_reducible rfl
          try simp only [Act.put, setIfInBounds_toArray, set_cons_zero, set_cons_succ]
          refine wpAnyH_take (i := 4) (oi := ⟨some 46, _, _, _, _, _⟩) (v := ?_) rfl (by kernel_rfl) (by kernel_rfl) (by kernel_rfl) (fun _ _ _ h => h) (Or.inl ⟨by rfl, ?_⟩) (by assumption) ?_; rotate_left
          · intro w hSw; (try dsimp only at hSw); go_simp; try with_reducible rfl
          try simp only [Act.put, setIfInBounds_toArray, set_cons_zero, set_cons_succ]
          refine wpAnyH_take (i := 5) (oi := ⟨some 47, _, _, _, _, _⟩) (v := ?_) rfl (by kernel_rfl) (by kernel_rfl) (by kernel_rfl) (fun _ _ _ h => h) (Or.inl ⟨by rfl, ?_⟩) (by assumption) ?_; rotate_left
          · intro w hSw; (try dsimp only at hSw); go_simp; try with_reducible rfl
          try simp only [Act.put, setIfInBounds_toArray, set_cons_zero, set_cons_succ]
          refine wpAnyH_take (i := 6) (oi := ⟨some 48, _, _, _, _, _⟩) (v := ?_) rfl (by kernel_rfl) (by kernel_rfl) (by kernel_rfl) (fun _ _ _ h => h) (Or.inl ⟨by rfl, ?_⟩) (by assumption) ?_; rotate_left
          · intro w hSw; (try dsimp only at hSw); go_simp; try with_reducible rfl
          try simp only [Act.put, setIfInBounds_toArray, set_cons_zero, set_cons_succ]
          refine wpAnyH_take (i := 7) (oi := ⟨some 49, _, _, _, _, _⟩) (v := ?_) rfl (by kernel_rfl) (by kernel_rfl) (by kernel_rfl) (fun _ _ _ h => h) (Or.inl ⟨by rfl, ?_⟩) (by assumption) ?_; rotate_left
          · intro w hSw; (try dsimp only at hSw); go_simp; try with_reducible rfl
          try simp only [Act.put, setIfInBounds_toArray, set_cons_zero, set_cons_succ]
          refine wpAnyH_take (i := 8) (oi := ⟨some 50, _, _, _, _, _⟩) (v := ?_) rfl (by kernel_rfl) (by kernel_rfl) (by kernel_rfl) (fun _ _ _ h => h) (Or.inl ⟨by rfl, ?_⟩) (by assumption) ?_; rotate_left
          · intro w hSw; (try dsimp only at hSw); go_simp; try with_reducible rfl
          try simp only [Act.put, setIfInBounds_toArray, set_cons_zero, set_cons_succ]
          refine wpAnyH_take (i := 9) (oi := ⟨some 51, _, _, _, _, _⟩) (v := ?_) rfl (by kernel_rfl) (by kernel_rfl) (by kernel_rfl) (fun _ _ _ h => h) (Or.inl ⟨by rfl, ?_⟩) (by assumption) ?_; rotate_left
          · intro w hSw; (try dsimp only at hSw); go_simp; try with_reducible rfl
          try simp only [Act.put, setIfInBounds_toArray, set_cons_zero, set_cons_succ]
          refine wpAnyH_take (i := 10) (oi := ⟨some 52, _, _, _, _, _⟩) (v := ?_) rfl (by kernel_rfl) (by kernel_rfl) (by kernel_rfl) (fun _ _ _ h => h) (Or.inl ⟨by rfl, ?_⟩) (by assumption) ?_; rotate_left
          · intro w hSw; (try dsimp only at hSw); go_simp; try with_reducible rfl
          try simp only [Act.put, setIfInBounds_toArray, set_cons_zero, set_cons_succ]
          refine wpAnyH_take (i := 11) (oi := ⟨some 53, _, _, _, _, _⟩) (v := ?_) rfl (by kernel_rfl) (by kernel_rfl) (by kernel_rfl) (fun _ _ _ h => h) (Or.inl ⟨by rfl, ?_⟩) (by assumption) ?_; rotate_left
          · intro w hSw; (try dsimp only at hSw); go_simp; try with_reducible rfl
          try simp only [Act.put, setIfInBounds_toArray, set_cons_zero, set_cons_succ]
          refine wpAnyH_take (i := 12) (oi := ⟨some 54, _, _, _, _, _⟩) (v := ?_) rfl (by kernel_rfl) (by kernel_rfl) (by kernel_rfl) (fun _ _ _ h => h) (Or.inl ⟨by rfl, ?_⟩) (by assumption) ?_; rotate_left
          · intro w hSw; (try dsimp only at hSw); go_simp; try with_reducible rfl
          try simp only [Act.put, setIfInBounds_toArray, set_cons_zero, set_cons_succ]
          refine wpAnyH_take (i := 13) (oi := ⟨some 55, _, _, _, _, _⟩) (v := ?_) rfl (by kernel_rfl) (by kernel_rfl) (by kernel_rfl) (fun _ _ _ h => h) (Or.inl ⟨by rfl, ?_⟩) (by assumption) ?_; rotate_left
          · intro w hSw; (try dsimp only at hSw); go_simp; try with_reducible rfl
          try simp only [Act.put, setIfInBounds_toArray, set_cons_zero, set_cons_succ]
          refine wpAnyH_take (i := 14) (oi := ⟨some 56, _, _, _, _, _⟩) (v := ?_) rfl (by kernel_rfl) (by kernel_rfl) (by kernel_rfl) (fun _ _ _ h => h) (Or.inl ⟨by rfl, ?_⟩) (by assumption) ?_; rotate_left
          · intro w hSw; (try dsimp only at hSw); go_simp; try with_reducible rfl
          try simp only [Act.put, setIfInBounds_toArray, set_cons_zero, set_cons_succ]
          refine wpAnyH_ready (rs := [15]) (by kernel_rfl) (by simp) ?_
          refine AllReadyH.cons (o := ⟨some 57, _, _, _, _, _⟩) rfl (fun K hK => ?_) AllReadyH.nil
          go_simp
          refine (HCI.out _ (by (repeat (first | exact Below.refl _ _ | exact below_drew8 _ _ | refine bnextK ?_ (balloc _ _) | refine bnextK ?_ (below_drew8 _ _) | refine bnextK ?_ hb6)))).mono ?_
          rintro e' w6 ⟨A', c', rfl, hc6, ho6, hb6⟩
          have HO6 := Lib.hid ho6
          clear ho6 hc6
          go_wp2_with fail
          refine hK.out _ _ ?_ (fun hHeld => ?_)
          · (try dsimp only); first | (refine HS9s.out _ _ ?_; (repeat (first | exact Below.refl _ _ | exact below_drew8 _ _ | refine bnextK ?_ (balloc _ _) | refine bnextK ?_ (below_drew8 _ _) | refine bnextK ?_ hb6)); done) | (refine HS9.out _ ?_; (repeat (first | exact Below.refl _ _ | exact below_drew8 _ _ | refine bnextK ?_ (balloc _ _) | refine bnextK ?_ (below_drew8 _ _) | refine bnextK ?_ hb6)); done)
          clear hK K
          try simp only [Act.put, setIfInBounds_toArray, set_cons_zero, set_cons_succ]
          refine wpAnyH_take (i := 16) (oi := ⟨some 58, _, _, _, _, _⟩) (v := ?_) rfl (by kernel_rfl) (by kernel_rfl) (by kernel_rfl) (fun _ _ _ h => h) (Or.inl ⟨by rfl, ?_⟩) (by assumption) ?_; rotate_left
          · intro w hSw; (try dsimp only at hSw); go_simp; try with_reducible rfl
          try simp only [Act.put, setIfInBounds_toArray, set_cons_zero, set_cons_succ]
          refine wpAnyH_ready (rs := [17]) (by kernel_rfl) (by simp) ?_
          refine AllReadyH.cons (o := ⟨some 59, _, _, _, _, _⟩) rfl (fun K hK => ?_) AllReadyH.nil
          go_simp
          refine hK.out _ _ ?_ (fun hHeld => ?_)
          · (try dsimp only); first | (refine HS9s.out _ _ ?_; (repeat (first | exact Below.refl _ _ | exact below_drew8 _ _ | refine bnextK ?_ (balloc _ _) | refine bnextK ?_ (below_drew8 _ _) | refine bnextK ?_ hb6)); done) | (refine HS9.out _ ?_; (repeat (first | exact Below.refl _ _ | exact below_drew8 _ _ | refine bnextK ?_ (balloc _ _) | refine bnextK ?_ (below_drew8 _ _) | refine bnextK ?_ hb6)); done)
          clear hK K
          try simp only [Act.put, setIfInBounds_toArray, set_cons_zero, set_cons_succ]
          refine wpAnyH_take (i := 18) (oi := ⟨some 60, _, _, _, _, _⟩) (v := ?_) rfl (by kernel_rfl) (by kernel_rfl) (by kernel_rfl) (fun _ _ _ h => h) (Or.inl ⟨by rfl, ?_⟩) (by assumption) ?_; rotate_left
          · intro w hSw; (try dsimp only at hSw); go_simp; try with_reducible rfl
          try simp only [Act.put, setIfInBounds_toArray, set_cons_zero, set_cons_succ]
          refine wpAnyH_take (i := 19) (oi := ⟨some 61, _, _, _, _, _⟩) (v := ?_) rfl (by kernel_rfl) (by kernel_rfl) (by kernel_rfl) (fun _ _ _ h => h) (Or.inl ⟨by rfl, ?_⟩) (by assumption) ?_; rotate_left
          · intro w hSw; (try dsimp only at hSw); go_simp; try with_reducible rfl
          try simp only [Act.put, setIfInBounds_toArray, set_cons_zero, set_cons_succ]
          refine wpAnyH_ready (rs := [20]) (by kernel_rfl) (by simp) ?_
          refine AllReadyH.cons (o := ⟨none, _, _, _, _, _⟩) rfl (fun K hK => ?_) AllReadyH.nil
          obtain ⟨c12, f12⟩ : (w6.alloc (.cells #[.int .i64 (a : Int), .slice A' k.length c'] 103)).cell? ⟨D1, 2, none⟩ = some (.pointer none) ∧ (w6.alloc (.cells #[.int .i64 (a : Int), .slice A' k.length c'] 103)).frozen? ⟨D1, 2, none⟩ = false := HC2.out _ (by (repeat (first | exact Below.refl _ _ | exact below_drew8 _ _ | refine bnextK ?_ (balloc _ _) | refine bnextK ?_ (below_drew8 _ _) | refine bnextK ?_ hb6)))
          go_simp
          refine hK.out _ _ ?_ (fun hHeld => ?_)
          · (try dsimp only); first | (refine HS9s.out _ _ ?_; (repeat (first | exact Below.refl _ _ | exact below_drew8 _ _ | refine bnextK ?_ (balloc _ _) | refine bnextK ?_ (below_drew8 _ _) | refine bnextK ?_ hb6)); done) | (refine HS9.out _ ?_; (repeat (first | exact Below.refl _ _ | exact below_drew8 _ _ | refine bnextK ?_ (balloc _ _) | refine bnextK ?_ (below_drew8 _ _) | refine bnextK ?_ hb6)); done)
          clear hK K
          try simp only [Act.put]
          refine wpAnyH_done (by kernel_rfl) ?_ _
          go_wp2_with fail
          go_ret
          exact cpy_p HF.out HCA.out (by (repeat (first | exact Below.refl _ _ | exact below_drew8 _ _ | refine bnextK ?_ (balloc _ _) | refine bnextK ?_ (below_drew8 _ _)))) hb6 HO6.out
          -- REGION>
      · intro x v w3 hx hf hr3 hg3 hs3 hlt3 hen
        obtain ⟨i, s, rfl, hin, hcs, rfl⟩ : ∃ (i : Nat) (s : Sec), x = (i : Int) ∧ i < d.dur.length ∧ d.cch.getD i none = some s ∧ v = .agg (secC s).toArray := by
          unfold cchF at hf
          split at hf
          · rename_i hr
            cases hc : d.cch.getD x.toNat none with
            | none => rw [hc] at hf; cases hf
            | some s =>
              rw [hc] at hf
              exact ⟨x.toNat, s, by omega, by omega, hc, by injection hf with hf; exact hf.symm⟩
          · cases hf
        have hso : SecOK s := HDw.out.ok.cch s (by
          rw [List.getD_eq_getElem?_getD] at hcs
          cases hc : d.cch[i]? with
          | none => rw [hc] at hcs; cases hcs
          | some u => rw [hc] at hcs; simp only [Option.getD_some] at hcs; subst hcs; exact List.mem_of_getElem? hc)
        have hk3 : KeepL [r] wa w3 := KeepL.grown hg3 (fun q e _ => by injection e with e; simp [e])
        have hii : 0 ≤ (i : Int) ∧ (i : Int) < (d.dur.length : Int) := by omega
        have hsz : (secC s).length = 64 := by rw [secC_length, hso.1]
        have HX := Lib.hid hx; have HR3 := Lib.hid hr3; have HLT3 := Lib.hid hlt3; have HK3 := Lib.hid hk3; have HCS := Lib.hid hcs; have HSO := Lib.hid hso; have HIN := Lib.hid hin
        clear hx hf hr3 hg3 hs3 hlt3 hk3 hcs hso hin
        go_wp2_with fail
        rw [store_new _ _ _ HSO.out.1]
        go_upto_region 7 with fail
        obtain ⟨w4, hw4⟩ : ∃ z, z = w3.alloc (.cells (secC s).toArray 101) := ⟨_, rfl⟩
        have HB4 : Hid (Bk w4 w3.heap.size (secC s).toArray 101 ∧ Below w3.heap.size w3 w4) := Lib.hid ⟨by rw [hw4]; exact Bk.new _ _ _, by rw [hw4]; exact balloc _ _⟩
        rw [← hw4]
        clear hw4 hen
        have hq4 : Below w4.heap.size w4 w4.drew := below_drew8 _ _
        have HB5 := Lib.hid (bnextK HB4.out.2 hq4)
        have HNR : Hid (∀ k ∈ fpL D1 bs1 bm1 none, k ∉ [r]) := Lib.hid fun k hk => by simp only [List.mem_singleton]; have := HR.out.2.1 k hk; have := HRS.out; omega
        have HD4 := Lib.hid (((HC.out.dk).kept8 HK3.out HNR.out).far HB5.out)
        have HF1 : Hid (w4.drew.cell? ⟨D1, 1, none⟩ = some (.map (some bm1)) ∧ w4.drew.rangeAt w3.heap.size 0 (secC s)) := Lib.hid ⟨HD4.out.c1, (HB4.out.1.past hq4 HB4.out.1.lt).range⟩
        obtain ⟨w5, hrun, hmut⟩ := HD4.out.cached (i := i) HIN.out HSO.out
        obtain ⟨⟨p5, hd5, hp5⟩, hk5⟩ := hmut
        obtain rfl : p5 = none := hd5.plan
        have HK5 := Lib.hid hk5; have HD5 := Lib.hid hd5
        have HF2 : Hid (w5.cell? ⟨D1, 1, none⟩ = some (.map (some bm1)) ∧ w5.rangeAt w3.heap.size 0 (secC s)) := Lib.hid ⟨hd5.c1, ((HB4.out.1.past hq4 HB4.out.1.lt).keepL hk5 (fun e => by have := HR.out.2.1 _ e; have := HK3.out.size; have := HC.out.keep.size; omega)).range⟩
        clear hd5 hk5 hp5 hq4
        have HK35 : Hid (KeepL (fpL D1 bs1 bm1 none) w3 w5) := Lib.hid ((KeepL.of_below HB5.out).trans HK5.out)
        have HNB : Hid (bm ∉ fpL D1 bs1 bm1 none ∧ r ∉ fpL D1 bs1 bm1 none) := Lib.hid ⟨fun e => by
            have h1 := HR.out.2.2 bm (by simp [fpL])
            have h2 := HGE.out
            simp only [fpL, List.mem_cons, List.not_mem_nil, or_false] at e
            omega, fun e => HNR.out r e (by simp)⟩
        have HEND : Hid ((∃ rest, CyS w1 bm r D1 bs1 bm1 cp1 d l rest w5) ∧ w5.rangeLeft bm r < wa.rangeLeft bm r) := Lib.hid (by
          refine ⟨⟨rest.erase (i : Int), HR3.out.keepL HK35.out HNB.out.1 HNB.out.2, ?_, (HC.out.keep.trans (HK3.out.sub (by simp))).trans (HK35.out.sub (fun k hk => List.mem_cons_of_mem _ hk))⟩, ?_⟩
          · have e := cpyL_set (d := d) HC.out.rng.nodup HIN.out HCS.out
            have := HD5.out
            unfold Dk.part at this ⊢
            dsimp only at this
            rw [e] at this
            exact this
          · rw [rangeLeft_of (HK35.out.block bm HR3.out.mapL.lt HNB.out.1) (HK35.out.block r HR3.out.lt HNB.out.2)]
            exact HLT3.out)
        generalize w3.heap.size = g0 at HF1 HF2 ⊢
        -- <REGION r7
        refine wp_region_held_drew (S := (fun W => W.cell? ⟨D1, 1, none⟩ = some (.map (some bm1)) ∧ W.rangeAt g0 0 (secC s))) (by kernel_rfl) ?_ (fun hHeld => ?_)
        · (try dsimp only); first | exact HF1.out | exact HF2.out
        refine wpAnyH_take (i := 0) (oi := ⟨some 31, _, _, _, _, _⟩) (v := ?_) rfl (by kernel_rfl) (by kernel_rfl) (by kernel_rfl) (fun _ _ _ h => h) (Or.inl ⟨by rfl, ?_⟩) (by assumption) ?_; rotate_left
        · intro w hSw; (try dsimp only at hSw); go_simp; try with_reducible rfl
        try simp only [Act.put, setIfInBounds_toArray, set_cons_zero, set_cons_succ]
        refine wpAnyH_take (i := 1) (oi := ⟨some 32, _, _, _, _, _⟩) (v := ?_) rfl (by kernel_rfl) (by kernel_rfl) (by kernel_rfl) (fun _ _ _ h => h) (Or.inl ⟨by rfl, ?_⟩) (by assumption) ?_; rotate_left
        · intro w hSw; (try dsimp only at hSw); go_simp; try with_reducible rfl
        try simp only [Act.put, setIfInBounds_toArray, set_cons_zero, set_cons_succ]
        refine wpAnyH_take (i := 2) (oi := ⟨some 33, _, _, _, _, _⟩) (v := ?_) rfl (by kernel_rfl) (by kernel_rfl) (by kernel_rfl) (fun _ _ _ h => h) (Or.inl ⟨by rfl, ?_⟩) (by assumption) ?_; rotate_left
        · intro w hSw; (try dsimp only at hSw); go_simp; try with_reducible rfl
        try simp only [Act.put, setIfInBounds_toArray, set_cons_zero, set_cons_succ]
        refine wpAnyH_take (i := 3) (oi := ⟨some 34, _, _, _, _, _⟩) (v := ?_) rfl (by kernel_rfl) (by kernel_rfl) (by kernel_rfl) (fun _ _ _ h => h) (Or.inl ⟨by rfl, ?_⟩) (by assumption) ?_; rotate_left
        · intro w hSw; (try dsimp only at hSw); go_simp; try with_reducible rfl
        try simp only [Act.put, setIfInBounds_toArray, set_cons_zero, set_cons_succ]
        refine wpAnyH_take (i := 4) (oi := ⟨some 35, _, _, _, _, _⟩) (v := ?_) rfl (by kernel_rfl) (by kernel_rfl) (by kernel_rfl) (fun _ _ _ h => h) (Or.inl ⟨by rfl, ?_⟩) (by assumption) ?_; rotate_left
        · intro w hSw; (try dsimp only at hSw); go_simp; try with_reducible rfl
        try simp only [Act.put, setIfInBounds_toArray, set_cons_zero, set_cons_succ]
        refine wpAnyH_take (i := 5) (oi := ⟨some 36, _, _, _, _, _⟩) (v := .agg (secC s).toArray) rfl (by kernel_rfl) (by kernel_rfl) (by kernel_rfl) (fun _ _ _ h => h) (Or.inl ⟨by rfl, ?_⟩) (by assumption) ?_
        · (intro w hSw; (try dsimp only at hSw); exact run_load_sec _ rfl g0 0 rfl s hSw.2 HSO.out.1)
        try simp only [Act.put, setIfInBounds_toArray, set_cons_zero, set_cons_succ]
        refine wpAnyH_ready (rs := [6]) (by kernel_rfl) (by simp) ?_
        refine AllReadyH.cons (o := ⟨none, _, _, _, _, _⟩) rfl (fun K hK => ?_) AllReadyH.nil
        go_simp
        refine hK.out _ _ ?_ (fun hHeld => ?_)
        · (try dsimp only); first | exact HF1.out | exact HF2.out
        clear hK K
        try simp only [Act.put]
        refine wpAnyH_done (by kernel_rfl) ?_ _
        go_wp2_with fail
        go_roundw
        case rel => exact HEND.out.1
        case measure => exact HEND.out.2
        -- REGION>
end
end Go.Proofs.YtdgmjedkhjeadaaGreat
namespace Go.Proofs.YtdgmjedkhjeadaaGreat
open List (setIfInBounds_toArray set_cons_zero set_cons_succ)
open Go.RowKit
set_option linter.unusedVariables false
set_option linter.unusedSimpArgs false
/-- A call of a disk, as it is written. -/
structure Dop where
  dn : Int
  sec : Int
  num : Int
  lb : List Nat
  lk : List Int
/-- The call in memory: its two rows lie below a bound. -/
structure OpV (w : World) (B : Nat) (o : Dop) (A : Option Addr) (na ca : Nat) (K : Option Addr) (nk kc : Nat) : Prop where
  dn : -9223372036854775808 ≤ o.dn ∧ o.dn ≤ 9223372036854775807
  sec : -9223372036854775808 ≤ o.sec ∧ o.sec ≤ 9223372036854775807
  num : -9223372036854775808 ≤ o.num ∧ o.num ≤ 9223372036854775807
  rb : Rd w B 1 A na (o.lb.map fun x : Nat => Value.int .u8 x)
  rk : Rd w B 1 K nk (o.lk.map (Value.int .i64))
  lb : ∀ x ∈ o.lb, x < 256
  nb : na ≤ 300 ∧ na ≤ ca
  nk : nk ≤ 300 ∧ nk ≤ kc
def Dop.cells (o : Dop) (A : Option Addr) (na ca : Nat) (K : Option Addr) (nk kc : Nat) : Array Value := #[.int .i64 o.dn, .int .i64 o.sec, .int .i64 o.num, .slice A na ca, .slice K nk kc]
def TouP (B : Nat) (D bs bm cp R bn bk bf cn ck cf : Nat) (d : Dk) (w : World) (e : Ending) (w' : World) : Prop :=
  e = .returned (.bool true) ∧ ∃ d' p', DkAt w' D d' bs bm cp p' ∧ RdAt w' R d' bn bk bf cn ck cf ∧ Below B w w' ∧ (0 ≤ d'.age ∧ d'.age ≤ d.age + 2) ∧ ∀ k ∈ fpL D bs bm p', B ≤ k
section
variable {w w1 w2 w3 : World} {D : Nat} {d d' : Dk} {bs bm cp : Nat} {p p' : Option Addr} {R bn bk bf cn ck cf B : Nat}
/-- The two disks side by side, above a bound. -/
structure Two (w : World) (B : Nat) (D : Nat) (d : Dk) (bs bm cp : Nat) (p : Option Addr) (R bn bk bf cn ck cf : Nat) : Prop where
  dk : DkAt w D d bs bm cp p
  rd : RdAt w R d bn bk bf cn ck cf
  fd : ∀ k ∈ fpL D bs bm p, B ≤ k
  fr : ∀ k ∈ fpR R bn bk bf, B ≤ k
  age : 0 ≤ d.age ∧ d.age ≤ 1000000
theorem Two.le (h : Two w B D d bs bm cp p R bn bk bf cn ck cf) : B ≤ w.heap.size := Nat.le_trans (h.fd D (by simp [fpL])) (Nat.le_of_lt h.dk.blk.lt)
theorem Two.far (h : Two w B D d bs bm cp p R bn bk bf cn ck cf) (hb : Below w.heap.size w w1) : Two w1 B D d bs bm cp p R bn bk bf cn ck cf := ⟨h.dk.far hb, h.rd.far hb, h.fd, h.fr, h.age⟩
theorem Two.same (h : Two w B D d bs bm cp p R bn bk bf cn ck cf) (hb : Below w.heap.size w w1) : TouP B D bs bm cp R bn bk bf cn ck cf d w (.returned (.bool true)) w1 :=
  ⟨rfl, d, p, h.dk.far hb, h.rd.far hb, hb.mono h.le, ⟨h.age.1, by omega⟩, h.fd⟩
theorem Two.below (h : Two w B D d bs bm cp p R bn bk bf cn ck cf) (hk : KeepL (fpL D bs bm p) w w1) : Below B w w1 := hk.below h.le h.fd
theorem Two.belowR (h : Two w B D d bs bm cp p R bn bk bf cn ck cf) (hs : w.heap.size ≤ w1.heap.size) (hk : KeepL (fpR R bn bk bf) w1 w2) : Below B w1 w2 := hk.below (Nat.le_trans h.le hs) h.fr
theorem Two.newFp (h : Two w B D d bs bm cp p R bn bk bf cn ck cf) (hn : NewP w p p') : ∀ k ∈ fpL D bs bm p', B ≤ k := fun k hk => by
  by_cases hl : k < w.heap.size
  · exact h.fd k (hn.fp D bs bm k hk hl)
  · have := h.le; omega
/-- Both are changed, the disk first. -/
theorem Two.mut (h : Two w B D d bs bm cp p R bn bk bf cn ck cf) (hm : DkMut w w1 D bs bm cp p d') (hr : RdMut w1 w2 R bn bk bf cn ck cf d') (ha : 0 ≤ d'.age ∧ d'.age ≤ d.age + 2) :
    TouP B D bs bm cp R bn bk bf cn ck cf d w (.returned (.bool true)) w2 := by
  obtain ⟨⟨p', q1, q2⟩, q3⟩ := hm
  have hrd := h.rd.keepD h.dk q3
  exact ⟨rfl, d', p', q1.keepR hrd hr.2, hr.1, (h.below q3).trans (h.belowR q3.size hr.2), ha, h.newFp q2⟩
theorem tick_age (d : Dk) (h : 0 ≤ d.age) : 0 ≤ d.tick.2.age ∧ d.tick.2.age ≤ d.age + 1 := by
  unfold Dk.tick
  split
  · exact ⟨h, by dsimp only; omega⟩
  · exact ⟨by show 0 ≤ d.age + 1; omega, Int.le_refl _⟩
  · exact ⟨h, by dsimp only; omega⟩
theorem sync_age (d : Dk) (h : 0 ≤ d.age) : 0 ≤ d.syncR.2.age ∧ d.syncR.2.age ≤ d.age + 2 := by
  have ht := tick_age d h
  unfold Dk.syncR
  split
  · exact ⟨h, by dsimp only; omega⟩
  · unfold Dk.sync
    dsimp only
    split
    · rename_i d' e
      rw [e] at ht
      exact ⟨ht.1, by dsimp only at ht ⊢; omega⟩
    · rename_i d' e
      rw [e] at ht
      exact ⟨ht.1, by dsimp only at ht ⊢; omega⟩
theorem write_age (d : Dk) (h : 0 ≤ d.age) (i : Int) (l : List Nat) : 0 ≤ (d.write i l).2.age ∧ (d.write i l).2.age ≤ d.age + 2 := by
  unfold Dk.write
  split
  · exact ⟨h, by dsimp only; omega⟩
  · split
    · split
      · have := tick_age { d with age := d.age + 1, cch := d.cch.set i.toNat (some l) } (by dsimp only; omega)
        unfold Dk.put
        dsimp only at this ⊢
        omega
      · exact ⟨h, by dsimp only; omega⟩
    · exact ⟨h, by dsimp only; omega⟩
theorem plan_age (d : Dk) (h : 0 ≤ d.age) (a : Int) (l : List Int) : 0 ≤ (d.planR a l).2.age ∧ (d.planR a l).2.age ≤ d.age + 2 := by
  unfold Dk.planR
  repeat (first | split | exact ⟨h, by dsimp only; omega⟩)
theorem restart_age (d : Dk) (h : 0 ≤ d.age) : 0 ≤ d.restart.2.age ∧ d.restart.2.age ≤ d.age + 2 := by
  unfold Dk.restart
  split
  · exact ⟨h, by dsimp only; omega⟩
  · exact ⟨h, by dsimp only; omega⟩
-- <TOUCH
set_option maxRecDepth 100000 in
set_option maxHeartbeats 1000000 in
theorem touch1 (h : Two w B D d bs bm cp p R bn bk bf cn ck cf) (o : Dop) (A : Option Addr) (na ca : Nat) (K : Option Addr) (nk kc : Nat) (ho : OpV w B o A na ca K nk kc) (hz : o.dn % 8 = 1) :
    Calls Tryz.prog 18 #[.pointer (some ⟨D, 0, none⟩), .pointer (some ⟨R, 0, none⟩), .agg (o.cells A na ca K nk kc)] w (TouP B D bs bm cp R bn bk bf cn ck cf d w) := by
  have HM := Lib.hid (mod8_any o.dn ho.dn)
  have HZ := Lib.hid hz
  obtain ⟨w1, hw1⟩ : ∃ z, z = w.alloc (.cells (o.cells A na ca K nk kc) 34) := ⟨_, rfl⟩
  have HW1 := Lib.hid hw1
  have HB1 : Hid (Below w.heap.size w w1) := Lib.hid (by rw [hw1]; exact balloc _ _)
  have HX : Hid (Bk w1 w.heap.size (o.cells A na ca K nk kc) 34) := Lib.hid (by rw [hw1]; exact Bk.new _ _ _)
  have H := Lib.hid h
  have H1 := Lib.hid (h.far HB1.out)
  have HO := Lib.hid ho
  have b0 := HX.out.cell 0; have b1 := HX.out.cell 1; have b2 := HX.out.cell 2; have b3 := HX.out.cell 3; have b4 := HX.out.cell 4
  change w1.cell? ⟨w.heap.size, 0, none⟩ = some (.int .i64 o.dn) at b0
  change w1.cell? ⟨w.heap.size, 1, none⟩ = some (.int .i64 o.sec) at b1
  change w1.cell? ⟨w.heap.size, 2, none⟩ = some (.int .i64 o.num) at b2
  change w1.cell? ⟨w.heap.size, 3, none⟩ = some (.slice A na ca) at b3
  change w1.cell? ⟨w.heap.size, 4, none⟩ = some (.slice K nk kc) at b4
  clear hw1 hz h ho
  unfold Dop.cells at HW1 ⊢
  go_enter Tryz.func18, Tryz.ntmps18
  go_wp2_with fail
  rw [← HW1.out]
  go_wp2_with fail
  refine (HM.out w1).mono ?_
  rintro e w' ⟨⟨z, hz, rfl⟩, rfl⟩
  rw [HZ.out] at hz
  subst hz
  go_wp2_with fail
  refine (vdur H1.out.dk o.sec).mono ?_
  rintro e w2 ⟨⟨A1, n1, c1, rfl, hr1⟩, hb2⟩
  have HR1 := Lib.hid hr1; have HB2 := Lib.hid hb2
  have b1' : w2.cell? ⟨w.heap.size, 1, none⟩ = some (.int .i64 o.sec) := by rw [hb2.cell (p := ⟨w.heap.size, 1, none⟩) HX.out.lt]; exact b1
  clear hr1 hb2
  go_wp2_with fail
  refine (vrdur (H1.out.far HB2.out).rd o.sec).mono ?_
  rintro e w3 ⟨⟨A2, n2, c2, rfl, hr2⟩, hb3⟩
  have HR2 := Lib.hid hr2; have HB3 := Lib.hid hb3
  clear hr2 hb3
  have HS := Lib.hid (same8_yes (w := w3) c1 c2 (rdL_lt (durZ_hi H1.out.dk.ok o.sec)) (HR1.out.below HB3.out) HR2.out)
  generalize d.durZ o.sec = z1
  go_wp2_with fail
  refine HS.out.mono ?_
  rintro e w4 ⟨rfl, rfl⟩
  go_wp2_with fail
  go_ret
  exact H.out.same (bnextK (bnextK HB1.out HB2.out) HB3.out)
set_option maxRecDepth 100000 in
set_option maxHeartbeats 1000000 in
theorem touch3 (h : Two w B D d bs bm cp p R bn bk bf cn ck cf) (o : Dop) (A : Option Addr) (na ca : Nat) (K : Option Addr) (nk kc : Nat) (ho : OpV w B o A na ca K nk kc) (hz : o.dn % 8 = 3) :
    Calls Tryz.prog 18 #[.pointer (some ⟨D, 0, none⟩), .pointer (some ⟨R, 0, none⟩), .agg (o.cells A na ca K nk kc)] w (TouP B D bs bm cp R bn bk bf cn ck cf d w) := by
  have HM := Lib.hid (mod8_any o.dn ho.dn)
  have HZ := Lib.hid hz
  obtain ⟨w1, hw1⟩ : ∃ z, z = w.alloc (.cells (o.cells A na ca K nk kc) 34) := ⟨_, rfl⟩
  have HW1 := Lib.hid hw1
  have HB1 : Hid (Below w.heap.size w w1) := Lib.hid (by rw [hw1]; exact balloc _ _)
  have HX : Hid (Bk w1 w.heap.size (o.cells A na ca K nk kc) 34) := Lib.hid (by rw [hw1]; exact Bk.new _ _ _)
  have H := Lib.hid h
  have H1 := Lib.hid (h.far HB1.out)
  have HO := Lib.hid ho
  have b0 := HX.out.cell 0; have b1 := HX.out.cell 1; have b2 := HX.out.cell 2; have b3 := HX.out.cell 3; have b4 := HX.out.cell 4
  change w1.cell? ⟨w.heap.size, 0, none⟩ = some (.int .i64 o.dn) at b0
  change w1.cell? ⟨w.heap.size, 1, none⟩ = some (.int .i64 o.sec) at b1
  change w1.cell? ⟨w.heap.size, 2, none⟩ = some (.int .i64 o.num) at b2
  change w1.cell? ⟨w.heap.size, 3, none⟩ = some (.slice A na ca) at b3
  change w1.cell? ⟨w.heap.size, 4, none⟩ = some (.slice K nk kc) at b4
  clear hw1 hz h ho
  unfold Dop.cells at HW1 ⊢
  go_enter Tryz.func18, Tryz.ntmps18
  go_wp2_with fail
  rw [← HW1.out]
  go_wp2_with fail
  refine (HM.out w1).mono ?_
  rintro e w' ⟨⟨z, hz, rfl⟩, rfl⟩
  rw [HZ.out] at hz
  subst hz
  go_wp2_with fail
  refine (sync_any H1.out.dk ⟨H1.out.age.1, by have := H1.out.age.2; omega⟩).mono ?_
  rintro e w2 ⟨rfl, hm⟩
  have HM2 := Lib.hid hm
  have HR2 := Lib.hid (H1.out.rd.keepD H1.out.dk hm.2)
  clear hm
  go_wp2_with fail
  refine (rsync_any HR2.out).mono ?_
  rintro e w3 ⟨rfl, hm⟩
  have HM3 := Lib.hid hm
  clear hm
  obtain ⟨z1, hz1⟩ : ∃ z, z = d.syncR.1 := ⟨_, rfl⟩
  rw [← hz1]
  clear hz1
  go_wp2_with fail
  go_ret
  obtain ⟨q0, d', p', q1, q2, q3, q4, q5⟩ := H1.out.mut HM2.out HM3.out (sync_age d H1.out.age.1)
  exact ⟨rfl, d', p', q1, q2, (HB1.out.mono H.out.le).trans q3, q4, q5⟩
set_option maxRecDepth 100000 in
set_option maxHeartbeats 1000000 in
theorem touch5 (h : Two w B D d bs bm cp p R bn bk bf cn ck cf) (o : Dop) (A : Option Addr) (na ca : Nat) (K : Option Addr) (nk kc : Nat) (ho : OpV w B o A na ca K nk kc) (hz : o.dn % 8 = 5) :
    Calls Tryz.prog 18 #[.pointer (some ⟨D, 0, none⟩), .pointer (some ⟨R, 0, none⟩), .agg (o.cells A na ca K nk kc)] w (TouP B D bs bm cp R bn bk bf cn ck cf d w) := by
  have HM := Lib.hid (mod8_any o.dn ho.dn)
  have HZ := Lib.hid hz
  obtain ⟨w1, hw1⟩ : ∃ z, z = w.alloc (.cells (o.cells A na ca K nk kc) 34) := ⟨_, rfl⟩
  have HW1 := Lib.hid hw1
  have HB1 : Hid (Below w.heap.size w w1) := Lib.hid (by rw [hw1]; exact balloc _ _)
  have HX : Hid (Bk w1 w.heap.size (o.cells A na ca K nk kc) 34) := Lib.hid (by rw [hw1]; exact Bk.new _ _ _)
  have H := Lib.hid h
  have H1 := Lib.hid (h.far HB1.out)
  have HO := Lib.hid ho
  have b0 := HX.out.cell 0; have b1 := HX.out.cell 1; have b2 := HX.out.cell 2; have b3 := HX.out.cell 3; have b4 := HX.out.cell 4
  change w1.cell? ⟨w.heap.size, 0, none⟩ = some (.int .i64 o.dn) at b0
  change w1.cell? ⟨w.heap.size, 1, none⟩ = some (.int .i64 o.sec) at b1
  change w1.cell? ⟨w.heap.size, 2, none⟩ = some (.int .i64 o.num) at b2
  change w1.cell? ⟨w.heap.size, 3, none⟩ = some (.slice A na ca) at b3
  change w1.cell? ⟨w.heap.size, 4, none⟩ = some (.slice K nk kc) at b4
  clear hw1 hz h ho
  unfold Dop.cells at HW1 ⊢
  go_enter Tryz.func18, Tryz.ntmps18
  go_wp2_with fail
  rw [← HW1.out]
  go_wp2_with fail
  refine (HM.out w1).mono ?_
  rintro e w' ⟨⟨z, hz, rfl⟩, rfl⟩
  rw [HZ.out] at hz
  subst hz
  go_wp2_with fail
  refine (restart_any H1.out.dk).mono ?_
  rintro e w2 ⟨rfl, hm⟩
  have HM2 := Lib.hid hm
  have HR2 := Lib.hid (H1.out.rd.keepD H1.out.dk hm.2)
  clear hm
  go_wp2_with fail
  refine (rrestart_any HR2.out).mono ?_
  rintro e w3 ⟨rfl, hm⟩
  have HM3 := Lib.hid hm
  clear hm
  obtain ⟨z1, hz1⟩ : ∃ z, z = d.restart.1 := ⟨_, rfl⟩
  rw [← hz1]
  clear hz1
  go_wp2_with fail
  go_ret
  obtain ⟨q0, d', p', q1, q2, q3, q4, q5⟩ := H1.out.mut HM2.out HM3.out (restart_age d H1.out.age.1)
  exact ⟨rfl, d', p', q1, q2, (HB1.out.mono H.out.le).trans q3, q4, q5⟩
set_option maxRecDepth 100000 in
set_option maxHeartbeats 1000000 in
theorem touch6 (h : Two w B D d bs bm cp p R bn bk bf cn ck cf) (o : Dop) (A : Option Addr) (na ca : Nat) (K : Option Addr) (nk kc : Nat) (ho : OpV w B o A na ca K nk kc) (hz : o.dn % 8 = 6) :
    Calls Tryz.prog 18 #[.pointer (some ⟨D, 0, none⟩), .pointer (some ⟨R, 0, none⟩), .agg (o.cells A na ca K nk kc)] w (TouP B D bs bm cp R bn bk bf cn ck cf d w) := by
  have HM := Lib.hid (mod8_any o.dn ho.dn)
  have HZ := Lib.hid hz
  obtain ⟨w1, hw1⟩ : ∃ z, z = w.alloc (.cells (o.cells A na ca K nk kc) 34) := ⟨_, rfl⟩
  have HW1 := Lib.hid hw1
  have HB1 : Hid (Below w.heap.size w w1) := Lib.hid (by rw [hw1]; exact balloc _ _)
  have HX : Hid (Bk w1 w.heap.size (o.cells A na ca K nk kc) 34) := Lib.hid (by rw [hw1]; exact Bk.new _ _ _)
  have H := Lib.hid h
  have H1 := Lib.hid (h.far HB1.out)
  have HO := Lib.hid ho
  have b0 := HX.out.cell 0; have b1 := HX.out.cell 1; have b2 := HX.out.cell 2; have b3 := HX.out.cell 3; have b4 := HX.out.cell 4
  change w1.cell? ⟨w.heap.size, 0, none⟩ = some (.int .i64 o.dn) at b0
  change w1.cell? ⟨w.heap.size, 1, none⟩ = some (.int .i64 o.sec) at b1
  change w1.cell? ⟨w.heap.size, 2, none⟩ = some (.int .i64 o.num) at b2
  change w1.cell? ⟨w.heap.size, 3, none⟩ = some (.slice A na ca) at b3
  change w1.cell? ⟨w.heap.size, 4, none⟩ = some (.slice K nk kc) at b4
  clear hw1 hz h ho
  unfold Dop.cells at HW1 ⊢
  go_enter Tryz.func18, Tryz.ntmps18
  go_wp2_with fail
  rw [← HW1.out]
  go_wp2_with fail
  refine (HM.out w1).mono ?_
  rintro e w' ⟨⟨z, hz, rfl⟩, rfl⟩
  rw [HZ.out] at hz
  subst hz
  go_wp2_with fail
  go_ret
  exact H.out.same HB1.out
-- TOUCH>
end
end Go.Proofs.YtdgmjedkhjeadaaGreat
namespace Go.Proofs.YtdgmjedkhjeadaaGreat
open List (setIfInBounds_toArray set_cons_zero set_cons_succ)
open Go.RowKit
set_option linter.unusedVariables false
set_option linter.unusedSimpArgs false
/-- A block that holds numbers. -/
def RowK (κ : IntKind) (w : World) (g n : Nat) (t : TypeId) : Prop := ∃ C : Array Value, Bk w g C t ∧ ∀ j, j < n → ∃ x : Int, C[j]? = some (.int κ x)
theorem RowK.cell {κ : IntKind} {w : World} {g n : Nat} {t : TypeId} (h : RowK κ w g n t) {j : Nat} (hj : j < n) : ∃ x : Int, w.cell? ⟨g, j, none⟩ = some (.int κ x) := by
  obtain ⟨C, h1, h2⟩ := h
  obtain ⟨x, hx⟩ := h2 j hj
  exact ⟨x, by rw [h1.cell]; exact hx⟩
theorem RowK.froz {κ : IntKind} {w : World} {g n : Nat} {t : TypeId} (h : RowK κ w g n t) (j : Nat) : w.frozen? ⟨g, j, none⟩ = false := by
  obtain ⟨C, h1, h2⟩ := h
  exact h1.froz j
theorem RowK.set {κ : IntKind} {w : World} {g n : Nat} {t : TypeId} (h : RowK κ w g n t) (i : Nat) (y : Int) : RowK κ (w.setCell ⟨g, i, none⟩ (.int κ y)) g n t := by
  obtain ⟨C, h1, h2⟩ := h
  refine ⟨_, h1.set i _, fun j hj => ?_⟩
  obtain ⟨x, hx⟩ := h2 j hj
  rw [Array.getElem?_setIfInBounds]
  split
  · rename_i e
    subst e
    rw [if_pos (Array.getElem?_eq_some_iff.1 hx).1]
    exact ⟨y, rfl⟩
  · exact ⟨x, hx⟩
theorem RowK.past {κ : IntKind} {w w' : World} {g n : Nat} {t : TypeId} (h : RowK κ w g n t) (hb : Below w.heap.size w w') : RowK κ w' g n t := by
  obtain ⟨C, h1, h2⟩ := h
  exact ⟨C, h1.past hb h1.lt, h2⟩
theorem RowK.sec {w : World} {g : Nat} {t : TypeId} {s : Sec} (hs : s.length = 64) (h : Bk w g (secC s).toArray t) : RowK .u8 w g 64 t :=
  ⟨_, h, fun j hj => ⟨(s.getD j 0 : Nat), by rw [List.getElem?_toArray, secC, List.getElem?_map, List.getD_eq_getElem?_getD, List.getElem?_eq_getElem (by omega)]; rfl⟩⟩
theorem RowK.own {κ : IntKind} {w : World} {B n : Nat} {t : TypeId} {v : Value} {l : List Int} (h : w.ownsRow B t 1 v n (l.map (Value.int κ))) (hn : 0 < n) : ∃ g c, v = .slice (some ⟨g, 0, none⟩) n c ∧ B ≤ g ∧ RowK κ w g n t := by
  have hl := h.1
  rcases h.2 with ⟨_, h2⟩ | ⟨g, cap, cur, rfl, hg, hh, hcap, _, _, htk⟩
  · omega
  · refine ⟨g, cap, rfl, hg, cur, hh, fun j hj => ?_⟩
    rw [Nat.mul_one] at htk hl
    rw [List.length_map] at hl
    have e : (l.map (Value.int κ))[j]? = some (.int κ l[j]) := by rw [List.getElem?_map, List.getElem?_eq_getElem (by omega)]; rfl
    rw [← htk, List.getElem?_take, if_pos hj, Array.getElem?_toList] at e
    exact ⟨_, e⟩
theorem own_cap {w : World} {B n sz : Nat} {t : TypeId} {v : Value} {xs : List Value} (h : w.ownsRow B t sz v n xs) : ∃ A c, v = .slice A n c ∧ n ≤ c ∧ c ≤ maxLen := by
  rcases h.2 with ⟨rfl, rfl⟩ | ⟨g, cap, cur, rfl, hg, hh, hcap, hm, _, htk⟩
  · exact ⟨none, 0, rfl, Nat.le_refl _, by decide⟩
  · exact ⟨_, cap, rfl, hcap, hm⟩
section
variable {w w1 w2 w3 w4 : World} {D : Nat} {d d' : Dk} {bs bm cp : Nat} {p p' : Option Addr} {R bn bk bf cn ck cf B : Nat}
/-- The plan's row of numbers lies in none of these blocks. -/
def KpX (w : World) (p : Option Addr) (L : List Nat) : Prop := ∀ bp kv, p = some ⟨bp, 0, none⟩ → w.cell? ⟨bp, 1, none⟩ = some kv → ∀ g, kv.ownBlock = some g → g ∉ L
theorem DkAt.keepTX {L : List Nat} {t : TypeId} (h : DkAt w D d bs bm cp p) (hk : KeepL L w w1) (hL : ∀ k ∈ L, ∃ C, Bk w k C t) (t1 : 96 ≠ t) (t2 : 101 ≠ t) (t3 : 103 ≠ t) (h5 : KpX w p L) : DkAt w1 D d bs bm cp p := by
  obtain ⟨sd, hs⟩ := h.dur
  obtain ⟨l, hl⟩ := h.cch
  have hn : ∀ {g : Nat} {C : Array Value} {t' : TypeId}, Bk w g C t' → t' ≠ t → g ∉ L := fun hg ht hm => by
    obtain ⟨C, hc⟩ := hL _ hm
    exact hg.ne hc ht rfl
  refine ⟨h.ok, h.blk.keepL hk (hn h.blk t1), ⟨sd, hs.keepL hk (hn hs t2)⟩, ⟨l, hl.keep (hk.block _ hl.lt (fun hm => by obtain ⟨C, hc⟩ := hL _ hm; exact hc.nemap hl rfl))⟩, ?_⟩
  have hp := h.plan
  cases hq : d.plan with
  | none => rw [hq] at hp; exact hp
  | some q =>
    obtain ⟨a, k⟩ := q
    rw [hq] at hp
    obtain ⟨bp, kv, rfl, h2, A, c, h3, h4⟩ := hp
    refine ⟨bp, kv, rfl, h2.keepL hk (hn h2 t3), A, c, h3, fun hk' => ?_⟩
    obtain ⟨g, C, e1, e2, e3⟩ := h4 hk'
    refine ⟨g, C, e1, e2.keepL hk (h5 bp kv rfl (by rw [h2.cell]; rfl) g (by rw [h3, e1]; rfl)), e3⟩
theorem Two.obKeep (h : Two w B D d bs bm cp p R bn bk bf cn ck cf) {L : List Nat} (hL : ∀ k ∈ L, w.heap.size ≤ k) (hb : Below w.heap.size w w1) (hk : KeepL (fpL D bs bm p) w1 w2) (hl : KeepL L w2 w3) : KeepL (fpL D bs bm p) w w3 :=
  (((KeepL.of_below (L := fpL D bs bm p ++ L) hb).trans (hk.sub (fun k hk => List.mem_append.2 (.inl hk)))).trans (hl.sub (fun k hk => List.mem_append.2 (.inr hk)))).to fun k hk hlt => by
    rcases List.mem_append.1 hk with hk | hk
    · exact hk
    · have := hL k hk; omega
theorem RdAt.fpLt (h : RdAt w R d bn bk bf cn ck cf) : ∀ k ∈ fpR R bn bk bf, k < w.heap.size := by
  obtain ⟨h0, r, kv, h1, h2⟩ := h
  obtain ⟨sp, q3⟩ := h2.fr
  intro k hk
  simp only [fpR, List.mem_cons, List.not_mem_nil, or_false] at hk
  rcases hk with rfl | rfl | rfl | rfl
  · exact h2.blk.lt
  · exact h2.new.lt
  · exact h2.kept.lt
  · exact q3.lt
-- <TOUCH
set_option maxRecDepth 100000 in
set_option maxHeartbeats 1000000 in
theorem touch0 (h : Two w B D d bs bm cp p R bn bk bf cn ck cf) (o : Dop) (A : Option Addr) (na ca : Nat) (K : Option Addr) (nk kc : Nat) (ho : OpV w B o A na ca K nk kc) (hz : o.dn % 8 = 0) :
    Calls Tryz.prog 18 #[.pointer (some ⟨D, 0, none⟩), .pointer (some ⟨R, 0, none⟩), .agg (o.cells A na ca K nk kc)] w (TouP B D bs bm cp R bn bk bf cn ck cf d w) := by
  have HM := Lib.hid (mod8_any o.dn ho.dn)
  have HZ := Lib.hid hz
  obtain ⟨w1, hw1⟩ : ∃ z, z = w.alloc (.cells (o.cells A na ca K nk kc) 34) := ⟨_, rfl⟩
  have HW1 := Lib.hid hw1
  have HB1 : Hid (Below w.heap.size w w1) := Lib.hid (by rw [hw1]; exact balloc _ _)
  have HX : Hid (Bk w1 w.heap.size (o.cells A na ca K nk kc) 34) := Lib.hid (by rw [hw1]; exact Bk.new _ _ _)
  have H := Lib.hid h
  have H1 := Lib.hid (h.far HB1.out)
  have HO := Lib.hid ho
  have b0 := HX.out.cell 0; have b1 := HX.out.cell 1; have b2 := HX.out.cell 2; have b3 := HX.out.cell 3; have b4 := HX.out.cell 4
  change w1.cell? ⟨w.heap.size, 0, none⟩ = some (.int .i64 o.dn) at b0
  change w1.cell? ⟨w.heap.size, 1, none⟩ = some (.int .i64 o.sec) at b1
  change w1.cell? ⟨w.heap.size, 2, none⟩ = some (.int .i64 o.num) at b2
  change w1.cell? ⟨w.heap.size, 3, none⟩ = some (.slice A na ca) at b3
  change w1.cell? ⟨w.heap.size, 4, none⟩ = some (.slice K nk kc) at b4
  clear hw1 hz h ho
  unfold Dop.cells at HW1 ⊢
  go_enter Tryz.func18, Tryz.ntmps18
  go_wp2_with fail
  rw [← HW1.out]
  go_wp2_with fail
  refine (HM.out w1).mono ?_
  rintro e w' ⟨⟨z, hz, rfl⟩, rfl⟩
  rw [HZ.out] at hz
  subst hz
  go_wp2_with fail
  refine (read_any H1.out.dk o.sec).mono ?_
  rintro e w2 ⟨h0, hn0, hb2⟩
  have HB2 := Lib.hid hb2
  have b1' : w2.cell? ⟨w.heap.size, 1, none⟩ = some (.int .i64 o.sec) := by rw [hb2.cell (p := ⟨w.heap.size, 1, none⟩) HX.out.lt]; exact b1
  have HRZ := Lib.hid (readZ_hi H1.out.dk o.sec)
  have HQ := Lib.hid (vrread (H1.out.far hb2).rd o.sec (readZ_hi H1.out.dk o.sec))
  clear hb2
  by_cases hz : d.readZ o.sec = 0
  · obtain ⟨g, rfl, hbk, hge⟩ := h0 hz
    rw [hz] at HQ
    have hso := HRZ.out hz
    generalize d.newest o.sec.toNat = s at *
    have HBK := Lib.hid hbk; have HGE := Lib.hid hge; have HSO := Lib.hid hso
    clear h0 hn0 hbk hge hz hso
    go_wp2_with fail
    refine HQ.out.mono ?_
    rintro e w3 ⟨⟨A2, n2, c2, rfl, hr2⟩, hb3⟩
    have HR2 := Lib.hid hr2; have HB3 := Lib.hid hb3
    clear hr2 hb3
    have HRW := Lib.hid ((RowK.sec HSO.out.1 HBK.out).past HB3.out)
    have HRD : Hid (Rd w3 w3.heap.size 1 (some ⟨g, 0, none⟩) 64 ((rdL 0 s).map fun x : Nat => Value.int .u8 x)) := Lib.hid (by
      unfold rdL
      rw [if_pos rfl]
      have hb := HBK.out.past HB3.out HBK.out.lt
      refine ⟨by rw [List.length_map, HSO.out.1], fun _ => ⟨g, 0, rfl, hb.lt, fun i u hu => ?_⟩⟩
      rw [Nat.zero_add, hb.cell]
      simpa [secC] using hu)
    have HS := Lib.hid (same8_yes (w := w3) 64 c2 (rdL_lt (fun _ => HSO.out)) HRD.out HR2.out)
    go_wp2_with fail
    refine HS.out.mono ?_
    rintro e w4 ⟨rfl, rfl⟩
    go_wp2_with fail
    have HB0 : Hid (Below w.heap.size w w3) := Lib.hid (bnextK (bnextK HB1.out HB2.out) HB3.out)
    have HG : Hid (w.heap.size ≤ g) := Lib.hid (Nat.le_trans HB1.out.size HGE.out)
    go_loopw [11] (fun v11 wr => ∃ i : Nat, i ≤ 64 ∧ v11 = .int .i64 (i : Nat) ∧ RowK .u8 wr g 64 101 ∧ Below w.heap.size w wr) (fun v11 _ => 64 - (intOf v11).toNat)
    case atStart => exact ⟨0, Nat.zero_le _, rfl, HRW.out, HB0.out⟩
    case round =>
      obtain ⟨i, hi, rfl, hrw, hb⟩ := hrel
      obtain ⟨wa, rfl⟩ : ∃ z : World, z = wr := ⟨_, rfl⟩
      have HW := Lib.hid hrw; have HB := Lib.hid hb
      by_cases hlt : i < 64
      · have hii : 0 ≤ (i : Int) ∧ (i : Int) < 64 := by omega
        obtain ⟨x, hx⟩ := hrw.cell hlt
        have hf := hrw.froz i
        clear hrw hb
        go_wp2_with fail
        go_roundw
        case rel => exact ⟨i + 1, by omega, by go_num, HW.out.set i _, HB.out.setCell (p := ⟨g, i, none⟩) HG.out _⟩
        case measure => simp [intOf]; omega
      · have hii : ¬ (i : Int) < 64 := by omega
        clear hrw hb
        go_wp2_with fail
        go_ret
        exact H.out.same HB.out
  · obtain rfl := hn0 hz
    clear h0 hn0
    obtain ⟨z1, hz1⟩ : ∃ z, z = d.readZ o.sec := ⟨_, rfl⟩
    rw [← hz1] at hz HQ ⊢
    unfold rdL at HQ
    rw [if_neg hz] at HQ
    clear hz1
    go_wp2_with fail
    refine HQ.out.mono ?_
    rintro e w3 ⟨⟨A2, n2, c2, rfl, hr2⟩, hb3⟩
    have HR2 := Lib.hid hr2; have HB3 := Lib.hid hb3
    clear hr2 hb3
    have HS := Lib.hid (same8_yes (w := w3) (A := none) (n := 0) (l := []) (B := 0) 0 c2 (by simp) (Rd.nil _ _ _ _) HR2.out)
    go_wp2_with fail
    refine HS.out.mono ?_
    rintro e w4 ⟨rfl, rfl⟩
    go_wp2_with fail
    have HB0 : Hid (Below w.heap.size w w3) := Lib.hid (bnextK (bnextK HB1.out HB2.out) HB3.out)
    go_loopw [11] (fun v11 wr => v11 = .int .i64 0 ∧ wr = w3) (fun v11 _ => 0)
    case atStart => exact ⟨rfl, rfl⟩
    case round =>
      obtain ⟨rfl, hww⟩ := hrel
      obtain rfl := hww.symm
      go_wp2_with fail
      go_ret
      exact H.out.same HB0.out
set_option maxRecDepth 100000 in
set_option maxHeartbeats 1000000 in
theorem touch2 (h : Two w B D d bs bm cp p R bn bk bf cn ck cf) (o : Dop) (A : Option Addr) (na ca : Nat) (K : Option Addr) (nk kc : Nat) (ho : OpV w B o A na ca K nk kc) (hz : o.dn % 8 = 2) :
    Calls Tryz.prog 18 #[.pointer (some ⟨D, 0, none⟩), .pointer (some ⟨R, 0, none⟩), .agg (o.cells A na ca K nk kc)] w (TouP B D bs bm cp R bn bk bf cn ck cf d w) := by
  have HM := Lib.hid (mod8_any o.dn ho.dn)
  have HZ := Lib.hid hz
  obtain ⟨w1, hw1⟩ : ∃ z, z = w.alloc (.cells (o.cells A na ca K nk kc) 34) := ⟨_, rfl⟩
  have HW1 := Lib.hid hw1
  have HB1 : Hid (Below w.heap.size w w1) := Lib.hid (by rw [hw1]; exact balloc _ _)
  have HX : Hid (Bk w1 w.heap.size (o.cells A na ca K nk kc) 34) := Lib.hid (by rw [hw1]; exact Bk.new _ _ _)
  have H := Lib.hid h
  have H1 := Lib.hid (h.far HB1.out)
  have HO := Lib.hid ho
  have b0 := HX.out.cell 0; have b1 := HX.out.cell 1; have b2 := HX.out.cell 2; have b3 := HX.out.cell 3; have b4 := HX.out.cell 4
  change w1.cell? ⟨w.heap.size, 0, none⟩ = some (.int .i64 o.dn) at b0
  change w1.cell? ⟨w.heap.size, 1, none⟩ = some (.int .i64 o.sec) at b1
  change w1.cell? ⟨w.heap.size, 2, none⟩ = some (.int .i64 o.num) at b2
  change w1.cell? ⟨w.heap.size, 3, none⟩ = some (.slice A na ca) at b3
  change w1.cell? ⟨w.heap.size, 4, none⟩ = some (.slice K nk kc) at b4
  clear hw1 hz h ho
  unfold Dop.cells at HW1 ⊢
  go_enter Tryz.func18, Tryz.ntmps18
  go_wp2_with fail
  rw [← HW1.out]
  go_wp2_with fail
  refine (HM.out w1).mono ?_
  rintro e w' ⟨⟨z, hz, rfl⟩, rfl⟩
  rw [HZ.out] at hz
  subst hz
  obtain ⟨i0, hi0, hz0, hz1, hz2⟩ := info_parts infoB8
  have HI0 := Lib.hid hi0; have HZ0 := Lib.hid hz0; have HZ1 := Lib.hid hz1; have HZ2 := Lib.hid hz2
  have HRB := Lib.hid ((HO.out.rb.below (HB1.out.mono H.out.le)).mono (Nat.le_trans H.out.le HB1.out.size))
  have hna : na ≤ 300 := HO.out.nb.1
  clear hi0 hz0 hz1 hz2
  have b3' : ∀ q, (w1.alloc q).cell? ⟨w.heap.size, 3, none⟩ = some (.slice A na ca) := fun q => by rw [(balloc w1 q).cell (p := ⟨w.heap.size, 3, none⟩) HX.out.lt]; exact b3
  go_wp2_with (at_builtin; refine wpList_append_rd _ rfl (.tmp 88) (.tmp 90) _ rfl w1.heap.size 5 i0 _ 1 1 Tryz.underlying31 HI0.out HZ0.out HZ1.out HZ2.out rfl (by decide) _ 0 [] rfl (World.ownsRow_made w1 #[] 0 (Nat.le_refl _) (by simp [maxLen]) (by simp)) _ A na ca _ rfl (HRB.out.alloc (Nat.le_refl _) _) (by intro u hu; obtain ⟨_, _, rfl⟩ := List.mem_map.1 hu; rfl) (by unfold maxLen; omega) (by omega) (by simp) ?_; intro v2 w2 hown1 hg1; have hb2 : Below w1.heap.size w1 w2 := (((Below.refl _ _).alloc (Nat.le_refl _) _).grown hg1 (by simp) (fun g hg => by cases hg; exact Nat.le_refl _)); (rw [Nat.zero_add, List.nil_append] at hown1); obtain ⟨A', c', rfl, hc, hcm⟩ := own_cap hown1; have HOWN := Lib.hid hown1; have HB2 := Lib.hid hb2; clear hown1 hg1 hb2; have x1 : w2.cell? ⟨w.heap.size, 1, none⟩ = some (.int .i64 o.sec) := by (rw [HB2.out.cell (p := ⟨w.heap.size, 1, none⟩) HX.out.lt]; exact b1))
  have HFP : Hid (∀ k ∈ fpL D bs bm p, k < w1.heap.size) := Lib.hid H1.out.dk.fpLt
  refine (write_free (H1.out.far HB2.out).dk ⟨H1.out.age.1, by have := H1.out.age.2; omega⟩ o.sec A' na c' o.lb HO.out.lb hc (Rd.own HOWN.out)).mono ?_
  rintro e w3 ⟨rfl, hm⟩
  have HM2 := Lib.hid hm
  obtain ⟨zz, hzz⟩ : ∃ zz, zz = (d.write o.sec o.lb).1 := ⟨_, rfl⟩
  rw [← hzz]
  have HZZ := Lib.hid hzz
  have ho3 := ownsRow_keepL HOWN.out hm.2 HFP.out
  have HO3 := Lib.hid ho3
  have HR3 : Hid (∀ h : 0 < na, ∃ g, A' = some ⟨g, 0, none⟩ ∧ RowK .u8 w3 g na 5) := Lib.hid fun h => by
    have h1 := ho3
    rw [show (o.lb.map fun x : Nat => Value.int .u8 x) = (o.lb.map fun x : Nat => (x : Int)).map (Value.int .u8) by rw [List.map_map]; rfl] at h1
    obtain ⟨g, c, e, _, hr⟩ := RowK.own h1 h
    injection e with e1 _ _
    exact ⟨g, e1, hr⟩
  clear hm hzz ho3 x1
  go_wp2_with fail
  go_loopw [18] (fun v18 wr => ∃ i : Nat, i ≤ na ∧ v18 = .int .i64 (i : Nat) ∧ (∀ h : 0 < na, ∃ g, A' = some ⟨g, 0, none⟩ ∧ RowK .u8 wr g na 5) ∧ KeepL (ob (.slice A' na c')) w3 wr) (fun v18 _ => na - (intOf v18).toNat)
  case atStart => exact ⟨0, Nat.zero_le _, rfl, HR3.out, KeepL.refl _ _⟩
  case round =>
    obtain ⟨i, hi, rfl, hrw, hk⟩ := hrel
    obtain ⟨w4, rfl⟩ : ∃ z : World, z = wr := ⟨_, rfl⟩
    have HK := Lib.hid hk
    by_cases hlt : i < na
    · obtain ⟨g, rfl, hr⟩ := hrw (by omega)
      have hii : 0 ≤ (i : Int) ∧ (i : Int) < (na : Int) := by omega
      obtain ⟨x, hx⟩ := hr.cell hlt
      have hf := hr.froz i
      have HW := Lib.hid hr
      clear hrw hr hk
      go_wp2_with fail
      go_roundw
      case rel => exact ⟨i + 1, by omega, by go_num, fun _ => ⟨g, rfl, HW.out.set i _⟩, HK.out.trans ((KeepL.set _ _ _ _).sub (fun k hk => by rw [List.mem_singleton] at hk; subst hk; exact mem_ob.2 rfl))⟩
      case measure => simp [intOf]; omega
    · have hii : ¬ (i : Int) < (na : Int) := by omega
      have HK14 : Hid (KeepL (fpL D bs bm p) w1 w4) := Lib.hid (H1.out.obKeep (fun k q => ob_ge HOWN.out k q) HB2.out HM2.out.2 hk)
      have HRD4 := Lib.hid (H1.out.rd.keepD H1.out.dk HK14.out)
      obtain ⟨⟨p', q1, q2⟩, q3⟩ := HM2.out
      have HDK4 := Lib.hid (q1.keepT hk (fun k q => by
        obtain ⟨cs, hcs⟩ := own_bk HO3.out k q
        exact ⟨cs, _, hcs, by decide, by decide, by decide, by decide⟩))
      have HXX : Hid (Bk w4 w.heap.size (o.cells A na ca K nk kc) 34) := Lib.hid (HX.out.keepL HK14.out (fun hm => by have := H.out.dk.fpLt _ hm; omega))
      have y1 := HXX.out.cell 1; have y3 := HXX.out.cell 3
      change w4.cell? ⟨w.heap.size, 1, none⟩ = some (.int .i64 o.sec) at y1
      change w4.cell? ⟨w.heap.size, 3, none⟩ = some (.slice A na ca) at y3
      have HNP := Lib.hid q2
      have HBL4 : Hid (Below B w w4) := Lib.hid ((HB1.out.mono H.out.le).trans (H1.out.below HK14.out))
      have HRB4 := Lib.hid ((HO.out.rb.below HBL4.out).mono (Nat.le_trans H.out.le HBL4.out.size))
      clear hrw hk q1 q2 q3
      go_wp2_with fail
      refine (rwrite_any HRD4.out o.sec A na ca o.lb HO.out.lb HRB4.out).mono ?_
      rintro e w5 ⟨rfl, hm5⟩
      have HM5 := Lib.hid hm5
      clear hm5
      rw [← HZZ.out]
      go_wp2_with fail
      go_ret
      refine ⟨rfl, _, p', HDK4.out.keepR HRD4.out HM5.out.2, HM5.out.1, HBL4.out.trans (H.out.belowR HBL4.out.size HM5.out.2), write_age d H.out.age.1 _ _, fun k hk => ?_⟩
      by_cases hl : k < w2.heap.size
      · exact H.out.fd k (HNP.out.fp D bs bm k hk hl)
      · have := H.out.le; have := HB1.out.size; have := HB2.out.size; omega
set_option maxRecDepth 100000 in
set_option maxHeartbeats 1000000 in
theorem touch4 (h : Two w B D d bs bm cp p R bn bk bf cn ck cf) (o : Dop) (A : Option Addr) (na ca : Nat) (K : Option Addr) (nk kc : Nat) (ho : OpV w B o A na ca K nk kc) (hz : o.dn % 8 = 4) :
    Calls Tryz.prog 18 #[.pointer (some ⟨D, 0, none⟩), .pointer (some ⟨R, 0, none⟩), .agg (o.cells A na ca K nk kc)] w (TouP B D bs bm cp R bn bk bf cn ck cf d w) := by
  have HM := Lib.hid (mod8_any o.dn ho.dn)
  have HZ := Lib.hid hz
  obtain ⟨w1, hw1⟩ : ∃ z, z = w.alloc (.cells (o.cells A na ca K nk kc) 34) := ⟨_, rfl⟩
  have HW1 := Lib.hid hw1
  have HB1 : Hid (Below w.heap.size w w1) := Lib.hid (by rw [hw1]; exact balloc _ _)
  have HX : Hid (Bk w1 w.heap.size (o.cells A na ca K nk kc) 34) := Lib.hid (by rw [hw1]; exact Bk.new _ _ _)
  have H := Lib.hid h
  have H1 := Lib.hid (h.far HB1.out)
  have HO := Lib.hid ho
  have b0 := HX.out.cell 0; have b1 := HX.out.cell 1; have b2 := HX.out.cell 2; have b3 := HX.out.cell 3; have b4 := HX.out.cell 4
  change w1.cell? ⟨w.heap.size, 0, none⟩ = some (.int .i64 o.dn) at b0
  change w1.cell? ⟨w.heap.size, 1, none⟩ = some (.int .i64 o.sec) at b1
  change w1.cell? ⟨w.heap.size, 2, none⟩ = some (.int .i64 o.num) at b2
  change w1.cell? ⟨w.heap.size, 3, none⟩ = some (.slice A na ca) at b3
  change w1.cell? ⟨w.heap.size, 4, none⟩ = some (.slice K nk kc) at b4
  clear hw1 hz h ho
  unfold Dop.cells at HW1 ⊢
  go_enter Tryz.func18, Tryz.ntmps18
  go_wp2_with fail
  rw [← HW1.out]
  go_wp2_with fail
  refine (HM.out w1).mono ?_
  rintro e w' ⟨⟨z, hz, rfl⟩, rfl⟩
  rw [HZ.out] at hz
  subst hz
  obtain ⟨i0, hi0, hz0, hz1, hz2⟩ := info_parts info_int_rd
  have HI0 := Lib.hid hi0; have HZ0 := Lib.hid hz0; have HZ1 := Lib.hid hz1; have HZ2 := Lib.hid hz2
  have HRB := Lib.hid ((HO.out.rk.below (HB1.out.mono H.out.le)).mono (Nat.le_trans H.out.le HB1.out.size))
  have hna : nk ≤ 300 := HO.out.nk.1
  clear hi0 hz0 hz1 hz2
  have b4' : ∀ q, (w1.alloc q).cell? ⟨w.heap.size, 4, none⟩ = some (.slice K nk kc) := fun q => by rw [(balloc w1 q).cell (p := ⟨w.heap.size, 4, none⟩) HX.out.lt]; exact b4
  go_wp2_with (at_builtin; refine wpList_append_rd _ rfl (.tmp 126) (.tmp 128) _ rfl w1.heap.size 3 i0 _ 1 8 Tryz.underlying32 HI0.out HZ0.out HZ1.out HZ2.out rfl (by decide) _ 0 [] rfl (World.ownsRow_made w1 #[] 0 (Nat.le_refl _) (by simp [maxLen]) (by simp)) _ K nk kc _ rfl (HRB.out.alloc (Nat.le_refl _) _) (by intro u hu; obtain ⟨_, _, rfl⟩ := List.mem_map.1 hu; rfl) (by unfold maxLen; omega) (by omega) (by simp) ?_; intro v2 w2 hown1 hg1; have hb2 : Below w1.heap.size w1 w2 := (((Below.refl _ _).alloc (Nat.le_refl _) _).grown hg1 (by simp) (fun g hg => by cases hg; exact Nat.le_refl _)); (rw [Nat.zero_add, List.nil_append] at hown1); obtain ⟨A', c', rfl, hc, hcm⟩ := own_cap hown1; have HOWN := Lib.hid hown1; have HB2 := Lib.hid hb2; clear hown1 hg1 hb2; have x2 : w2.cell? ⟨w.heap.size, 2, none⟩ = some (.int .i64 o.num) := by (rw [HB2.out.cell (p := ⟨w.heap.size, 2, none⟩) HX.out.lt]; exact b2))
  have HFP : Hid (∀ k ∈ fpL D bs bm p, k < w1.heap.size) := Lib.hid H1.out.dk.fpLt
  refine (planN_any (H1.out.far HB2.out).dk o.num HO.out.num.2 A' nk c' o.lk (by omega) (Rd.own HOWN.out)).mono ?_
  rintro e w3 ⟨⟨rfl, hm⟩, hcs⟩
  have HM2 := Lib.hid hm
  have HCS := Lib.hid hcs
  obtain ⟨zz, hzz⟩ : ∃ zz, zz = (d.planR o.num o.lk).1 := ⟨_, rfl⟩
  rw [← hzz]
  have HZZ := Lib.hid hzz
  have ho3 := ownsRow_keepL HOWN.out hm.2 HFP.out
  have HO3 := Lib.hid ho3
  have HR3 : Hid (∀ h : 0 < nk, ∃ g, A' = some ⟨g, 0, none⟩ ∧ RowK .i64 w3 g nk 3) := Lib.hid fun h => by
    obtain ⟨g, c, e, _, hr⟩ := RowK.own ho3 h
    injection e with e1 _ _
    exact ⟨g, e1, hr⟩
  clear hm hzz ho3 x2 hcs
  go_wp2_with fail
  go_loopw [21] (fun v21 wr => ∃ i : Nat, i ≤ nk ∧ v21 = .int .i64 (i : Nat) ∧ (∀ h : 0 < nk, ∃ g, A' = some ⟨g, 0, none⟩ ∧ RowK .i64 wr g nk 3) ∧ KeepL (ob (.slice A' nk c')) w3 wr) (fun v21 _ => nk - (intOf v21).toNat)
  case atStart => exact ⟨0, Nat.zero_le _, rfl, HR3.out, KeepL.refl _ _⟩
  case round =>
    obtain ⟨i, hi, rfl, hrw, hk⟩ := hrel
    obtain ⟨w4, rfl⟩ : ∃ z : World, z = wr := ⟨_, rfl⟩
    have HK := Lib.hid hk
    by_cases hlt : i < nk
    · obtain ⟨g, rfl, hr⟩ := hrw (by omega)
      have hii : 0 ≤ (i : Int) ∧ (i : Int) < (nk : Int) := by omega
      obtain ⟨x, hx⟩ := hr.cell hlt
      have hf := hr.froz i
      have HW := Lib.hid hr
      clear hrw hr hk
      go_wp2_with fail
      go_roundw
      case rel => exact ⟨i + 1, by omega, by go_num, fun _ => ⟨g, rfl, HW.out.set i _⟩, HK.out.trans ((KeepL.set _ _ _ _).sub (fun k hk => by rw [List.mem_singleton] at hk; subst hk; exact mem_ob.2 rfl))⟩
      case measure => simp [intOf]; omega
    · have hii : ¬ (i : Int) < (nk : Int) := by omega
      have HK14 : Hid (KeepL (fpL D bs bm p) w1 w4) := Lib.hid (H1.out.obKeep (fun k q => ob_ge HOWN.out k q) HB2.out HM2.out.2 hk)
      have HRD4 := Lib.hid (H1.out.rd.keepD H1.out.dk HK14.out)
      have HDK4 : Hid (∃ p', DkAt w4 D (d.planR o.num o.lk).2 bs bm cp p' ∧ NewP w2 p p') := Lib.hid (by
        rcases HCS.out with ⟨e1, e2⟩ | ⟨bp, A2, n2, c2, q1, ⟨q2, q3⟩, q4⟩
        · rw [e2]
          subst e1
          exact ⟨p, H1.out.dk.far (HB2.out.trans (hk.below HB2.out.size (fun k q => ob_ge HOWN.out k q))), .refl _ _⟩
        · refine ⟨_, q1.keepTX (t := 3) hk (fun k q => own_bk HO3.out k q) (by decide) (by decide) (by decide) (fun bp' kv e3 e4 g e5 hm => ?_), .inr (.inr ⟨bp, rfl, q2⟩)⟩
          injection e3 with e3
          injection e3 with e3
          subst e3
          rw [q3.cell] at e4
          have e6 : (Value.slice A2 n2 c2) = kv := by injection e4
          subst e6
          have h1 := q4 g e5
          have h2 := (HOWN.out.lt g (mem_ob.1 hm)).2
          omega)
      have HXX : Hid (Bk w4 w.heap.size (o.cells A na ca K nk kc) 34) := Lib.hid (HX.out.keepL HK14.out (fun hm => by have := H.out.dk.fpLt _ hm; omega))
      have y2 := HXX.out.cell 2; have y4 := HXX.out.cell 4
      change w4.cell? ⟨w.heap.size, 2, none⟩ = some (.int .i64 o.num) at y2
      change w4.cell? ⟨w.heap.size, 4, none⟩ = some (.slice K nk kc) at y4
      have HBL4 : Hid (Below B w w4) := Lib.hid ((HB1.out.mono H.out.le).trans (H1.out.below HK14.out))
      have HRB4 := Lib.hid ((HO.out.rk.below HBL4.out).mono (Nat.le_trans H.out.le HBL4.out.size))
      have HAR : Hid (0 < nk → ∀ q, K = some q → q.block ≠ R) := Lib.hid fun hp q e hq => by
        obtain ⟨b, off, e1, hb, _⟩ := HO.out.rk.2 hp
        rw [e] at e1
        injection e1 with e1
        subst e1
        have := H.out.fr R (by simp [fpR])
        dsimp only at hq
        omega
      clear hrw hk
      go_wp2_with fail
      refine (rplan_any HRD4.out o.num HO.out.num.2 K nk kc o.lk (by omega) HRB4.out HAR.out).mono ?_
      rintro e w5 ⟨rfl, hm5⟩
      have HM5 := Lib.hid hm5
      clear hm5
      rw [← HZZ.out]
      go_wp2_with fail
      go_ret
      obtain ⟨p', q1, q2⟩ := HDK4.out
      refine ⟨rfl, _, p', q1.keepR HRD4.out HM5.out.2, HM5.out.1, HBL4.out.trans (H.out.belowR HBL4.out.size HM5.out.2), plan_age d H.out.age.1 _ _, fun k hk => ?_⟩
      by_cases hl : k < w2.heap.size
      · exact H.out.fd k (q2.fp D bs bm k hk hl)
      · have := H.out.le; have := HB1.out.size; have := HB2.out.size; omega
set_option maxRecDepth 100000 in
set_option maxHeartbeats 1000000 in
theorem touch7 (h : Two w B D d bs bm cp p R bn bk bf cn ck cf) (o : Dop) (A : Option Addr) (na ca : Nat) (K : Option Addr) (nk kc : Nat) (ho : OpV w B o A na ca K nk kc) (hz : o.dn % 8 = 7) :
    Calls Tryz.prog 18 #[.pointer (some ⟨D, 0, none⟩), .pointer (some ⟨R, 0, none⟩), .agg (o.cells A na ca K nk kc)] w (TouP B D bs bm cp R bn bk bf cn ck cf d w) := by
  have HM := Lib.hid (mod8_any o.dn ho.dn)
  have HZ := Lib.hid hz
  obtain ⟨w1, hw1⟩ : ∃ z, z = w.alloc (.cells (o.cells A na ca K nk kc) 34) := ⟨_, rfl⟩
  have HW1 := Lib.hid hw1
  have HB1 : Hid (Below w.heap.size w w1) := Lib.hid (by rw [hw1]; exact balloc _ _)
  have HX : Hid (Bk w1 w.heap.size (o.cells A na ca K nk kc) 34) := Lib.hid (by rw [hw1]; exact Bk.new _ _ _)
  have H := Lib.hid h
  have H1 := Lib.hid (h.far HB1.out)
  have HO := Lib.hid ho
  have b0 := HX.out.cell 0; have b1 := HX.out.cell 1; have b2 := HX.out.cell 2; have b3 := HX.out.cell 3; have b4 := HX.out.cell 4
  change w1.cell? ⟨w.heap.size, 0, none⟩ = some (.int .i64 o.dn) at b0
  change w1.cell? ⟨w.heap.size, 1, none⟩ = some (.int .i64 o.sec) at b1
  change w1.cell? ⟨w.heap.size, 2, none⟩ = some (.int .i64 o.num) at b2
  change w1.cell? ⟨w.heap.size, 3, none⟩ = some (.slice A na ca) at b3
  change w1.cell? ⟨w.heap.size, 4, none⟩ = some (.slice K nk kc) at b4
  clear hw1 hz h ho
  unfold Dop.cells at HW1 ⊢
  go_enter Tryz.func18, Tryz.ntmps18
  go_wp2_with fail
  rw [← HW1.out]
  go_wp2_with fail
  refine (HM.out w1).mono ?_
  rintro e w' ⟨⟨z, hz, rfl⟩, rfl⟩
  rw [HZ.out] at hz
  subst hz
  go_wp2_with fail
  have HS : Hid (∀ W, KeepL (fpL D bs bm p ++ fpR R bn bk bf) w1 W → (W.cell? ⟨w.heap.size, 1, none⟩ = some (.int .i64 o.sec) ∧ W.cell? ⟨w.heap.size, 2, none⟩ = some (.int .i64 o.num))) := Lib.hid fun W hW => by
    have hn : w.heap.size ∉ fpL D bs bm p ++ fpR R bn bk bf := fun hm => by
      rcases List.mem_append.1 hm with hm | hm
      · have := H.out.dk.fpLt _ hm; omega
      · have := H.out.rd.fpLt _ hm; omega
    have h1 := HX.out.keepL hW hn
    exact ⟨h1.cell 1, h1.cell 2⟩
  obtain ⟨L, hL⟩ : ∃ L, L = List.replicate 64 (o.num % 256).toNat := ⟨_, rfl⟩
  have HL : Hid (∀ x ∈ L, x < 256) := Lib.hid (fun x hx => by rw [hL] at hx; rw [List.eq_of_mem_replicate hx]; omega)
  have HLE := Lib.hid hL
  obtain ⟨zz, hzz⟩ : ∃ zz, zz = (d.write o.sec L).1 := ⟨_, rfl⟩
  have HZZ := Lib.hid hzz
  clear hL hzz
  -- <REGION t7
  refine wp_region_held_drew (S := (fun W => W.cell? ⟨w.heap.size, 1, none⟩ = some (.int .i64 o.sec) ∧ W.cell? ⟨w.heap.size, 2, none⟩ = some (.int .i64 o.num))) (by kernel_rfl) ?_ (fun hHeld => ?_)
  · (try dsimp only); (refine HS.out _ ?_; first | exact HK5.out | exact HK4.out | exact HK3.out | exact HK2.out | exact KeepL.of_below (below_drew8 _ _) | exact KeepL.refl _ _)
  refine wpAnyH_take (i := 0) (oi := ⟨some 161, _, _, _, _, _⟩) (v := ?_) rfl (by kernel_rfl) (by kernel_rfl) (by kernel_rfl) (fun _ _ _ h => h) (Or.inl ⟨by rfl, ?_⟩) (by assumption) ?_; rotate_left
  · intro w hSw; (try dsimp only at hSw); go_simp; try with_reducible rfl
  try simp only [Act.put, setIfInBounds_toArray, set_cons_zero, set_cons_succ]
  refine wpAnyH_take (i := 1) (oi := ⟨some 162, _, _, _, _, _⟩) (v := ?_) rfl (by kernel_rfl) (by kernel_rfl) (by kernel_rfl) (fun _ _ _ h => h) (Or.inl ⟨by rfl, ?_⟩) (by assumption) ?_; rotate_left
  · intro w hSw; (try dsimp only at hSw); go_simp; try with_reducible rfl
  try simp only [Act.put, setIfInBounds_toArray, set_cons_zero, set_cons_succ]
  refine wpAnyH_take (i := 2) (oi := ⟨some 163, _, _, _, _, _⟩) (v := ?_) rfl (by kernel_rfl) (by kernel_rfl) (by kernel_rfl) (fun _ _ _ h => h) (Or.inl ⟨by rfl, ?_⟩) (by assumption) ?_; rotate_left
  · intro w hSw; (try dsimp only at hSw); go_simp; try with_reducible rfl
  try simp only [Act.put, setIfInBounds_toArray, set_cons_zero, set_cons_succ]
  refine wpAnyH_take (i := 3) (oi := ⟨some 164, _, _, _, _, _⟩) (v := ?_) rfl (by kernel_rfl) (by kernel_rfl) (by kernel_rfl) (fun _ _ _ h => h) (Or.inl ⟨by rfl, ?_⟩) (by assumption) ?_; rotate_left
  · intro w hSw; (try dsimp only at hSw); go_simp; try with_reducible rfl
  try simp only [Act.put, setIfInBounds_toArray, set_cons_zero, set_cons_succ]
  refine wpAnyH_take (i := 4) (oi := ⟨some 165, _, _, _, _, _⟩) (v := ?_) rfl (by kernel_rfl) (by kernel_rfl) (by kernel_rfl) (fun _ _ _ h => h) (Or.inl ⟨by rfl, ?_⟩) (by assumption) ?_; rotate_left
  · intro w hSw; (try dsimp only at hSw); go_simp; try with_reducible rfl
  try simp only [Act.put, setIfInBounds_toArray, set_cons_zero, set_cons_succ]
  refine wpAnyH_take (i := 7) (oi := ⟨some 168, _, _, _, _, _⟩) (v := ?_) rfl (by kernel_rfl) (by kernel_rfl) (by kernel_rfl) (fun _ _ _ h => h) (Or.inl ⟨by rfl, ?_⟩) (by assumption) ?_; rotate_left
  · intro w hSw; (try dsimp only at hSw); go_simp; try with_reducible rfl
  try simp only [Act.put, setIfInBounds_toArray, set_cons_zero, set_cons_succ]
  refine wpAnyH_take (i := 8) (oi := ⟨some 169, _, _, _, _, _⟩) (v := ?_) rfl (by kernel_rfl) (by kernel_rfl) (by kernel_rfl) (fun _ _ _ h => h) (Or.inl ⟨by rfl, ?_⟩) (by assumption) ?_; rotate_left
  · intro w hSw; (try dsimp only at hSw); go_simp; try with_reducible rfl
  try simp only [Act.put, setIfInBounds_toArray, set_cons_zero, set_cons_succ]
  refine wpAnyH_take (i := 9) (oi := ⟨some 170, _, _, _, _, _⟩) (v := ?_) rfl (by kernel_rfl) (by kernel_rfl) (by kernel_rfl) (fun _ _ _ h => h) (Or.inl ⟨by rfl, ?_⟩) (by assumption) ?_; rotate_left
  · intro w hSw; (try dsimp only at hSw); go_simp; try with_reducible rfl
  try simp only [Act.put, setIfInBounds_toArray, set_cons_zero, set_cons_succ]
  refine wpAnyH_take (i := 10) (oi := ⟨some 171, _, _, _, _, _⟩) (v := ?_) rfl (by kernel_rfl) (by kernel_rfl) (by kernel_rfl) (fun _ _ _ h => h) (Or.inl ⟨by rfl, ?_⟩) (by assumption) ?_; rotate_left
  · intro w hSw; (try dsimp only at hSw); go_simp; try with_reducible rfl
  try simp only [Act.put, setIfInBounds_toArray, set_cons_zero, set_cons_succ]
  refine wpAnyH_take (i := 11) (oi := ⟨some 172, _, _, _, _, _⟩) (v := ?_) rfl (by kernel_rfl) (by kernel_rfl) (by kernel_rfl) (fun _ _ _ h => h) (Or.inl ⟨by rfl, ?_⟩) (by assumption) ?_; rotate_left
  · intro w hSw; (try dsimp only at hSw); go_simp; try with_reducible rfl
  try simp only [Act.put, setIfInBounds_toArray, set_cons_zero, set_cons_succ]
  refine wpAnyH_ready (rs := [5]) (by kernel_rfl) (by simp) ?_
  refine AllReadyH.cons (o := ⟨some 166, _, _, _, _, _⟩) rfl (fun K hK => ?_) AllReadyH.nil
  go_simp
  refine (all8_any o.num _).mono ?_
  rintro e w2 ⟨⟨g2, rfl, hg2, hr2⟩, hb2⟩
  rw [← HLE.out] at hr2
  have HB2 := Lib.hid (Below.trans (below_drew8 w1 _) (hb2.mono (Nat.le_refl _)))
  have HR2 := Lib.hid hr2
  have HK2 : Hid (KeepL (fpL D bs bm p ++ fpR R bn bk bf) w1 w2) := Lib.hid (KeepL.of_below HB2.out)
  clear hg2 hr2 hb2
  go_wp2_with fail
  refine hK.out _ _ ?_ (fun hHeld => ?_)
  · (try dsimp only); (refine HS.out _ ?_; first | exact HK5.out | exact HK4.out | exact HK3.out | exact HK2.out | exact KeepL.of_below (below_drew8 _ _) | exact KeepL.refl _ _)
  clear hK K
  try simp only [Act.put, setIfInBounds_toArray, set_cons_zero, set_cons_succ]
  refine wpAnyH_ready (rs := [6]) (by kernel_rfl) (by simp) ?_
  refine AllReadyH.cons (o := ⟨some 167, _, _, _, _, _⟩) rfl (fun K hK => ?_) AllReadyH.nil
  go_simp
  refine (write_free (H1.out.far HB2.out).dk ⟨H1.out.age.1, by have := H1.out.age.2; omega⟩ o.sec _ 64 64 L HL.out (Nat.le_refl _) HR2.out).mono ?_
  rintro e w3 ⟨rfl, hm⟩
  have HM3 := Lib.hid hm
  have HK3 : Hid (KeepL (fpL D bs bm p ++ fpR R bn bk bf) w1 w3) := Lib.hid (HK2.out.trans (hm.2.sub (fun k hk => List.mem_append.2 (.inl hk))))
  clear hm
  rw [← HZZ.out]
  go_wp2_with fail
  refine hK.out _ _ ?_ (fun hHeld => ?_)
  · (try dsimp only); (refine HS.out _ ?_; first | exact HK5.out | exact HK4.out | exact HK3.out | exact HK2.out | exact KeepL.of_below (below_drew8 _ _) | exact KeepL.refl _ _)
  clear hK K
  try simp only [Act.put, setIfInBounds_toArray, set_cons_zero, set_cons_succ]
  refine wpAnyH_ready (rs := [12]) (by kernel_rfl) (by simp) ?_
  refine AllReadyH.cons (o := ⟨some 173, _, _, _, _, _⟩) rfl (fun K hK => ?_) AllReadyH.nil
  go_simp
  refine (all8_any o.num _).mono ?_
  rintro e w4 ⟨⟨g4, rfl, hg4, hr4⟩, hb4⟩
  rw [← HLE.out] at hr4
  have HB4 := Lib.hid hb4
  have HR4 := Lib.hid hr4
  have HK4 : Hid (KeepL (fpL D bs bm p ++ fpR R bn bk bf) w1 w4) := Lib.hid (HK3.out.trans (KeepL.of_below hb4))
  clear hg4 hr4 hb4
  go_wp2_with fail
  refine hK.out _ _ ?_ (fun hHeld => ?_)
  · (try dsimp only); (refine HS.out _ ?_; first | exact HK5.out | exact HK4.out | exact HK3.out | exact HK2.out | exact KeepL.of_below (below_drew8 _ _) | exact KeepL.refl _ _)
  clear hK K
  try simp only [Act.put, setIfInBounds_toArray, set_cons_zero, set_cons_succ]
  refine wpAnyH_ready (rs := [13]) (by kernel_rfl) (by simp) ?_
  refine AllReadyH.cons (o := ⟨some 174, _, _, _, _, _⟩) rfl (fun K hK => ?_) AllReadyH.nil
  go_simp
  have HRD4 := Lib.hid (((H1.out.far HB2.out).rd.keepD (H1.out.far HB2.out).dk HM3.out.2).far HB4.out)
  refine (rwrite_any HRD4.out o.sec _ 64 64 L HL.out HR4.out).mono ?_
  rintro e w5 ⟨rfl, hm⟩
  have HM5 := Lib.hid hm
  have HK5 : Hid (KeepL (fpL D bs bm p ++ fpR R bn bk bf) w1 w5) := Lib.hid (HK4.out.trans (hm.2.sub (fun k hk => List.mem_append.2 (.inr hk))))
  clear hm
  rw [← HZZ.out]
  go_wp2_with fail
  refine hK.out _ _ ?_ (fun hHeld => ?_)
  · (try dsimp only); (refine HS.out _ ?_; first | exact HK5.out | exact HK4.out | exact HK3.out | exact HK2.out | exact KeepL.of_below (below_drew8 _ _) | exact KeepL.refl _ _)
  clear hK K
  try simp only [Act.put, setIfInBounds_toArray, set_cons_zero, set_cons_succ]
  refine wpAnyH_take (i := 14) (oi := ⟨some 175, _, _, _, _, _⟩) (v := ?_) rfl (by kernel_rfl) (by kernel_rfl) (by kernel_rfl) (fun _ _ _ h => h) (Or.inl ⟨by rfl, ?_⟩) (by assumption) ?_; rotate_left
  · intro w hSw; (try dsimp only at hSw); go_simp; try with_reducible rfl
  try simp only [Act.put, setIfInBounds_toArray, set_cons_zero, set_cons_succ]
  refine wpAnyH_take (i := 15) (oi := ⟨some 6, _, _, _, _, _⟩) (v := ?_) rfl (by kernel_rfl) (by kernel_rfl) (by kernel_rfl) (fun _ _ _ h => h) (Or.inl ⟨by rfl, ?_⟩) (by assumption) ?_; rotate_left
  · intro w hSw; (try dsimp only at hSw); go_simp; try with_reducible rfl
  try simp only [Act.put, setIfInBounds_toArray, set_cons_zero, set_cons_succ]
  refine wpAnyH_done (by kernel_rfl) ?_ _
  go_wp2_with fail
  go_ret
  obtain ⟨⟨p', q1, q2⟩, q3⟩ := HM3.out
  refine ⟨rfl, _, p', (q1.far HB4.out).keepR HRD4.out HM5.out.2, HM5.out.1, (HB1.out.mono H.out.le).trans (HK5.out.below H1.out.le (fun k hk => ?_)), write_age d H.out.age.1 _ _, fun k hk => ?_⟩
  · rcases List.mem_append.1 hk with hk | hk
    · exact H.out.fd k hk
    · exact H.out.fr k hk
  · by_cases hl : k < w2.heap.size
    · exact H.out.fd k (q2.fp D bs bm k hk hl)
    · have := H.out.le; have := HB1.out.size; have := HB2.out.size; omega
  -- REGION>
-- TOUCH>
end
end Go.Proofs.YtdgmjedkhjeadaaGreat
namespace Go.Proofs.YtdgmjedkhjeadaaGreat
open List (setIfInBounds_toArray set_cons_zero set_cons_succ)
open Go.ChangeShapes Go.WideShapes Go.ChangeAt Go.RowKit
set_option linter.unusedVariables false
structure DopA where
  dn : Int
  sec : Int
  num : Int
  b : BytesArg
  k : IntsArg
def dopC (x : DopA) : List Value := [.int .i64 x.dn, .int .i64 x.sec, .int .i64 x.num, .slice x.b.A x.b.n x.b.c, .slice x.k.A x.k.n x.k.c]
def DopA.raw (x : DopA) (w : World) : Prop := (-9223372036854775808 ≤ x.dn ∧ x.dn ≤ 9223372036854775807) ∧ (-9223372036854775808 ≤ x.sec ∧ x.sec ≤ 9223372036854775807) ∧ (-9223372036854775808 ≤ x.num ∧ x.num ≤ 9223372036854775807) ∧ IsBytes w (.slice x.b.A x.b.n x.b.c) x.b ∧ IsInts w (.slice x.k.A x.k.n x.k.c) x.k
section
variable {H : Type} {enc : TypeId × Value → H} {P : Program} {w : World} {base : Nat} {spare : Nat → Bool} {held : Bool}
theorem OpenDop_fields {t : TypeId} {f0 f1 f2 f3 f4 : Field} {fuel : Nat} {cs : List Value} {x : DataW H × List MemPlace} (ht : P.underlying t = some (.struct #[f0, f1, f2, f3, f4])) (h : DataW.trod enc P w base spare held fuel t cs = some x) :
    ∃ (n : Nat) (y0 y1 y2 y3 y4 : DataW H × List MemPlace), DataW.trod enc P w base spare held n f0.type ((cs.drop f0.offset).take (P.cellsOf f0.type)) = some y0 ∧ DataW.trod enc P w base spare held n f1.type ((cs.drop f1.offset).take (P.cellsOf f1.type)) = some y1 ∧ DataW.trod enc P w base spare held n f2.type ((cs.drop f2.offset).take (P.cellsOf f2.type)) = some y2 ∧
      DataW.trod enc P w base spare held n f3.type ((cs.drop f3.offset).take (P.cellsOf f3.type)) = some y3 ∧ DataW.trod enc P w base spare held n f4.type ((cs.drop f4.offset).take (P.cellsOf f4.type)) = some y4 := by
  obtain ⟨xs, n, _, rfl, hl, hlen, hf⟩ := DataW.trod_struct ht h
  match xs, hlen with
  | [y0, y1, y2, y3, y4], _ => exact ⟨n, y0, y1, y2, y3, y4, by simpa using hf 0 f0 rfl, by simpa using hf 1 f1 rfl, by simpa using hf 2 f2 rfl, by simpa using hf 3 f3 rfl, by simpa using hf 4 f4 rfl⟩
end
theorem OpenDop_list {α : Type} {l : List α} (h : l.length = 5) : ∃ a0 a1 a2 a3 a4, l = [a0, a1, a2, a3, a4] := by
  match l, h with
  | [a0, a1, a2, a3, a4], _ => exact ⟨a0, a1, a2, a3, a4, rfl⟩
theorem OpenDop_each {α : Type} {Q : Nat → α → Prop} : ∀ (n : Nat), (∀ k, k < n → ∃ x, Q k x) → ∃ l : List α, l.length = n ∧ ∀ k (h : k < l.length), Q k l[k]
  | 0, _ => ⟨[], rfl, fun k h => absurd h (by simp)⟩
  | n + 1, h => by
    obtain ⟨l, hl, hq⟩ := OpenDop_each n (fun k hk => h k (by omega))
    obtain ⟨x, hx⟩ := h n (by omega)
    refine ⟨l ++ [x], by simp [hl], fun k hk => ?_⟩
    rcases Nat.lt_or_ge k l.length with h1 | h1
    · rw [List.getElem_append_left h1]; exact hq k h1
    · have hk' : k = l.length := by simp at hk; omega
      subst hk'
      rw [List.getElem_append_right (Nat.le_refl _)]
      simpa [hl] using hx
def dopsC (l : List DopA) : List Value := l.flatMap dopC
theorem dopC_len (x : DopA) : (dopC x).length = 5 := rfl
theorem dopsC_len : ∀ l : List DopA, (dopsC l).length = l.length * 5
  | [] => rfl
  | x :: l => by
    have := dopsC_len l
    unfold dopsC at *
    rw [List.flatMap_cons, List.length_append, this, dopC_len, List.length_cons]
    omega
theorem dopsC_get : ∀ (l : List DopA) (k : Nat) (x : DopA), l[k]? = some x → ∀ o, o < 5 → (dopsC l)[k * 5 + o]? = (dopC x)[o]?
  | [], k, x, h, o, ho => by simp at h
  | y :: l, 0, x, h, o, ho => by
    obtain rfl : y = x := by simpa using h
    unfold dopsC
    rw [List.flatMap_cons, Nat.zero_mul, Nat.zero_add, List.getElem?_append_left (by rw [dopC_len]; exact ho)]
  | y :: l, k + 1, x, h, o, ho => by
    have := dopsC_get l k x (by simpa using h) o ho
    unfold dopsC at *
    rw [List.flatMap_cons, List.getElem?_append_right (by rw [dopC_len]; omega), dopC_len, show (k + 1) * 5 + o - 5 = k * 5 + o by omega]
    exact this
structure DopsArg where
  A : Option Addr
  n : Nat
  c : Nat
  l : List DopA
def IsDops (w : World) (v : Value) (i : DopsArg) : Prop := v = .slice i.A i.n i.c ∧ i.n ≤ i.c ∧ i.c ≤ 9223372036854775807 ∧ i.l.length = i.n ∧ Rd w w.heap.size 5 i.A i.n (dopsC i.l) ∧ ∀ x ∈ i.l, x.raw w
theorem dopsC_rd {w : World} {b off n : Nat} {l : List DopA} (hl : l.length = n) (hb : 0 < n → b < w.heap.size) (h : ∀ k (h : k < l.length), ∀ o, o < 5 → w.cell? ⟨b, off + k * 5 + o, none⟩ = (dopC l[k])[o]?) : Rd w w.heap.size 5 (some ⟨b, off, none⟩) n (dopsC l) := by
  refine ⟨by rw [dopsC_len, hl], fun hn => ⟨b, off, rfl, hb hn, fun j u hu => ?_⟩⟩
  have hj : j < l.length * 5 := by have := (List.getElem?_eq_some_iff.1 hu).1; rwa [dopsC_len] at this
  have hjl : j / 5 < l.length := by omega
  have hm : j % 5 < 5 := Nat.mod_lt _ (by omega)
  have e : j = j / 5 * 5 + j % 5 := by omega
  rw [e, dopsC_get l (j / 5) _ (List.getElem?_eq_getElem hjl) _ hm] at hu
  rw [e, ← Nat.add_assoc, h _ hjl _ hm]
  exact hu
section
variable {H : Type} {enc : TypeId × Value → H} {W : World} {v : Value} {d : DataW H} {p : List MemPlace}
set_option maxRecDepth 100000 in
set_option maxHeartbeats 1000000 in
theorem open_dops_cells {fuel : Nat} {cs : List Value} {x : DataW H × List MemPlace} (h : DataW.trod enc Tryz.prog W 0 (fun _ => true) true fuel 22 cs = some x) :
    ∃ i, cs = [.slice i.A i.n i.c] ∧ IsDops W (.slice i.A i.n i.c) i := by
  rcases Deep.open_slice Tryz.underlying22 h with ⟨hc, _⟩ | ⟨a, len, cap, m, n, D, Pl, hc, _, hl, hm, hm2, _, hel⟩
  · exact ⟨⟨none, 0, 0, []⟩, hc, rfl, Nat.le_refl _, by decide, rfl, Rd.nil _ _ _ _, by simp⟩
  · have c1 : Tryz.prog.cellsOf 34 = 5 := by kernel_rfl
    have k3 : Tryz.prog.cellsOf 3 = 1 := by kernel_rfl
    have k4 : Tryz.prog.cellsOf 31 = 1 := by kernel_rfl
    have k5 : Tryz.prog.cellsOf 32 = 1 := by kernel_rfl
    have hsp : 0 < len → a.spot = none := fun h0 => by
      obtain ⟨cs', hcs', ht⟩ := hel 0 (by rw [hm2, if_pos rfl]; omega)
      rw [c1] at hcs'
      obtain ⟨_, hcl, hcell⟩ := World.cells?_some hcs'
      obtain ⟨a0, a1, a2, a3, a4, rfl⟩ := OpenDop_list hcl
      have q0 := hcell 0 (by omega)
      simp only [List.getElem?_cons_zero, Deep.add_add, Nat.zero_mul, Nat.add_zero] at q0
      exact spot_none q0 rfl
    obtain ⟨l, hll, hq⟩ := OpenDop_each (Q := fun k (s : DopA) => a.block < W.heap.size ∧ (∀ o, o < 5 → W.cell? ⟨a.block, a.off + k * 5 + o, none⟩ = (dopC s)[o]?) ∧ s.raw W) len (fun k hk => by
      have hml : k < m := by rw [hm2, if_pos rfl]; omega
      obtain ⟨cs', hcs', ht⟩ := hel k hml
      rw [c1] at hcs'
      obtain ⟨_, hcl, hcell⟩ := World.cells?_some hcs'
      obtain ⟨n', y0, y1, y2, y3, y4, f0, f1, f2, f3, f4⟩ := OpenDop_fields Tryz.underlying34 ht
      obtain ⟨a0, a1, a2, a3, a4, rfl⟩ := OpenDop_list hcl
      simp only [k3, k4, k5, List.drop_zero, List.drop_succ_cons, List.take_succ_cons, List.take_zero] at f0 f1 f2 f3 f4
      obtain ⟨z0, e0, _, wa0⟩ := DataW.trod_int Tryz.underlying3 f0
      obtain ⟨z1, e1, _, wa1⟩ := DataW.trod_int Tryz.underlying3 f1
      obtain ⟨z2, e2, _, wa2⟩ := DataW.trod_int Tryz.underlying3 f2
      obtain ⟨i3, e3, hi3⟩ := open_bytes_cells f3
      obtain ⟨i4, e4, hi4⟩ := open_ints_cells f4
      simp only [List.cons.injEq, and_true] at e0 e1 e2 e3 e4
      subst e0 e1 e2 e3 e4
      have hs := hsp (by omega)
      have q0 := hcell 0 (by omega)
      simp only [List.getElem?_cons_zero, Deep.add_add, Nat.add_zero] at q0
      have hb : a.block < W.heap.size := by
        have := World.block_lt_of_cell? W _ q0
        rwa [add_spot hs] at this
      refine ⟨⟨z0, z1, z2, i3, i4⟩, hb, fun o ho => ?_, ⟨wf_i64 wa0, wf_i64 wa1, wf_i64 wa2, hi3, hi4⟩⟩
      have qo := hcell o ho
      rw [Deep.add_add, add_spot hs] at qo
      rw [Nat.add_assoc]
      exact qo)
    have hrd : Rd W W.heap.size 5 (some a) len (dopsC l) := by
      rcases Nat.eq_zero_or_pos len with h0 | h0
      · subst h0; obtain rfl := List.eq_nil_of_length_eq_zero hll; exact Rd.nil _ _ _ _
      · have hs := hsp h0
        have := dopsC_rd (w := W) (b := a.block) (off := a.off) hll (fun _ => (hq 0 (by omega)).1) (fun k hk => (hq k hk).2.1)
        rwa [← hs] at this
    exact ⟨⟨some a, len, cap, l⟩, hc, rfl, hl, by simp [maxLen] at hm; omega, hll, hrd, fun p hp => by
      obtain ⟨k, hk, rfl⟩ := List.getElem_of_mem hp
      exact (hq k hk).2.2⟩
set_option maxRecDepth 100000 in
theorem open_dops {base : Nat} (hv : Value.okWide Tryz.prog W .any base 22 v) (h : DataW.Trod enc Tryz.prog W 0 (fun _ => true) true 22 v d p) : ∃ i, IsDops W v i := by
  obtain ⟨a, n, c, rfl⟩ := okWide_slice Tryz.underlying22 hv
  obtain ⟨fuel, hf⟩ := h
  obtain ⟨i, hc, hi⟩ := open_dops_cells hf
  simp only [Value.cells] at hc
  exact ⟨i, by rw [show (Value.slice a n c) = .slice i.A i.n i.c by simpa using hc]; exact hi⟩
end
end Go.Proofs.YtdgmjedkhjeadaaGreat
namespace Go.Proofs.YtdgmjedkhjeadaaGreat
open List (setIfInBounds_toArray set_cons_zero set_cons_succ)
set_option linter.unusedVariables false
def ko8 : Int × Dk × Option StM := (Dk.new 8).openR 0
def ks8 : StM := ko8.2.2.getD ⟨0, 0, 0, Jn.zero 0⟩
def ka8 : Int × Dk × StM := ks8.addR ko8.2.1 7 [true, false, true, false]
def kt8 : Int × List Pc × List Bool × Dk × StM := ka8.2.2.takeR ka8.2.1 2
theorem ko8_1 : ko8.1 = 0 := by kernel_rfl
theorem ko8_2 : ko8.2.2 = some ks8 := by kernel_rfl
theorem ko8_d : ko8.2.1.age = 1 ∧ ko8.2.1.dur.length = 8 ∧ ks8.age = 1 ∧ ks8.epoch = 1 ∧ ks8.area = 0 ∧ ks8.j.place = 1 ∧ ks8.j.keys = [] ∧ ks8.j.last = 0 ∧ ks8.j.tail.kind = 5 := ⟨by kernel_rfl, by kernel_rfl, by kernel_rfl, by kernel_rfl, by kernel_rfl, by kernel_rfl, by kernel_rfl, by kernel_rfl, by kernel_rfl⟩
theorem ka8_1 : ka8.1 = 0 := by kernel_rfl
theorem ka8_d : ka8.2.1.age = 1 ∧ ka8.2.1.dur.length = 8 ∧ ka8.2.2.age = 1 ∧ ka8.2.2.epoch = 1 ∧ ka8.2.2.area = 0 ∧ ka8.2.2.j.place = 2 ∧ ka8.2.2.j.keys = [⟨7, [true, false, true, false], [false, false, false, false]⟩] ∧ ka8.2.2.j.last = 7 ∧ ka8.2.2.j.tail.a = 4 := ⟨by kernel_rfl, by kernel_rfl, by kernel_rfl, by kernel_rfl, by kernel_rfl, by kernel_rfl, by kernel_rfl, by kernel_rfl, by kernel_rfl⟩
theorem kt8_1 : kt8.1 = 0 ∧ kt8.2.1 = [⟨7, 0, 2⟩] ∧ kt8.2.2.1 = [true, false] := ⟨by kernel_rfl, by kernel_rfl, by kernel_rfl⟩
theorem kt8_d : kt8.2.2.2.1.dur.length = 8 ∧ kt8.2.2.2.2.area = 0 ∧ kt8.2.2.2.2.j.place = 3 := ⟨by kernel_rfl, by kernel_rfl, by kernel_rfl⟩
theorem kt8_e : kt8.2.2.2.2.room kt8.2.2.2.1 = 1 ∧ kt8.2.2.2.2.last kt8.2.2.2.1 = 7 := ⟨by kernel_rfl, by kernel_rfl⟩
theorem ks8_use : UseW ko8.2.1 ks8 := by
  obtain ⟨h1, h2, h3, h4, h5, h6, h7, h8, h9⟩ := ko8_d
  refine ⟨⟨by omega, by omega, ?_⟩, by omega, ⟨by rw [h7]; simp, by rw [h7]; simp, by omega, fun h => by omega⟩⟩
  unfold StM.lim; rw [h2, h5, h6]; omega
theorem ka8_use : UseW ka8.2.1 ka8.2.2 := by
  obtain ⟨h1, h2, h3, h4, h5, h6, h7, h8, h9⟩ := ka8_d
  refine ⟨⟨by omega, by omega, ?_⟩, by omega, ⟨by rw [h7]; simp, by rw [h7, h8]; simp, by omega, fun _ h => by omega⟩⟩
  unfold StM.lim; rw [h2, h5, h6]; omega
open Go.RowKit
theorem pc_rd {X : World} {N : Nat} {v : Value} {p : Pc} (h : X.ownsRow N 82 3 v 1 (pcC [p])) : ∃ b c, v = .slice (some ⟨b, 0, none⟩) 1 c ∧ X.cell? ⟨b, 0, none⟩ = some (.int .i64 (p.id : Int)) ∧ X.cell? ⟨b, 1, none⟩ = some (.int .i64 (p.f : Int)) ∧ X.cell? ⟨b, 2, none⟩ = some (.int .i64 (p.t : Int)) := by
  obtain ⟨A, c, rfl, h2⟩ := PcR.of_own (ps := [p]) h
  obtain ⟨b, rfl, _, h3, h4, h5⟩ := h2 0 p rfl
  exact ⟨b, c, rfl, h3, h4, h5⟩
/-- A disk and a store that lie above a bound are changed above it. -/
theorem SysM.out {w w' : World} {D S bs bm cp N : Nat} {p : Option Addr} {F B X : List Nat} {d' : Dk} {s' : StM} (hfp : ∀ k ∈ fpL D bs bm p ++ F, N ≤ k) (hN : N ≤ w.heap.size) (h : SysM w w' D S bs bm cp p F B X d' s') :
    ∃ p' F' B', DkAt w' D d' bs bm cp p' ∧ StIn w' S D s' F' B' ∧ (∀ k ∈ fpL D bs bm p' ++ F', N ≤ k) ∧ Below N w w' := by
  obtain ⟨⟨p1, h1, h2⟩, ⟨F1, B1, h3, h4, h5⟩, h6⟩ := h
  refine ⟨p1, F1, B1, h1, h3, fun k hk => ?_, h6.below hN hfp⟩
  rcases List.mem_append.1 hk with hk | hk
  · by_cases hlt : k < w.heap.size
    · exact hfp k (List.mem_append_left _ (h2.fp D bs bm k hk hlt))
    · omega
  · rcases h4 k hk with h | h
    · exact hfp k (List.mem_append_right _ h)
    · omega
theorem OpnP.out {w w' : World} {D bs bm cp N : Nat} {p : Option Addr} {q : Int × Dk × Option StM} {e : Ending} {s : StM} (hq : q.2.2 = some s) (hfp : ∀ k ∈ fpL D bs bm p, N ≤ k) (hN : N ≤ w.heap.size) (h : OpnP D bs bm cp p q w e w') :
    ∃ S p' F' B', e = .returned (.tuple #[.pointer (some ⟨S, 0, none⟩), .int .i64 q.1]) ∧ DkAt w' D q.2.1 bs bm cp p' ∧ StIn w' S D s F' B' ∧ (∀ k ∈ fpL D bs bm p' ++ F', N ≤ k) ∧ Below N w w' := by
  obtain ⟨⟨p1, h1, h2⟩, hk, hc⟩ := h
  rcases hc with ⟨hn, _⟩ | ⟨s', S, F, B, hs, he, hst, hF, hB⟩
  · rw [hq] at hn; cases hn
  · rw [hq] at hs
    injection hs with hs
    subst hs
    refine ⟨S, p1, F, B, he, h1, hst, fun k hk => ?_, hk.below hN hfp⟩
    rcases List.mem_append.1 hk with hk | hk
    · by_cases hlt : k < w.heap.size
      · exact hfp k (h2.fp D bs bm k hk hlt)
      · omega
    · exact Nat.le_trans hN (hF k hk)
set_option maxRecDepth 100000 in
set_option maxHeartbeats 2000000 in
theorem known8_any (w : World) : Calls Tryz.prog 9 #[] w fun e w' => e = .returned (.bool true) ∧ Below w.heap.size w w' := by
  have qe : ∀ w, (binOp BinOp.eql 82 (.agg #[.int .i64 7, .int .i64 0, .int .i64 2]) (.agg #[.int .i64 7, .int .i64 0, .int .i64 2])).run Tryz.prog w = .ok (.bool true) w := fun w => by kernel_rfl
  have HN := Lib.hid (newDisk_any 8 w)
  go_enter Tryz.func9, Tryz.ntmps9
  go_wp2_with fail
  refine HN.out.mono ?_
  rintro e w1 ⟨_, h2, hb1⟩
  obtain ⟨D, bs, bm, rfl, hd, hD, hbs, hbm⟩ := h2 (by omega)
  have HB1 := Lib.hid hb1; have HD1 : Hid (DkAt w1 D (Dk.new 8) bs bm 8 none) := Lib.hid hd
  have HLO := Lib.hid (And.intro hD (And.intro hbs hbm))
  have HOP := Lib.hid (open_any HD1.out ⟨by decide, by decide⟩ 0)
  clear h2 hb1 hd hD hbs hbm HN
  go_wp2_with fail
  refine HOP.out.mono ?_
  intro e w2 hop
  have hop : OpnP D bs bm 8 none ko8 w1 e w2 := hop
  obtain ⟨S, p2, F, B, rfl, hd2, hst, hfp, hbl⟩ := hop.out (N := w.heap.size) ko8_2 (fun k hk => by
    unfold fpL at hk
    simp only [List.mem_cons, List.not_mem_nil, or_false] at hk
    have := HLO.out
    rcases hk with rfl | rfl | rfl <;> omega) HB1.out.size
  rw [ko8_1]
  have HD2 := Lib.hid hd2; have HS2 := Lib.hid hst; have HFP := Lib.hid hfp
  have HB2 : Hid (Below w.heap.size w w2) := Lib.hid (HB1.out.trans hbl)
  clear hd2 hst hfp hbl HOP hop HLO
  go_upto_region 3 with fail
  obtain ⟨w3, hw3⟩ : ∃ z, z = w2.alloc (.cells #[.bool true, .bool false, .bool true, .bool false] 4) := ⟨_, rfl⟩
  have hb3 : Below w2.heap.size w2 w3 := by rw [hw3]; exact balloc _ _
  have hrd : Rd w3 w3.heap.size 1 (some ⟨w2.heap.size, 0, none⟩) 4 ([true, false, true, false].map Value.bool) := by
    rw [hw3, World.size_alloc]; exact Rd.new w2 #[.bool true, .bool false, .bool true, .bool false] 4 1 4 rfl
  have HB3 := Lib.hid (bnextK HB2.out hb3)
  have HD3 := Lib.hid (HD2.out.far hb3); have HS3 := Lib.hid (HS2.out.far hb3)
  have HAD := Lib.hid (add8_any HD3.out HS3.out (fun _ => ⟨ks8_use.u, ks8_use.e⟩) 7 (some ⟨w2.heap.size, 0, none⟩) 4 4 [true, false, true, false] (by omega) (by omega) hrd)
  have HW3 := Lib.hid hw3
  clear hb3 hrd hw3
  go_wp2_with fail
  rw [← HW3.out]
  refine HAD.out.mono ?_
  rintro e w4 ⟨rfl, hsy⟩
  have hsy : SysM w3 w4 D S bs bm 8 p2 F B [] ka8.2.1 ka8.2.2 := hsy
  rw [show (ks8.addR ko8.2.1 7 [true, false, true, false]).1 = 0 from ka8_1]
  obtain ⟨p4, F4, B4, hd4, hs4, hfp4, hbl4⟩ := hsy.out HFP.out HB3.out.size
  have HD4 := Lib.hid hd4; have HS4 := Lib.hid hs4; have HFP4 := Lib.hid hfp4
  have HB4 : Hid (Below w.heap.size w w4) := Lib.hid (HB3.out.trans hbl4)
  have HTK := Lib.hid (take_any HD4.out HS4.out (fun _ => ka8_use) 2 (by omega))
  clear hd4 hs4 hfp4 hbl4 hsy HAD
  go_wp2_with fail
  refine HTK.out.mono ?_
  intro e w5 htk
  have htk : TakP D S bs bm 8 p4 F4 B4 kt8 w4 e w5 := htk
  obtain ⟨v, bv, rfl, ho, hob, hsy⟩ := htk
  obtain ⟨e1, e2, e3⟩ := kt8_1
  rw [e1]
  rw [e2] at ho
  rw [e3] at hob
  obtain ⟨b, c, rfl, p0, p1, p2'⟩ := pc_rd ho
  obtain ⟨A8, c8, rfl, _⟩ := own_form hob
  obtain ⟨g, hg, b0, b1⟩ : ∃ g, A8 = some ⟨g, 0, none⟩ ∧ w5.cell? ⟨g, 0, none⟩ = some (.bool true) ∧ w5.cell? ⟨g, 1, none⟩ = some (.bool false) := by
    obtain ⟨_, h⟩ := Rd.own hob
    obtain ⟨g, off, hA, _, hr⟩ := h (by decide)
    rcases hob.2 with ⟨h0, _⟩ | ⟨g', cap, cur, h0, _⟩
    · injection h0 with h0; subst h0; cases hA
    · injection h0 with h0
      rw [h0] at hA
      injection hA with hA
      injection hA with hg ho
      subst hg
      subst ho
      exact ⟨_, h0, hr 0 _ rfl, hr 1 _ rfl⟩
  subst hg
  obtain ⟨p5, F5, B5, hd5, hs5, hfp5, hbl5⟩ := hsy.out HFP4.out HB4.out.size
  have HRM := Lib.hid (fun W (h : Below w5.heap.size w5 W) => room_any (hd5.far h) (hs5.far h) (fun _ => by
    obtain ⟨h1, h2, h3⟩ := kt8_d
    unfold StM.lim; rw [h1, h2, h3]; omega))
  have HLT := Lib.hid (fun W (h : Below w5.heap.size w5 W) => last_any (hd5.far h) (hs5.far h))
  obtain ⟨r1, r2⟩ := kt8_e
  rw [r1] at HRM
  rw [r2] at HLT
  have HB5 : Hid (Below w.heap.size w w5) := Lib.hid (HB4.out.trans hbl5)
  clear ho hob hd5 hs5 hfp5 hbl5 hsy HTK
  go_wp2_with fail
  refine (HRM.out _ (Below.refl _ _)).mono ?_
  rintro e w6 ⟨rfl, nq, rfl⟩
  go_wp2_with fail
  refine (HLT.out _ (Qw.below ⟨nq, rfl⟩ _)).mono ?_
  rintro e w7 ⟨rfl, nr, rfl⟩
  go_wp2_with fail
  go_ret
  exact ⟨rfl, HB5.out.trans (Qw.below ⟨nq + nr, rfl⟩ _)⟩
set_option linter.unusedSimpArgs false
section
variable {w w1 w2 w3 w' : World} {D D' : Nat} {d d' : Dk} {bs bm cp bs' bm' cp' : Nat} {p p' : Option Addr} {R bn bk bf cn ck cf B : Nat}
theorem touch_any (h : Two w B D d bs bm cp p R bn bk bf cn ck cf) (o : Dop) (A : Option Addr) (na ca : Nat) (K : Option Addr) (nk kc : Nat) (ho : OpV w B o A na ca K nk kc) :
    Calls Tryz.prog 18 #[.pointer (some ⟨D, 0, none⟩), .pointer (some ⟨R, 0, none⟩), .agg (o.cells A na ca K nk kc)] w (TouP B D bs bm cp R bn bk bf cn ck cf d w) := by
  have h8 : o.dn % 8 = 0 ∨ o.dn % 8 = 1 ∨ o.dn % 8 = 2 ∨ o.dn % 8 = 3 ∨ o.dn % 8 = 4 ∨ o.dn % 8 = 5 ∨ o.dn % 8 = 6 ∨ o.dn % 8 = 7 := by omega
  rcases h8 with h8 | h8 | h8 | h8 | h8 | h8 | h8 | h8
  · exact touch0 h o A na ca K nk kc ho h8
  · exact touch1 h o A na ca K nk kc ho h8
  · exact touch2 h o A na ca K nk kc ho h8
  · exact touch3 h o A na ca K nk kc ho h8
  · exact touch4 h o A na ca K nk kc ho h8
  · exact touch5 h o A na ca K nk kc ho h8
  · exact touch6 h o A na ca K nk kc ho h8
  · exact touch7 h o A na ca K nk kc ho h8
theorem DkAt.keepS {L : List Nat} (h : DkAt w D d bs bm cp p) (hk : KeepL L w w') (h1 : ∀ k ∈ fpL D bs bm p, k ∉ L) (h2 : ∀ g C, Bk w g C 3 → g ∉ L) : DkAt w' D d bs bm cp p := by
  obtain ⟨sd, hs⟩ := h.dur
  obtain ⟨l, hl⟩ := h.cch
  refine ⟨h.ok, h.blk.keepL hk (h1 D (by simp [fpL])), ⟨sd, hs.keepL hk (h1 bs (by simp [fpL]))⟩, ⟨l, hl.keep (hk.block _ hl.lt (h1 bm (by simp [fpL])))⟩, h.plan.keepL hk (fun a ha => h1 _ (by unfold fpL; rw [ha]; simp)) h2⟩
theorem copy_age (h : Two w B D d bs bm cp p R bn bk bf cn ck cf) (hb : Below w.heap.size w w1) (hc : DkAt w1 D' d.copy bs' bm' cp' p') (hf : ∀ k ∈ fpL D' bs' bm' p', w.heap.size ≤ k) (hb2 : Below w1.heap.size w1 w2) (hk : KeepL (fpL D bs bm p) w2 w3) :
    Two w3 B D' d.copy bs' bm' cp' p' R bn bk bf cn ck cf := by
  have hd2 := (h.dk.far hb).far hb2
  refine ⟨(hc.far hb2).keepS hk (fun k hk1 hk2 => ?_) (fun g C hg hm => ?_), RdAt.age (((h.rd.far hb).far hb2).keepD hd2 hk) 0, fun k hk => Nat.le_trans h.le (hf k hk), h.fr, ⟨Int.le_refl _, by show (0 : Int) ≤ _; omega⟩⟩
  · have := hf k hk1
    have := h.dk.fpLt k hk2
    omega
  · obtain ⟨sd, hs⟩ := hd2.dur
    obtain ⟨l, hl⟩ := hd2.cch
    unfold fpL at hm
    simp only [List.mem_cons] at hm
    rcases hm with hm | hm | hm | hm
    · exact hg.ne hd2.blk (by decide) hm
    · exact hg.ne hs (by decide) hm
    · exact hg.nemap hl hm
    · cases hp : p with
      | none => rw [hp] at hm; simp at hm
      | some a =>
        rw [hp] at hm
        simp only [List.mem_singleton] at hm
        obtain ⟨cs, hc⟩ := hd2.plan.bt a hp
        exact hg.ne hc (by decide) hm
def DopA.op (x : DopA) : Dop := ⟨x.dn, x.sec, x.num, x.b.l, x.k.l⟩
theorem DopA.opv {x : DopA} {W : World} (h : x.raw W) (hb : Below W.heap.size W w) (h1 : x.b.n ≤ 300) (h2 : x.k.n ≤ 300) : OpV w W.heap.size x.op x.b.A x.b.n x.b.c x.k.A x.k.n x.k.c := by
  obtain ⟨q1, q2, q3, ⟨_, b2, b3, b4, b5, b6⟩, ⟨_, k2, k3, k4, k5, k6⟩⟩ := h
  exact ⟨q1, q2, q3, b6.below hb, k6.below hb, b5, ⟨h1, b2⟩, ⟨h2, k2⟩⟩
set_option maxRecDepth 100000 in
set_option maxHeartbeats 4000000 in
theorem StoreDisks_walk (n : Int) (v : Value) (i : DopsArg) (W : World) (hn : -9223372036854775808 ≤ n ∧ n ≤ 9223372036854775807) (hx : IsDops W v i) :
    Calls Tryz.prog 3 #[.int .i64 n, v] W fun e w' => e = .returned (.bool true) ∧ Below W.heap.size W w' := by
  have qn : ∀ w, (binOp BinOp.eql 24 (.pointer none) (.pointer none)).run Tryz.prog w = .ok (.bool true) w := fun w => by kernel_rfl
  obtain ⟨A, N, c, l⟩ := i
  obtain ⟨hv, hNc, hc, hl, hrd, hraw⟩ := hx
  dsimp only at hv hNc hc hl hrd hraw
  subst hv
  have HR := Lib.hid hrd; have HW := Lib.hid hraw; have HLN := Lib.hid hl
  clear hrd hraw hl hc hNc
  by_cases h1 : 20 < n ∧ n ≤ 256
  · have e1 : decide (20 < n) = true := decide_eq_true h1.1
    have e2 : decide (n ≤ 256) = true := decide_eq_true h1.2
    clear qn
    go_enter Tryz.func3, Tryz.ntmps3
    go_wp2_with fail
    refine (known8_any W).mono ?_
    rintro e w1 ⟨rfl, hb⟩
    have HB := Lib.hid hb
    clear hb
    go_wp2_with fail
    go_ret
    exact ⟨rfl, HB.out⟩
  have e0 : (decide (20 < n) && decide (n ≤ 256)) = false := by
    rw [Bool.and_eq_false_iff, decide_eq_false_iff_not, decide_eq_false_iff_not]
    omega
  have hcond : (decide (20 < n) = true ∧ decide (n ≤ 256) = false) ∨ decide (20 < n) = false := by
    rw [decide_eq_true_iff, decide_eq_false_iff_not, decide_eq_false_iff_not]; omega
  by_cases h40 : 40 < N
  · have e3 : decide ((40 : Int) < (N : Int)) = true := decide_eq_true (by omega)
    have h40i : (40 : Int) < (N : Int) := by omega
    clear qn e0
    rcases hcond with ⟨e1, e2⟩ | e1
    all_goals
      go_enter Tryz.func3, Tryz.ntmps3
      go_wp2_with fail
      refine (known8_any W).mono ?_
      rintro e w1 ⟨rfl, hb⟩
      have HB := Lib.hid hb
      clear hb
      go_wp2_with fail
      go_ret
      exact ⟨rfl, HB.out⟩
  have e3 : decide ((40 : Int) < (N : Int)) = false := decide_eq_false (by omega)
  have h40i : ¬ (40 : Int) < (N : Int) := by omega
  by_cases hbad : n < 2 ∨ 256 < n
  · have HN1 := Lib.hid (newDisk_any n W)
    have HN2 := Lib.hid (rnewDisk_no n)
    have HBD := Lib.hid hbad
    clear e0
    rcases hcond with ⟨e1, e2⟩ | e1
    all_goals
      go_enter Tryz.func3, Tryz.ntmps3
      go_wp2_with fail
      refine HN1.out.mono ?_
      rintro e w1 ⟨he, _, hb1⟩
      obtain rfl := he HBD.out
      have HB1 := Lib.hid hb1
      clear hb1 he
      go_wp2_with fail
      refine (HN2.out w1 HBD.out).mono ?_
      rintro e w2 ⟨rfl, rfl⟩
      go_wp2_with fail
      refine (known8_any w1).mono ?_
      rintro e w2 ⟨rfl, hb2⟩
      have HB2 := Lib.hid hb2
      clear hb2
      go_wp2_with fail
      go_ret
      exact ⟨rfl, bnextK HB1.out HB2.out⟩
  have e1 : decide (20 < n) = false := decide_eq_false (by omega)
  clear hcond e0
  obtain ⟨m, rfl⟩ : ∃ m : Nat, n = (m : Int) := ⟨n.toNat, by omega⟩
  have hm : 2 ≤ m ∧ m ≤ 20 := by omega
  have HM := Lib.hid hm
  have HN1 := Lib.hid (newDisk_any (m : Int) W)
  have HN2 : Hid (∀ w, Calls Tryz.prog 11 #[.int .i64 (m : Int)] w (RdNew m w)) := Lib.hid fun w => rnewDisk_ok w hm.1 (by omega)
  have HBD := Lib.hid hbad
  clear hbad hm
  go_enter Tryz.func3, Tryz.ntmps3
  go_wp2_with fail
  refine HN1.out.mono ?_
  rintro e w1 ⟨_, he, hb1⟩
  obtain ⟨D0, bs0, bm0, rfl, hd0, g1, g2, g3⟩ := he HBD.out
  rw [Int.toNat_natCast] at hd0
  have HB1 := Lib.hid hb1; have HD0 := Lib.hid hd0; have HG := Lib.hid (And.intro g1 (And.intro g2 g3))
  clear hb1 hd0 g1 g2 g3 he
  go_wp2_with fail
  refine (HN2.out w1).mono ?_
  rintro e w2 ⟨⟨R, bn, bk, bf, cn, ck, cf, rfl, hr0, hrf⟩, hb2⟩
  have HT0 : Hid (Two w2 W.heap.size D0 (Dk.new m) bs0 bm0 m none R bn bk bf cn ck cf) := Lib.hid ⟨HD0.out.far hb2, hr0, fun k hk => by
    have := HG.out
    simp only [fpL, List.mem_cons, List.not_mem_nil, or_false] at hk
    rcases hk with rfl | rfl | rfl <;> omega, fun k hk => Nat.le_trans HB1.out.size (hrf k hk), ⟨Int.le_refl _, by show (0 : Int) ≤ _; omega⟩⟩
  have HB2 := Lib.hid (bnextK HB1.out hb2)
  clear hb2 hr0 hrf
  go_wp2_with fail
  go_loopw [5, 9] (fun v5 v9 wr => ∃ (k D : Nat) (d : Dk) (bs bm cp : Nat) (p : Option Addr), k ≤ N ∧ v9 = .int .i64 (k : Nat) ∧ v5 = .pointer (some ⟨D, 0, none⟩) ∧ Two wr W.heap.size D d bs bm cp p R bn bk bf cn ck cf ∧ d.age ≤ 4 * (k : Int) ∧ Below W.heap.size W wr) (fun _ v9 _ => N - (intOf v9).toNat)
  case atStart => exact ⟨0, D0, _, bs0, bm0, _, _, Nat.zero_le _, rfl, rfl, HT0.out, by show (0 : Int) ≤ _; omega, HB2.out⟩
  case round =>
    obtain ⟨k, D, d, bs, bm, cp, p, hk, rfl, rfl, hT, hag, hB⟩ := hrel
    obtain ⟨wa, rfl⟩ : ∃ z : World, z = wr := ⟨_, rfl⟩
    have HT := Lib.hid hT; have HAG := Lib.hid hag; have HB := Lib.hid hB
    clear hT hag
    by_cases hlt : k < N
    -- <ROUND
    · have hii : 0 ≤ (k : Int) ∧ (k : Int) < (N : Int) := by omega
      obtain ⟨b, off, rfl, hbl, hcell⟩ := HR.out.2 (by omega)
      obtain ⟨x, hxk⟩ : ∃ x, l[k]? = some x := ⟨_, List.getElem?_eq_getElem (by rw [HLN.out]; exact hlt)⟩
      have HRW := Lib.hid (HW.out x (List.mem_of_getElem? hxk))
      have HC5 : Hid (∀ w', Below W.heap.size W w' → (w'.cell? ⟨b, off + k * 5, none⟩ = some (.int .i64 x.dn) ∧ w'.cell? ⟨b, off + k * 5 + 1, none⟩ = some (.int .i64 x.sec) ∧ w'.cell? ⟨b, off + k * 5 + 2, none⟩ = some (.int .i64 x.num) ∧ w'.cell? ⟨b, off + k * 5 + 3, none⟩ = some (.slice x.b.A x.b.n x.b.c) ∧ w'.cell? ⟨b, off + k * 5 + 4, none⟩ = some (.slice x.k.A x.k.n x.k.c))) := Lib.hid fun w' hW => by
        have hg : ∀ o u, o < 5 → (dopC x)[o]? = some u → w'.cell? ⟨b, off + (k * 5 + o), none⟩ = some u := fun o u ho hu => by
          rw [hW.cell (p := ⟨b, _, none⟩) hbl]
          exact hcell (k * 5 + o) u (by rw [dopsC_get l k x hxk o ho]; exact hu)
        exact ⟨hg 0 _ (by omega) rfl, hg 1 _ (by omega) rfl, hg 2 _ (by omega) rfl, hg 3 _ (by omega) rfl, hg 4 _ (by omega) rfl⟩
      obtain ⟨c0, c1, c2, c3, c4⟩ := HC5.out wa hB
      clear hcell hxk hB hbl
      by_cases hb3 : 300 < x.b.n
      · have i3 : (300 : Int) < (x.b.n : Int) := by omega
        go_wp2_with fail
        refine (known8_any wa).mono ?_
        rintro e w3 ⟨rfl, hb3⟩
        have HB3 := Lib.hid hb3
        clear hb3
        go_wp2_with fail
        go_ret
        exact ⟨rfl, bnextK HB.out HB3.out⟩
      have i3 : ¬ (300 : Int) < (x.b.n : Int) := by omega
      by_cases hk3 : 300 < x.k.n
      · have j3 : (300 : Int) < (x.k.n : Int) := by omega
        go_wp2_with fail
        refine (known8_any wa).mono ?_
        rintro e w3 ⟨rfl, hb3⟩
        have HB3 := Lib.hid hb3
        clear hb3
        go_wp2_with fail
        go_ret
        exact ⟨rfl, bnextK HB.out HB3.out⟩
      have j3 : ¬ (300 : Int) < (x.k.n : Int) := by omega
      go_wp2_with fail
      refine (mod8_any x.dn HRW.out.1 wa).mono ?_
      rintro e w' ⟨⟨z, hz, rfl⟩, rfl⟩
      clear hz
      by_cases hz6 : z = 6
      · subst hz6
        clear c0 c1 c2 c3 c4
        go_wp2_with fail
        refine (copy8_any HT.out.dk).mono ?_
        rintro e w3 ⟨D', bs', bm', cp', p', rfl, hcd, hcf, hcb⟩
        have HCD := Lib.hid hcd; have HCF := Lib.hid hcf; have HCB := Lib.hid hcb
        clear hcd hcf hcb
        go_wp2_with fail
        refine (all8_any 77 w3).mono ?_
        rintro e w4 ⟨⟨g4, rfl, _, hr4⟩, hb4⟩
        have HR4 := Lib.hid hr4; have HB4 := Lib.hid hb4
        clear hr4 hb4
        go_wp2_with fail
        refine (write_free ((HT.out.far HCB.out).far HB4.out).dk ⟨HT.out.age.1, by have := HT.out.age.2; omega⟩ 0 _ 64 64 (List.replicate 64 ((77 : Int) % 256).toNat) (fun x hx => by rw [List.eq_of_mem_replicate hx]; decide) (Nat.le_refl _) HR4.out).mono ?_
        rintro e w5 ⟨rfl, ⟨p5, q1, q2⟩, q3⟩
        have HM5 := Lib.hid (And.intro q1 (And.intro q2 q3))
        have hag5 := write_age d HT.out.age.1 0 (List.replicate 64 ((77 : Int) % 256).toNat)
        obtain ⟨d5, hd5⟩ : ∃ d5, d5 = (d.write 0 (List.replicate 64 ((77 : Int) % 256).toNat)).2 := ⟨_, rfl⟩
        obtain ⟨z5, hz5⟩ : ∃ z5, z5 = (d.write 0 (List.replicate 64 ((77 : Int) % 256).toNat)).1 := ⟨_, rfl⟩
        rw [← hd5] at HM5 hag5
        rw [← hz5]
        have HA5 := Lib.hid hag5
        clear q1 q2 q3 hag5 hd5 hz5
        go_wp2_with fail
        refine (plan_any HM5.out.1 0 (by decide) none 0 0 [] (by decide) (Rd.nil _ _ _ _)).mono ?_
        rintro e w6 ⟨rfl, hm6⟩
        obtain ⟨⟨p6, q4, q5⟩, q6⟩ := DkMut.trans HM5.out.2.1 HM5.out.2.2 hm6
        have HM6 := Lib.hid (And.intro q4 (And.intro q5 q6))
        have hag6 := plan_age d5 HA5.out.1 0 []
        obtain ⟨d6, hd6⟩ : ∃ d6, d6 = (d5.planR 0 []).2 := ⟨_, rfl⟩
        obtain ⟨z6, hz6⟩ : ∃ z6, z6 = (d5.planR 0 []).1 := ⟨_, rfl⟩
        rw [← hd6] at HM6 hag6
        rw [← hz6]
        have HA6 := Lib.hid hag6
        clear q4 q5 q6 hag6 hd6 hz6 hm6
        go_wp2_with fail
        refine (sync_any HM6.out.1 ⟨HA6.out.1, by have h1 := HA6.out.2; have h2 := HA5.out.2; have h3 := HT.out.age.2; omega⟩).mono ?_
        rintro e w7 ⟨rfl, hm7⟩
        have HK7 := Lib.hid (DkMut.trans HM6.out.2.1 HM6.out.2.2 hm7).2
        obtain ⟨z7, hz7⟩ : ∃ z7, z7 = d6.syncR.1 := ⟨_, rfl⟩
        rw [← hz7]
        clear hm7 hz7
        have HT7 := Lib.hid (copy_age HT.out HCB.out HCD.out HCF.out HB4.out HK7.out)
        have HBW : Hid (Below W.heap.size W w7) := Lib.hid ((bnextK (bnextK HB.out HCB.out) HB4.out).trans (((HT.out.far HCB.out).far HB4.out).below HK7.out))
        obtain ⟨c0, c1, c2, c3, c4⟩ := HC5.out w7 HBW.out
        have HTC : Hid (Calls Tryz.prog 18 #[.pointer (some ⟨D', 0, none⟩), .pointer (some ⟨R, 0, none⟩), .agg #[.int .i64 x.dn, .int .i64 x.sec, .int .i64 x.num, .slice x.b.A x.b.n x.b.c, .slice x.k.A x.k.n x.k.c]] w7 (TouP W.heap.size D' bs' bm' cp' R bn bk bf cn ck cf d.copy w7)) := Lib.hid (touch_any HT7.out x.op x.b.A x.b.n x.b.c x.k.A x.k.n x.k.c (DopA.opv HRW.out HBW.out (by omega) (by omega)))
        go_wp2_with fail
        refine HTC.out.mono ?_
        rintro e w8 ⟨rfl, d8, p8, q1, q2, q3, q4, q5⟩
        have Q1 := Lib.hid q1; have Q2 := Lib.hid q2; have Q3 := Lib.hid (HBW.out.trans q3); have Q4 := Lib.hid q4; have Q5 := Lib.hid q5
        clear q1 q2 q3 q4 q5 c0 c1 c2 c3 c4
        go_wp2_with fail
        refine (sameDisk_any Q1.out Q2.out).mono ?_
        rintro e w9 ⟨rfl, hb9⟩
        have HB9 := Lib.hid hb9
        clear hb9
        go_wp2_with fail
        go_roundw
        case rel => exact ⟨k + 1, D', d8, bs', bm', cp', p8, by omega, by go_num, rfl, ⟨Q1.out.far HB9.out, Q2.out.far HB9.out, Q5.out, HT7.out.fr, ⟨Q4.out.1, by have h9 := Q4.out.2; have h8 : d.copy.age = 0 := rfl; omega⟩⟩, by have h9 := Q4.out.2; have h8 : d.copy.age = 0 := rfl; omega, Q3.out.trans (HB9.out.mono (Q3.out.size))⟩
        case measure => simp [intOf]; omega
      · have hzb : (z == 6) = false := by simpa using hz6
        obtain ⟨c0, c1, c2, c3, c4⟩ := HC5.out wa HB.out
        have HTC : Hid (Calls Tryz.prog 18 #[.pointer (some ⟨D, 0, none⟩), .pointer (some ⟨R, 0, none⟩), .agg #[.int .i64 x.dn, .int .i64 x.sec, .int .i64 x.num, .slice x.b.A x.b.n x.b.c, .slice x.k.A x.k.n x.k.c]] wa (TouP W.heap.size D bs bm cp R bn bk bf cn ck cf d wa)) := Lib.hid (touch_any HT.out x.op x.b.A x.b.n x.b.c x.k.A x.k.n x.k.c (DopA.opv HRW.out HB.out (by omega) (by omega)))
        go_wp2_with fail
        refine HTC.out.mono ?_
        rintro e w8 ⟨rfl, d8, p8, q1, q2, q3, q4, q5⟩
        have Q1 := Lib.hid q1; have Q2 := Lib.hid q2; have Q3 := Lib.hid (HB.out.trans q3); have Q4 := Lib.hid q4; have Q5 := Lib.hid q5
        clear q1 q2 q3 q4 q5 c0 c1 c2 c3 c4
        go_wp2_with fail
        refine (sameDisk_any Q1.out Q2.out).mono ?_
        rintro e w9 ⟨rfl, hb9⟩
        have HB9 := Lib.hid hb9
        clear hb9
        go_wp2_with fail
        go_roundw
        case rel => exact ⟨k + 1, D, d8, bs, bm, cp, p8, by omega, by go_num, rfl, ⟨Q1.out.far HB9.out, Q2.out.far HB9.out, Q5.out, HT.out.fr, ⟨Q4.out.1, by have h9 := Q4.out.2; have h8 := HAG.out; omega⟩⟩, by have h9 := Q4.out.2; have h8 := HAG.out; omega, Q3.out.trans (HB9.out.mono (Q3.out.size))⟩
        case measure => simp [intOf]; omega
    -- ROUND>
    · have hii : ¬ (k : Int) < (N : Int) := by omega
      clear hB
      go_wp2_with fail
      refine (known8_any wa).mono ?_
      rintro e w3 ⟨rfl, hb3⟩
      have HB3 := Lib.hid hb3
      clear hb3
      go_wp2_with fail
      go_ret
      exact ⟨rfl, bnextK HB.out HB3.out⟩
end
end Go.Proofs.YtdgmjedkhjeadaaGreat
