/- Lists of records in memory; the records of a key. Conditions: as each statement says. -/
import Derived.Test.YtdgmjedkhjeadaaGreatCom8
import Derived.Test.YtdgmjedkhjeadaaGreatBackMath
namespace Go.Proofs.YtdgmjedkhjeadaaGreat
open Go.RowKit
set_option linter.unusedVariables false
/-- A record with the slice of its bytes. -/
abbrev RcX := Rc × Option Addr × Nat
def rcsC (xs : List RcX) : List Value := xs.flatMap fun x => (recC x.1 x.2.1 x.2.2).toList
theorem rcsC_get : ∀ (xs : List RcX) (i j : Nat) (x : RcX), xs[i]? = some x → j < 6 → (rcsC xs)[i * 6 + j]? = (recC x.1 x.2.1 x.2.2).toList[j]?
  | [], i, j, x, h, _ => by simp at h
  | y :: xs, 0, j, x, h, hj => by
    simp only [List.getElem?_cons_zero, Option.some.injEq] at h
    subst h
    unfold rcsC
    rw [List.flatMap_cons, Nat.zero_mul, Nat.zero_add, List.getElem?_append_left (by rw [show (recC y.1 y.2.1 y.2.2).toList.length = 6 from rfl]; exact hj)]
  | y :: xs, i + 1, j, x, h, hj => by
    rw [List.getElem?_cons_succ] at h
    have := rcsC_get xs i j x h hj
    unfold rcsC at this ⊢
    rw [List.flatMap_cons, List.getElem?_append_right (by rw [show (recC y.1 y.2.1 y.2.2).toList.length = 6 from rfl]; omega), show (recC y.1 y.2.1 y.2.2).toList.length = 6 from rfl, show (i + 1) * 6 + j - 6 = i * 6 + j by omega]
    exact this
theorem rcsC_append (xs ys : List RcX) : rcsC (xs ++ ys) = rcsC xs ++ rcsC ys := by unfold rcsC; rw [List.flatMap_append]
theorem RcsAt.of_own {w : World} {v : Value} {xs : List RcX} {X : List Nat} (h : w.ownsRow 0 115 6 v xs.length (rcsC xs)) (hb : ∀ x ∈ xs, BytR w x.2.1 x.2.2 x.1.bits ∧ ∀ k ∈ obT x.2.1, k ∈ X) : RcsAt w v (xs.map (·.1)) X := by
  rcases h.2 with ⟨rfl, h0⟩ | ⟨g, cap, cur, rfl, hg, hh, hcap, hm, hs, htk⟩
  · obtain rfl : xs = [] := List.eq_nil_of_length_eq_zero h0
    exact ⟨none, 0, rfl, fun i r hr => by simp at hr⟩
  · refine ⟨some ⟨g, 0, none⟩, cap, by rw [List.length_map], fun i r hr => ?_⟩
    rw [List.getElem?_map] at hr
    cases hx : xs[i]? with
    | none => rw [hx] at hr; cases hr
    | some x =>
      rw [hx] at hr
      injection hr with hr
      subst hr
      obtain ⟨h1, h2⟩ := hb x (List.mem_of_getElem? hx)
      have hi := (List.getElem?_eq_some_iff.1 hx).1
      refine ⟨g, x.2.1, x.2.2, rfl, ⟨cur, hh⟩, fun j u hu => ?_, h1, h2⟩
      have hj : j < 6 := by have := (List.getElem?_eq_some_iff.1 hu).1; simpa [recC] using this
      rw [(show Bk w g cur _ from hh).cell, ← Array.getElem?_toList]
      have h3 : (cur.toList.take (xs.length * 6))[i * 6 + j]? = some u := by rw [htk, rcsC_get xs i j x hx hj]; exact hu
      rw [List.getElem?_take] at h3
      split at h3
      · exact h3
      · cases h3
theorem unpB_pack (l : List Bool) : unpB (packN l) l.length = some l := by
  have hl : (packN l).length = (l.length + 7) / 8 := by simp [packN, packL]
  unfold unpB
  rw [if_pos ⟨by rw [hl], by rw [hl]; exact okU_pack l⟩, unL_pack]
/-- The records of a key. -/
def recsK (id : Nat) (bits : List Bool) : List Rc :=
  ⟨0, 1, id, bits.length, 0, packN (bits.take 320)⟩ :: (if 320 < bits.length then [⟨0, 2, 0, 0, 0, packN (bits.drop 320)⟩] else [])
theorem packN_len (l : List Bool) : (packN l).length = (l.length + 7) / 8 := by simp [packN, packL]
theorem recsK_good (id : Nat) (bits : List Bool) (e : Nat) (h1 : 1 ≤ e) (h2 : e < 4294967296) (hi : 1 ≤ id) (hi2 : id ≤ 2147483647) (hb : 1 ≤ bits.length) (hb2 : bits.length ≤ 512) : ∀ r ∈ recsK id bits, RcG (r.at' e) := by
  intro r hr
  unfold recsK at hr
  rcases List.mem_cons.1 hr with rfl | hr
  · refine ⟨h1, h2, hi2, fun x hx => packN_lt _ x hx, .inl ⟨rfl, hi, hb, hb2, rfl, ?_, ?_⟩⟩
    · show (packN (bits.take 320)).length ≤ 40
      rw [packN_len, List.length_take]; omega
    · show (unpB (packN (bits.take 320)) (min bits.length 320)).isSome = true
      have := unpB_pack (bits.take 320)
      rw [List.length_take, Nat.min_comm] at this
      rw [this]; rfl
  · split at hr
    · rename_i h3
      rw [List.mem_singleton] at hr
      subst hr
      refine ⟨h1, h2, by show 0 ≤ _; omega, fun x hx => packN_lt _ x hx, .inr (.inl ⟨rfl, rfl, rfl, rfl, ?_, ?_⟩)⟩
      · show 1 ≤ (packN (bits.drop 320)).length
        rw [packN_len, List.length_drop]; omega
      · show (packN (bits.drop 320)).length ≤ 24
        rw [packN_len, List.length_drop]; omega
    · cases hr
theorem elR8 : ElemB Tryz.prog 125 115 6 64 := ElemB.of Tryz.underlying125 (by kernel_rfl : (Tryz.prog.info? 115).map (fun i => (i.zero, i.size, i.bytes)) = some (some (recV rc0 none 0), 6, 64)) rfl (by decide)
def RecP (rs : List Rc) (w : World) (e : Ending) (w' : World) : Prop := ∃ v X, e = .returned v ∧ RcsAt w' v rs X ∧ (∀ k ∈ X, w.heap.size ≤ k) ∧ Below w.heap.size w w'
theorem own_one {w : World} {g : Nat} {x : RcX} (h : Bk w g (recC x.1 x.2.1 x.2.2) 115) : w.ownsRow 0 115 6 (.slice (some ⟨g, 0, none⟩) 1 1) 1 (rcsC [x]) :=
  ⟨rfl, .inr ⟨g, 1, recC x.1 x.2.1 x.2.2, rfl, Nat.zero_le _, h, Nat.le_refl _, by decide, rfl, by simp [rcsC, recC]⟩⟩
theorem pack_own {w' : World} {A : Option Addr} {c B k : Nat} {l : List Bool} (h : w'.ownsRow B 5 1 (.slice A k c) k (Lib.byteCells (packL l))) (hl : (packN l).length = k) : BytR w' A c (packN l) := by
  unfold BytR
  rw [hl]
  have := ownsRow_mono h (Nat.zero_le B)
  rw [← packN_cells] at this
  exact this
theorem obT_ge {w : World} {A : Option Addr} {c k B : Nat} {xs : List Value} (h : w.ownsRow B 5 1 (.slice A k c) k xs) : ∀ b ∈ obT A, B ≤ b := fun b hb => by
  have h1 : b ∈ ob (.slice A k c) := by rw [ob_tb]; exact hb
  rw [mem_ob] at h1
  exact (h.lt b h1).1
set_option maxRecDepth 100000 in
set_option maxHeartbeats 1000000 in
theorem records_any (id n : Nat) (A : Option Addr) (c : Nat) (bits : List Bool) (w : World) (hn : bits.length = n) (hn1 : 1 ≤ n) (hn2 : n ≤ 512) (hc : n ≤ c) (hid : id ≤ 2147483647) (hr : Rd w w.heap.size 1 A n (bits.map Value.bool)) :
    Calls Tryz.prog 65 #[.int .i64 (id : Int), .slice A n c] w (RecP (recsK id bits) w) := by
  obtain ⟨b, off, rfl, hb, hcell⟩ := hr.2 (by omega)
  have HR := Lib.hid hr
  have HNL := Lib.hid hn
  by_cases hlt : 320 < n
  · have hki : (320 : Int) < (n : Int) := by omega
    have HRK : Hid (recsK id bits = [⟨0, 1, id, bits.length, 0, packN (bits.take 320)⟩, ⟨0, 2, 0, 0, 0, packN (bits.drop 320)⟩]) := Lib.hid (by unfold recsK; rw [if_pos (by omega)])
    have h1 : Rd w w.heap.size 1 (some ⟨b, off, none⟩) 320 ((bits.take 320).map Value.bool) := ⟨by simp; omega, fun _ => ⟨b, off, rfl, hb, fun j u hu => hcell j u (by
      rw [List.getElem?_map, List.getElem?_take] at hu
      rw [List.getElem?_map]
      split at hu
      · exact hu
      · cases hu)⟩⟩
    have h2 : Rd w w.heap.size 1 (some ⟨b, off + 320, none⟩) (n - 320) ((bits.drop 320).map Value.bool) := ⟨by simp; omega, fun _ => ⟨b, off + 320, rfl, hb, fun j u hu => by
      rw [Nat.add_assoc]
      exact hcell (320 + j) u (by
        rw [List.getElem?_map, List.getElem?_drop] at hu
        rw [List.getElem?_map]
        exact hu)⟩⟩
    have HP1 := Lib.hid (Pack_any _ 320 c _ w (by omega) h1)
    have HR2 := Lib.hid h2
    have hc1 : (320 : Int) ≤ (c : Int) := by omega
    have hmin : min (n : Int) 320 = 320 := by omega
    have hc2 : (320 : Int) ≤ (n : Int) := by omega
    have hc3 : ¬ c = 320 := by omega
    have hc4 : ¬ c - 320 = 0 := by omega
    clear hr h1 h2 hcell hn
    go_enter Tryz.func65, Tryz.ntmps65
    go_wp2_with fail
    refine HP1.out.mono ?_
    rintro e w1 ⟨A1, c1, rfl, hac1, ho1, hb1⟩
    have HO1 := Lib.hid ho1; have HB1 := Lib.hid hb1
    clear ho1 hb1 HP1
    simp only [_root_.id]
    have hpl1 : (packN (bits.take 320)).length = (320 + 7) / 8 := by rw [packN_len, List.length_take, HNL.out]; omega
    have HBY1 : Hid (BytR w1 A1 c1 (packN (bits.take 320)) ∧ ∀ k ∈ obT A1, w.heap.size ≤ k) := Lib.hid ⟨pack_own HO1.out hpl1, obT_ge HO1.out⟩
    have HPL1 := Lib.hid hpl1
    obtain ⟨r1, hr1⟩ : ∃ r, r = (⟨0, 1, id, bits.length, 0, packN (bits.take 320)⟩ : Rc) := ⟨_, rfl⟩
    have HR1 := Lib.hid hr1
    obtain ⟨w2, hw2⟩ : ∃ z, z = w1.alloc (.cells (recC r1 A1 c1) 115) := ⟨_, rfl⟩
    have hb2 : Below w1.heap.size w1 w2 := by rw [hw2]; exact balloc _ _
    have hlit : w2 = w1.alloc (.cells #[.int .i64 0, .int .i64 1, .int .i64 (id : Int), .int .i64 (n : Int), .int .i64 0, .slice A1 40 c1] 115) := by
      rw [hw2, hr1]; unfold recC; dsimp only; rw [hpl1, HNL.out]; rfl
    have HG1 : Hid (Bk w2 w1.heap.size (recC r1 A1 c1) 115) := Lib.hid (by rw [hw2]; exact Bk.new _ _ _)
    have HB2 := Lib.hid (bnextK HB1.out hb2)
    have HP2 := Lib.hid (Pack_any _ (n - 320) (c - 320) _ w2 (by omega) ((HR2.out.below HB2.out).mono HB2.out.size))
    have HBY2 : Hid (BytR w2 A1 c1 (packN (bits.take 320))) := Lib.hid (HBY1.out.1.far hb2)
    have HLIT := Lib.hid hlit
    clear hpl1 hr1 hw2 hb2 hlit HR2
    go_upto_region 3 with fail
    rw [← HLIT.out]
    obtain ⟨g1, hg1⟩ : ∃ g, g = w1.heap.size := ⟨_, rfl⟩
    rw [← hg1] at HG1 ⊢
    have HGE : Hid (w.heap.size ≤ g1) := Lib.hid (by rw [hg1]; exact HB1.out.size)
    clear HLIT hg1
    go_wp2_with fail
    refine HP2.out.mono ?_
    rintro e w3 ⟨A2, c2, rfl, hac2, ho2, hb3⟩
    simp only [_root_.id]
    have hpl2 : (packN (bits.drop 320)).length = (n - 320 + 7) / 8 := by rw [packN_len, List.length_drop, HNL.out]
    obtain ⟨r2, hr2⟩ : ∃ r, r = (⟨0, 2, 0, 0, 0, packN (bits.drop 320)⟩ : Rc) := ⟨_, rfl⟩
    have hrc2 : recC r2 A2 c2 = #[.int .i64 0, .int .i64 2, .int .i64 0, .int .i64 0, .int .i64 0, .slice A2 ((n - 320 + 7) / 8) c2] := by
      rw [hr2]; unfold recC; dsimp only; rw [hpl2]; rfl
    have HRC2 := Lib.hid hrc2
    have HO2 : Hid (BytR w3 A2 c2 (packN (bits.drop 320)) ∧ ∀ k ∈ obT A2, w.heap.size ≤ k) := Lib.hid ⟨pack_own ho2 hpl2, fun k hk => Nat.le_trans HB2.out.size (obT_ge ho2 k hk)⟩
    have HB3 := Lib.hid (bnextK HB2.out hb3)
    have HOW : Hid (w3.ownsRow 0 115 6 (.slice (some ⟨g1, 0, none⟩) 1 1) 1 (rcsC [(r1, A1, c1)])) := Lib.hid (own_one (x := (r1, A1, c1)) (HG1.out.past hb3 HG1.out.lt))
    have HBY3 : Hid (BytR w3 A1 c1 (packN (bits.take 320))) := Lib.hid (HBY2.out.far hb3)
    have HR2E := Lib.hid hr2
    clear hpl2 hr2 hrc2 ho2 hb3 HP2
    go_wp2_with (at_builtin; refine wpList_pushL elR8 (.tmp 20) (.tmp 25) rfl rfl 0 1 (rcsC [(r1, A1, c1)]) rfl HOW.out rfl (by rfl) (fun u hu => by simp at hu; rcases hu with rfl | rfl | rfl | rfl | rfl | rfl <;> rfl) (by omega) (by decide) (Nat.zero_le _) ?_; intro v' w5 ho5 hb5 hg5 hl5; have HO5 := Lib.hid ho5; have HG5 : Hid (w3.grownBy w5 (some g1)) := Lib.hid hg5; clear ho5 hb5 hg5 hl5)
    obtain ⟨vA, vc, rfl, hvc⟩ := own_form HO5.out
    go_ret
    have hbf : Below w.heap.size w w5 := HB3.out.grown HG5.out HB3.out.size (fun j hj => by injection hj with hj; have := HGE.out; omega)
    have hrow : w5.ownsRow 0 115 6 (.slice vA 2 vc) 2 (rcsC [(r1, A1, c1), (r2, A2, c2)]) := by
      have h5 := HO5.out
      have e1 : rcsC [(r1, A1, c1), (r2, A2, c2)] = rcsC [(r1, A1, c1)] ++ (recC r2 A2 c2).toList := by simp [rcsC]
      rw [e1, HRC2.out]
      exact h5
    have hk5 : KeepL [g1] w3 w5 := KeepL.grown HG5.out (fun q e _ => by injection e with e; simp [e])
    have hbk3 : Bk w3 g1 (recC r1 A1 c1) 115 := by
      obtain ⟨cs, h⟩ := own_bk HOW.out g1 (by simp [ob, Value.ownBlock])
      rcases HOW.out.2 with ⟨e, _⟩ | ⟨g, cap, cur, e, _, h2, h3, _, h5, h6⟩
      · cases e
      · injection e with e1 e2 e3
        injection e1 with e1
        injection e1 with e1
        subst e1
        subst e3
        have : cur = recC r1 A1 c1 := by
          apply Array.toList_inj.1
          rw [← List.take_of_length_le (l := cur.toList) (i := 1 * 6) (by simpa using Nat.le_of_eq h5), h6]
          simp [rcsC]
        rw [← this]; exact h2
    have hnb : ∀ b ∈ [g1], ∃ cs t', Bk w3 b cs t' ∧ t' ≠ 5 := fun b hb => by rw [List.mem_singleton] at hb; subst hb; exact ⟨_, _, hbk3, by decide⟩
    refine ⟨_, obT A1 ++ obT A2, rfl, ?_, fun k hk => ?_, hbf⟩
    · have := RcsAt.of_own (xs := [(r1, A1, c1), (r2, A2, c2)]) (X := obT A1 ++ obT A2) hrow (fun x hx => by
        rcases List.mem_cons.1 hx with rfl | hx
        · refine ⟨?_, fun k hk => List.mem_append.2 (.inl hk)⟩
          rw [HR1.out]
          exact own_keepT HBY3.out hk5 hnb
        · rw [List.mem_singleton] at hx
          subst hx
          refine ⟨?_, fun k hk => List.mem_append.2 (.inr hk)⟩
          rw [HR2E.out]
          exact own_keepT HO2.out.1 hk5 hnb)
      rw [HRK.out, ← HR1.out, ← HR2E.out]
      exact this
    · rcases List.mem_append.1 hk with hk | hk
      · exact HBY1.out.2 k hk
      · exact HO2.out.2 k hk
  · have hki : ¬ (320 : Int) < (n : Int) := by omega
    have hmin : min (n : Int) 320 = (n : Int) := by omega
    have HRK : Hid (recsK id bits = [⟨0, 1, id, bits.length, 0, packN bits⟩]) := Lib.hid (by unfold recsK; rw [if_neg (by omega), List.take_of_length_le (by omega)])
    have HP1 := Lib.hid (Pack_any _ n c _ w (by omega) hr)
    have hci : (n : Int) ≤ (c : Int) := by omega
    clear hr hcell hn
    go_enter Tryz.func65, Tryz.ntmps65
    go_wp2_with fail
    refine HP1.out.mono ?_
    rintro e w1 ⟨A1, c1, rfl, hac1, ho1, hb1⟩
    have HO1 := Lib.hid ho1; have HB1 := Lib.hid hb1
    clear ho1 hb1 HP1
    simp only [_root_.id]
    go_wp2_with fail
    go_ret
    have hpl1 : (packN bits).length = (n + 7) / 8 := by rw [packN_len, HNL.out]
    have hby : BytR w1 A1 c1 (packN bits) := pack_own HO1.out hpl1
    refine ⟨_, obT A1, rfl, ?_, obT_ge HO1.out, bnextK HB1.out (balloc _ _)⟩
    have hlit : recC ⟨0, 1, id, bits.length, 0, packN bits⟩ A1 c1 = #[.int .i64 0, .int .i64 1, .int .i64 (id : Int), .int .i64 (n : Int), .int .i64 0, .slice A1 ((n + 7) / 8) c1] := by
      unfold recC; dsimp only; rw [hpl1, HNL.out]; rfl
    have := RcsAt.of_own (xs := [(⟨0, 1, id, bits.length, 0, packN bits⟩, A1, c1)]) (X := obT A1) (own_one (x := (⟨0, 1, id, bits.length, 0, packN bits⟩, A1, c1)) (Bk.new w1 _ _)) (fun x hx => by
      rw [List.mem_singleton] at hx
      subst hx
      exact ⟨hby.far (balloc _ _), fun k hk => hk⟩)
    rw [HRK.out]
    dsimp only at this
    rw [hlit] at this
    exact this
def StM.addR (d : Dk) (s : StM) (id : Int) (bits : List Bool) : Int × Dk × StM :=
  if s.age ≠ d.age then (13, d, s)
  else if id < 1 ∨ 2147483647 < id then (3, d, s)
  else if bits.length = 0 then (2, d, s)
  else if 512 < bits.length then (4, d, s)
  else if id ≤ s.j.last then (16, d, s)
  else s.commit d (recsK id.toNat bits)
section
variable {w w' : World} {S D : Nat} {d : Dk} {s : StM} {bs bm cp : Nat} {p : Option Addr} {F B : List Nat}
theorem CoP.none {q : Int × Dk × StM} (hd : DkAt w D d bs bm cp p) (hs : StIn w S D s F B) {z : Int} (hq : q = (z, d, s)) (hb : Below w.heap.size w w') (X : List Nat) : CoP D S bs bm cp p F B X q w (.returned (.int .i64 z)) w' := by
  subst hq
  exact ⟨rfl, SysM.refl hd hs X hb⟩
theorem SysM.news {w1 : World} {X : List Nat} {d' : Dk} {s' : StM} (hb : Below w.heap.size w w1) (h : SysM w1 w' D S bs bm cp p F B X d' s') (hX : ∀ k ∈ X, w.heap.size ≤ k) (hp : NewP w p p) : SysM w w' D S bs bm cp p F B [] d' s' :=
  SysM.trans hp (fun k hk => .inl hk) (fun k hk => .inl hk) (.of_below hb) h (fun k hk => .inr (hX k hk))
set_option maxRecDepth 100000 in
set_option maxHeartbeats 1000000 in
theorem add8_any (hd : DkAt w D d bs bm cp p) (hs : StIn w S D s F B) (hu : s.age = d.age → UseOK d s ∧ 1 ≤ s.epoch) (id : Int) (A : Option Addr) (n c : Nat) (bits : List Bool) (hn : n ≤ 1000000) (hc : n ≤ c) (hr : Rd w w.heap.size 1 A n (bits.map Value.bool)) :
    Calls Tryz.prog 37 #[.pointer (some ⟨S, 0, none⟩), .int .i64 id, .slice A n c] w (CoP D S bs bm cp p F B [] (s.addR d id bits) w) := by
  have hln : bits.length = n := by have := hr.1; simpa using this
  have HC := Lib.hid (check_any hd hs)
  have HD := Lib.hid hd; have HS := Lib.hid hs; have HLN := Lib.hid hln; have HR := Lib.hid hr
  have hs' := hs
  obtain ⟨T, kv, xs, tb, tc, h1, _, _⟩ := hs'
  have c4 : w.cell? ⟨S, 4, none⟩ = some (.pointer (some ⟨T, 0, none⟩)) := h1.blk.cell 4
  have t1 : w.cell? ⟨T, 1, none⟩ = some (.int .i64 (s.j.last : Int)) := h1.js.blk.cell 1
  have hep := hs.ok.epoch
  obtain ⟨q, hq⟩ : ∃ q, q = s.addR d id bits := ⟨_, rfl⟩
  have HQ := Lib.hid hq
  rw [← hq]
  by_cases he : s.age = d.age
  · obtain ⟨hu1, hu2⟩ := hu he
    have HU := Lib.hid hu1; have HAL := Lib.hid he
    rw [if_pos he] at HC
    have HQ1 : Hid (q = if id < 1 ∨ 2147483647 < id then (3, d, s) else if n = 0 then (2, d, s) else if 512 < n then (4, d, s) else if id ≤ s.j.last then (16, d, s) else s.commit d (recsK id.toNat bits)) := Lib.hid (by
      rw [HQ.out]; unfold StM.addR; rw [if_neg (by simpa using he), hln])
    clear hd hs hr hln h1 hq hu1 hu HQ
    generalize hlast : s.j.last = lst at *
    have HLST := Lib.hid hlast
    clear hlast he
    go_enter Tryz.func37, Tryz.ntmps37
    go_wp2_with fail
    refine HC.out.mono ?_
    rintro e w1 ⟨rfl, hqw⟩
    have HB1 : Hid (Below w.heap.size w w1) := Lib.hid (hqw.below _)
    obtain ⟨nq, rfl⟩ := hqw
    clear HC
    by_cases c1 : id < 1
    · have HQ2 : Hid (q = (3, d, s)) := Lib.hid (by rw [HQ1.out, if_pos (.inl c1)])
      clear HQ1
      go_wp2_with fail
      go_ret
      exact CoP.none HD.out HS.out HQ2.out HB1.out []
    by_cases c2 : 2147483647 < id
    · have HQ2 : Hid (q = (3, d, s)) := Lib.hid (by rw [HQ1.out, if_pos (.inr c2)])
      clear HQ1
      go_wp2_with fail
      go_ret
      exact CoP.none HD.out HS.out HQ2.out HB1.out []
    have HQ2 := Lib.hid (HQ1.out.trans (if_neg (by omega)))
    clear HQ1
    by_cases c3 : n = 0
    · have c3i : ((n : Int) == 0) = true := by simp; omega
      have HQ3 := Lib.hid (HQ2.out.trans (if_pos c3))
      clear HQ2 c3
      go_wp2_with fail
      go_ret
      exact CoP.none HD.out HS.out HQ3.out HB1.out []
    have c3i : ((n : Int) == 0) = false := by simp; omega
    have HQ3 := Lib.hid (HQ2.out.trans (if_neg c3))
    clear HQ2
    by_cases c4' : 512 < n
    · have c4i : (512 : Int) < (n : Int) := by omega
      have HQ4 := Lib.hid (HQ3.out.trans (if_pos c4'))
      clear HQ3
      go_wp2_with fail
      go_ret
      exact CoP.none HD.out HS.out HQ4.out HB1.out []
    have c4i : ¬ (512 : Int) < (n : Int) := by omega
    have HQ4 := Lib.hid (HQ3.out.trans (if_neg c4'))
    clear HQ3
    by_cases c5 : id ≤ lst
    · have HQ5 := Lib.hid (HQ4.out.trans (if_pos c5))
      clear HQ4
      go_wp2_with fail
      go_ret
      exact CoP.none HD.out HS.out HQ5.out HB1.out []
    have HQ5 := Lib.hid (HQ4.out.trans (if_neg c5))
    clear HQ4
    obtain ⟨i, rfl⟩ : ∃ i : Nat, id = (i : Int) := ⟨id.toNat, by omega⟩
    rw [Int.toNat_natCast] at HQ5
    have HRC := Lib.hid (records_any i n A c bits (w.drewN nq) HLN.out (by omega) (by omega) hc (by omega) (HR.out.below HB1.out))
    have HGD : Hid (∀ r ∈ recsK i bits, RcG (r.at' s.epoch)) := Lib.hid (recsK_good i bits s.epoch hu2 hep (by omega) (by omega) (by rw [HLN.out]; omega) (by rw [HLN.out]; omega))
    have HRL : Hid ((recsK i bits).length ≤ 1000) := Lib.hid (by unfold recsK; split <;> simp)
    go_wp2_with fail
    refine HRC.out.mono ?_
    rintro e w2 ⟨v, X, rfl, hra, hX, hb2⟩
    have HRA := Lib.hid hra; have HX := Lib.hid hX
    have HB2 := Lib.hid (bnextK HB1.out hb2)
    obtain ⟨vA, vc, hv, _⟩ := hra
    have HCM := Lib.hid (commit_any (HD.out.far HB2.out) (HS.out.far HB2.out) HU.out HAL.out (recsK i bits) v X HRA.out HGD.out HRL.out)
    rw [hv] at HCM ⊢
    clear hb2 hX hv HRC
    go_wp2_with fail
    refine HCM.out.mono ?_
    rintro e w3 ⟨rfl, hsy⟩
    have HFIN : Hid (SysM w w3 D S bs bm cp p F B [] (s.commit d (recsK i bits)).2.1 (s.commit d (recsK i bits)).2.2) := Lib.hid (SysM.news HB2.out hsy (fun k hk => HX.out k hk) (NewP.refl _ _))
    clear hsy HCM
    go_wp2_with fail
    go_ret
    unfold CoP
    rw [HQ5.out]
    exact ⟨rfl, HFIN.out⟩
  · rw [if_neg he] at HC
    have HQ1 : Hid (q = (13, d, s)) := Lib.hid (by rw [HQ.out]; unfold StM.addR; rw [if_pos he])
    clear hd hs hr hln h1 hq hu he
    go_enter Tryz.func37, Tryz.ntmps37
    go_wp2_with fail
    refine HC.out.mono ?_
    rintro e w1 ⟨rfl, hqw⟩
    have HB1 : Hid (Below w.heap.size w w1) := Lib.hid (hqw.below _)
    clear hqw
    go_wp2_with fail
    go_ret
    exact CoP.none HD.out HS.out HQ1.out HB1.out []
end
end Go.Proofs.YtdgmjedkhjeadaaGreat
