/- The contract of Compact. Conditions: as the statement says. -/
import Derived.Test.YtdgmjedkhjeadaaBit8
import Derived.Test.YtdgmjedkhjeadaaKeepL
import Derived.Test.YtdgmjedkhjeadaaBits2
namespace Go.Proofs.Ytdgmjedkhjeadaa
open Go.RowKit
set_option linter.unusedVariables false
attribute [local go_sem] Oper.semAt_some
theorem rd_row {W : World} {b : Nat} {l : List Bool} {sp : List Value} {n : Nat} (h : Bk W b (l.map Value.bool ++ sp).toArray 4) (hn : l.length = n := by rfl) : Rd W W.heap.size 1 (some ⟨b, 0, none⟩) n (l.map Value.bool) :=
  ⟨by rw [List.length_map]; omega, fun _ => ⟨b, 0, rfl, h.lt, fun j u hu => by
    rw [Nat.zero_add, h.cell, List.getElem?_toArray, List.getElem?_append_left (List.getElem?_eq_some_iff.1 hu).1]; exact hu⟩⟩
theorem byt_new {W : World} {A : Option Addr} {c N : Nat} {l : List Nat} (h : BytR W A c l) (hN : ∀ k ∈ obT A, N ≤ k) : W.ownsRow N 5 1 (.slice A l.length c) l.length (secC l) := by
  refine ⟨h.1, ?_⟩
  rcases h.2 with h1 | ⟨g, cap, cur, h1, h2, h3, h4⟩
  · exact .inl h1
  · refine .inr ⟨g, cap, cur, h1, hN g ?_, h3, h4⟩
    rw [obT, ← ob_tb A l.length c, mem_ob, h1]; rfl
theorem rcsC_one {xs : List RcX} : ∀ u ∈ rcsC xs, u.oneCell' = true := fun u hu => by
  unfold rcsC at hu
  obtain ⟨x, _, hx⟩ := List.mem_flatMap.1 hu
  simp [recC] at hx
  rcases hx with rfl | rfl | rfl | rfl | rfl | rfl <;> rfl
theorem cps_app {w W4 w5 : World} {bl : Nat} {xs ys : List RcX} {v v' : Value} (hb : Bk W4 bl #[v] 71) (ho : W4.ownsRow w.heap.size 60 6 v xs.length (rcsC xs)) (hx : ∀ x ∈ xs, W4.ownsRow w.heap.size 5 1 (.slice x.2.1 x.1.bits.length x.2.2) x.1.bits.length (secC x.1.bits)) (hB : Below w.heap.size w W4)
    (hy : ∀ y ∈ ys, W4.ownsRow w.heap.size 5 1 (.slice y.2.1 y.1.bits.length y.2.2) y.1.bits.length (secC y.1.bits)) (ho5 : w5.ownsRow w.heap.size 60 6 v' (xs.length + ys.length) (rcsC xs ++ rcsC ys)) (hg : W4.grownBy w5 v.ownBlock) (hbl : w.heap.size ≤ bl) :
    CpS w bl (xs ++ ys) (w5.setCell ⟨bl, 0, none⟩ v') ∧ KpS [] W4 (w5.setCell ⟨bl, 0, none⟩ v') ∧ KeepsFrom 0 W4 (w5.setCell ⟨bl, 0, none⟩ v') := by
  have k1 := keepL_grown hg
  have k2 : KeepL [bl] w5 (w5.setCell ⟨bl, 0, none⟩ v') := KeepL.set _ _ _ _
  have hb5 : Bk w5 bl #[v] 71 := hb.keepL k1 (nob_ty ho hb (by decide))
  have k3 : KeepL (bl :: ob v) W4 (w5.setCell ⟨bl, 0, none⟩ v') := (k1.sub (fun k hk => List.mem_cons_of_mem _ hk)).trans (k2.sub (by simp))
  have hby : ∀ (A : Option Addr) (c n : Nat) (l : List Value), W4.ownsRow w.heap.size 5 1 (.slice A n c) n l → (w5.setCell ⟨bl, 0, none⟩ v').ownsRow w.heap.size 5 1 (.slice A n c) n l := fun A c n l h => ownsRow_keepB h k3 (fun k hk hm => by
    obtain ⟨cs, h1⟩ := own_bk h k hk
    rcases List.mem_cons.1 hm with rfl | hm
    · exact h1.ne hb (by decide) rfl
    · obtain ⟨cs', h2⟩ := own_bk ho k hm
      exact h1.ne h2 (by decide) rfl)
  have hcell : ∀ k ∈ bl :: ob v, ∃ cs t, Bk W4 k cs t ∧ (t = 34 ∨ t = 45 ∨ t = 71 ∨ t = 60) := fun k hk => by
    rcases List.mem_cons.1 hk with rfl | hk
    · exact ⟨_, _, hb, .inr (.inr (.inl rfl))⟩
    · obtain ⟨cs', h2⟩ := own_bk ho k hk
      exact ⟨_, _, h2, .inr (.inr (.inr rfl))⟩
  refine ⟨⟨v', hb5.set 0 v', ?_, fun x hx' => ?_, hB.trans (k3.below hB.size (fun k hk => ?_))⟩, ⟨k3.size, fun b cs t hbt h1 h2 h3 h4 _ => hbt.keepL k3 (fun hm => ?_)⟩, keepsFrom_L 0 k3 (fun k hk => ?_)⟩
  · rw [rcsC_append, List.length_append]
    refine ownsRow_keepB ho5 k2 (fun k hk hm => ?_)
    rw [List.mem_singleton] at hm; subst hm
    obtain ⟨cs, h1⟩ := own_bk ho5 k hk
    exact h1.ne hb5 (by decide) rfl
  · rcases List.mem_append.1 hx' with h | h
    · exact hby _ _ _ _ (hx x h)
    · exact hby _ _ _ _ (hy x h)
  · rcases List.mem_cons.1 hk with rfl | hk
    · exact hbl
    · rw [mem_ob] at hk; exact (ho.lt k hk).1
  · obtain ⟨cs', t', hb', ht⟩ := hcell b hm
    have e : t = t' := by
      unfold Bk at hbt hb'
      rw [hbt] at hb'; cases hb'; rfl
    rcases ht with rfl | rfl | rfl | rfl
    · exact h1 e
    · exact h2 e
    · exact h3 e
    · exact h4 e
  · obtain ⟨cs, t, h, _⟩ := hcell k hk
    exact ⟨cs, t, h⟩
def runX (id : Nat) (x : Nat × Nat) : RcX := (runR id x, none, 0)
theorem cptL_good {j : Jn} (h : JnW j) (e : Nat) (h1 : 1 ≤ e) (h2 : e < 4294967296) : ∀ r ∈ cptL j.keys, RcG (r.at' e) := fun r hr => by
  unfold cptL at hr
  obtain ⟨k, hk, hr⟩ := List.mem_flatMap.1 hr
  have hw := h.key k hk
  have hl := h.last
  unfold cptK at hr
  split at hr
  · rcases List.mem_append.1 hr with hr | hr
    · exact recsK_good k.id k.bits e h1 h2 hw.1 (by omega) (by omega) (by omega) r hr
    · obtain ⟨x, hx, rfl⟩ := List.mem_map.1 hr
      unfold runsL at hx
      have hm := runsB_mem _ _ _ _ _ _ hx
      exact ⟨h1, h2, by show k.id ≤ _; omega, by simp [runR, Rc.at'], .inr (.inr (.inl ⟨rfl, by show 1 ≤ k.id; omega, by show x.1 < _; omega, by show x.2 < _; omega, rfl⟩))⟩
  · simp at hr
theorem sc_cells {W : World} {bk : Nat} {x : KB} {k : Ky} (h1 : Bk W bk #[.pointer (some ⟨x.kb, 0, none⟩)] 66) (h2 : Bk W x.kb #[.int .i64 (k.id : Int), .slice (some ⟨x.bb, 0, none⟩) k.bits.length x.cb, .slice (some ⟨x.ub, 0, none⟩) k.used.length x.cu] 68) (hlb : k.bits.length = k.used.length) :
    W.cell? ⟨bk, 0, none⟩ = some (.pointer (some ⟨x.kb, 0, none⟩)) ∧ W.cell? ⟨x.kb, 0, none⟩ = some (.int .i64 (k.id : Int)) ∧ W.cell? ⟨x.kb, 1, none⟩ = some (.slice (some ⟨x.bb, 0, none⟩) k.used.length x.cb) := ⟨h1.cell 0, h2.cell 0, by have := h2.cell 1; rw [hlb] at this; exact this⟩
section
variable {w w' : World} {S D : Nat} {d : Dk} {s : StM} {bs bm cp : Nat} {p : Option Addr} {F B : List Nat}
theorem cpt_fin {we w4 w5 : World} {s' : StM} {F2 B2 X : List Nat} {q0 : Bool × Dk × StM} {e : Ending} (hd : DkAt we D d bs bm cp p) (hs : StIn we S D s' F2 B2) (hkw : KeepL (fpL D bs bm p ++ F) w we) (hfp : ∀ k ∈ fpL D bs bm p, k < w.heap.size) (hF : ∀ k ∈ F2, k ∈ F ∨ w.heap.size ≤ k) (hB : ∀ k ∈ B2, k ∈ B ∨ w.heap.size ≤ k) (hX : ∀ k ∈ X, w.heap.size ≤ k)
    (hr : ComR D S bs bm cp p F2 B2 X q0 (we.alloc (.cells #[.int .i64 0] 23)) e w4) (hk5 : KeepL [we.heap.size] w4 w5) :
    endI e = (if q0.1 = true then 13 else 0) ∧ SysM w w5 D S bs bm cp p F B [] q0.2.1 q0.2.2 ∧ KeepsFrom w.heap.size we w5 := by
  obtain ⟨h1, h1', h4, h5⟩ := hr
  have hb := balloc we (.cells #[.int .i64 0] 23)
  have h6 : SysM we w4 D S bs bm cp p F2 B2 X q0.2.1 q0.2.2 := SysM.trans (NewP.refl we p) (fun k hk => .inl hk) (fun k hk => .inl hk) (.of_below hb) h4 (fun k hk => .inl hk)
  have h7 := h6.own (h5 _ _ _ (Bk.new we _ _) (by decide)) (Nat.le_refl _) hk5 (by decide) (by decide) (by decide)
  have hsz := hkw.size
  refine ⟨?_, SysM.trans (NewP.refl w p) hF (fun k hk => by rcases hB k hk with h | h; exact .inl h; exact .inr (.inr h)) hkw h7 (fun k hk => .inr (hX k hk)), ⟨h7.k.size, fun k o hN ho hc => (h7.k.block k (Array.getElem?_eq_some_iff.1 ho).1 (fun hm => ?_)).trans ho⟩⟩
  · cases hq : q0.1 with
    | true => rw [h1 hq]; rfl
    | false => rw [h1' hq]; rfl
  · rcases List.mem_append.1 hm with hm | hm
    · have := hfp k hm; omega
    · obtain ⟨cs, t, hb', _⟩ := hs.types.1 k hm
      unfold Bk at hb'
      rw [ho] at hb'; cases hb'; cases hc
set_option maxRecDepth 100000 in
set_option maxHeartbeats 4000000 in
theorem compact8_any (hd : DkAt w D d bs bm cp p) (hs : StIn w S D s F B) (hu : s.age = d.age → UseW d s ∧ d.down = false ∧ s.j.side ≤ 1) :
    Calls Try.prog 14 #[.pointer (some ⟨S, 0, none⟩)] w (CoP D S bs bm cp p F B [] (s.compactR d) w) := by
  obtain ⟨i0, hi0, hz0, hz1, hz2⟩ := info_parts (by kernel_rfl : (Try.prog.info? 60).map (fun i => (i.zero, i.size, i.bytes)) = some (some (recV rc0 none 0), 6, 64))
  have HI0 := Lib.hid hi0; have HZ0 := Lib.hid hz0; have HZ1 := Lib.hid hz1; have HZ2 := Lib.hid hz2
  clear hi0 hz0 hz1 hz2
  obtain ⟨w1, hw1⟩ : ∃ z, z = w.alloc (.cells #[.pointer (some ⟨S, 0, none⟩)] 26) := ⟨_, rfl⟩
  have hb1 : Below w.heap.size w w1 := by rw [hw1]; exact balloc _ _
  have hbS : Bk w1 w.heap.size #[.pointer (some ⟨S, 0, none⟩)] 26 := by rw [hw1]; exact Bk.new _ _ _
  have HC := Lib.hid (check_any (hd.far hb1) (hs.far hb1))
  have HD := Lib.hid hd; have HS := Lib.hid hs; have HB1 := Lib.hid hb1
  obtain ⟨q, hq⟩ : ∃ q, q = s.compactR d := ⟨_, rfl⟩
  have HQ := Lib.hid hq
  rw [← hq]
  obtain ⟨b1, hb1e⟩ : ∃ b, b = w.heap.size := ⟨_, rfl⟩
  have HB1E := Lib.hid hb1e
  rw [← hb1e] at hbS
  have HBS := Lib.hid hbS
  have c1 : w1.cell? ⟨b1, 0, none⟩ = some (.pointer (some ⟨S, 0, none⟩)) := hbS.cell 0
  by_cases he : s.age = d.age
  · have HU := Lib.hid (hu he); have HAL := Lib.hid he
    rw [if_pos he] at HC
    have HEP := Lib.hid hs.ok.epoch
    obtain ⟨T, kv, xs', tb, tc, hst, hF, hB⟩ := hs
    have HST := Lib.hid hst; have HFE := Lib.hid hF; have HBE := Lib.hid hB
    have hst1 := hst.far hb1
    have c3 : w1.cell? ⟨S, 3, none⟩ = some (.int .i64 (s.epoch : Int)) := hst1.blk.cell 3
    have HST1 := Lib.hid hst1
    have HQ1 : Hid (q = (if s.epoch = 4294967295 then (8, d, s) else if d.dur.length / 2 < (cptL s.j.keys).length + 1 then (12, d, s) else
        (if (cpt8 d ⟨s.age, 1 - s.area, s.epoch + 1, Jn.zero ((1 - s.area) * (d.dur.length / 2))⟩ (cptL s.j.keys) s.j.last s.j.side).1 = true then 13 else 0, (cpt8 d ⟨s.age, 1 - s.area, s.epoch + 1, Jn.zero ((1 - s.area) * (d.dur.length / 2))⟩ (cptL s.j.keys) s.j.last s.j.side).2.1, (cpt8 d ⟨s.age, 1 - s.area, s.epoch + 1, Jn.zero ((1 - s.area) * (d.dur.length / 2))⟩ (cptL s.j.keys) s.j.last s.j.side).2.2))) := Lib.hid (by rw [HQ.out]; unfold StM.compactR; rw [if_neg (by simpa using he)])
    clear hd hq hu he hst hF hB hst1 HQ hbS
    refine (callsIn_wide (n := 6)).1 ?_
    refine callsIn_of_wp_marks Try.func14 rfl trivial ?_ rfl
    simp only [Try.ntmps14, List.size_toArray, List.length_cons, List.length_nil, Nat.reduceAdd, Nat.reduceSub, Array.replicate_succ, Array.replicate_zero, List.push_toArray, List.append_toArray, List.nil_append, List.cons_append]
    refine wpIn_wide.2 ?_
    go_upto_region 1 with fail
    rw [← hw1, ← hb1e]
    clear hw1 hb1 hb1e
    go_wp2_with fail
    refine HC.out.mono ?_
    rintro e w2 ⟨rfl, nq, rfl⟩
    have hqw : Below w1.heap.size w1 (w1.drewN nq) := Qw.below ⟨nq, rfl⟩ _
    have HB2 := Lib.hid (bnextK HB1.out hqw)
    have HBS2 := Lib.hid (HBS.out.past hqw HBS.out.lt)
    have HST2 := Lib.hid (HST1.out.far hqw)
    by_cases h8 : s.epoch = 4294967295
    · have h8i : ((s.epoch : Int) == 4294967295) = true := by simp; omega
      have HQ2 : Hid (q = (8, d, s)) := Lib.hid (HQ1.out.trans (if_pos h8))
      clear h8 HQ1
      go_wp2_with fail
      refine ⟨_, results_tmp rfl _ _ _, ?_⟩
      exact CoP.none HD.out HS.out HQ2.out HB2.out []
    have h8i : ((s.epoch : Int) == 4294967295) = false := by simp; omega
    have HQ2 := Lib.hid (HQ1.out.trans (if_neg h8))
    have HE8 := Lib.hid h8
    clear h8 HQ1
    go_upto_region 7 with fail
    obtain ⟨w3, hw3⟩ : ∃ z, z = (w1.drewN nq).alloc (.cells #[.slice none 0 0] 71) := ⟨_, rfl⟩
    have hb3 : Below (w1.drewN nq).heap.size (w1.drewN nq) w3 := by rw [hw3]; exact balloc _ _
    obtain ⟨bl, hbl2⟩ : ∃ b, b = w1.heap.size := ⟨_, rfl⟩
    have hbl : Bk w3 bl #[.slice none 0 0] 71 := by rw [hbl2, hw3]; exact Bk.new (w1.drewN nq) _ _
    rw [← hw3, ← hbl2]
    have HBLE : Hid (w.heap.size ≤ bl) := Lib.hid (by rw [hbl2]; exact HB1.out.size)
    have HB3 := Lib.hid (bnextK HB2.out hb3)
    have HBS3 := Lib.hid (HBS2.out.past hb3 HBS2.out.lt)
    have HST3 := Lib.hid (HST2.out.far hb3)
    have HCP : Hid (CpS w bl [] w3) := Lib.hid ⟨_, hbl, World.ownsRow_nil _ _ _ _, by simp, HB3.out⟩
    clear hw3 hb3 hbl hbl2 HB2 HBS2 HST2 HST1 HB1 HBS HC c1 c3 hqw
    obtain ⟨kA, kc, hkv⟩ := HST3.out.js.form
    have HKV := Lib.hid hkv
    have hkl := HST3.out.js.ok.keys
    obtain ⟨kn, hkn⟩ : ∃ n, n = s.j.keys.length := ⟨_, rfl⟩
    have HKN := Lib.hid hkn
    have c1 : w3.cell? ⟨b1, 0, none⟩ = some (.pointer (some ⟨S, 0, none⟩)) := HBS3.out.cell 0
    have c4 : w3.cell? ⟨S, 4, none⟩ = some (.pointer (some ⟨T, 0, none⟩)) := HST3.out.blk.cell 4
    have t0 : w3.cell? ⟨T, 0, none⟩ = some kv := HST3.out.js.blk.cell 0
    rw [hkv, ← hkn] at t0
    rw [← hkn] at hkl
    clear hkv hkn
    go_wp2_with fail
    -- <LOOP
    refine wp_loop_ghost (fun r a' w' => ∃ (i : Nat) (xs : List RcX) (ds : List Deferred) (u5 u6 u7 u8 u30 u31 u32 u33 u34 u35 u36 u37 u38 u39 u40 u41 u42 u43 u44 u45 u46 u47 u48 u49 u50 u51 u52 u53 u54 u55 u56 u57 u58 u59 u60 u61 u62 u63 u64 u65 u66 u67 u68 u69 u70 u71 u72 : Value), a' = { tmps := #[.pointer (some ⟨S, 0, none⟩), .pointer (some ⟨b1, 0, none⟩), .int .i64 0, .int .i64 0, .pointer (some ⟨bl, 0, none⟩), u5, u6, u7, u8, undef, undef, .pointer (some ⟨S, 0, none⟩), .int .i64 0, .int .i64 0, .bool false, undef, .pointer (some ⟨S, 0, none⟩), .pointer (some ⟨S, 0, none⟩), .pointer (some ⟨S, 3, none⟩), .int .i64 (s.epoch : Int), .bool false, .pointer (some ⟨S, 0, none⟩), .pointer (some ⟨S, 0, none⟩), .pointer (some ⟨S, 4, none⟩), .pointer (some ⟨T, 0, none⟩), .pointer (some ⟨T, 0, none⟩), .pointer (some ⟨T, 0, none⟩), .slice kA kn kc, .int .i64 (kn : Int), .int .i64 (i : Int), u30, u31, u32, u33, u34, u35, u36, u37, u38, u39, u40, u41, u42, u43, u44, u45, u46, u47, u48, u49, u50, u51, u52, u53, u54, u55, u56, u57, u58, u59, u60, u61, u62, u63, u64, u65, u66, u67, u68, u69, u70, u71, u72, undef, undef, undef, undef, undef, undef, undef, undef, undef, undef, undef, undef, undef, undef, undef, undef, undef, undef, undef, undef, undef, undef, undef, undef, undef, undef, undef, undef, undef, undef, undef, undef, undef, undef, undef, undef, undef, undef, undef, undef, undef, undef, undef, undef, undef, undef], defers := ds } ∧ i + r = kn ∧ xs.map (·.1) = cptL (s.j.keys.take i) ∧ CpS w bl xs w' ∧ KpS [] w3 w' ∧ Marks8 w3.heap.size ds w') kn ?_ ?_
    · exact ⟨0, [], [], _, _, _, _, _, _, _, _, _, _, _, _, _, _, _, _, _, _, _, _, _, _, _, _, _, _, _, _, _, _, _, _, _, _, _, _, _, _, _, _, _, _, _, _, _, _, _, rfl, by omega, rfl, HCP.out, KpS.refl _ _, trivial⟩
    · rintro r a' wa ⟨i, xs, ds, u5, u6, u7, u8, u30, u31, u32, u33, u34, u35, u36, u37, u38, u39, u40, u41, u42, u43, u44, u45, u46, u47, u48, u49, u50, u51, u52, u53, u54, u55, u56, u57, u58, u59, u60, u61, u62, u63, u64, u65, u66, u67, u68, u69, u70, u71, u72, rfl, hir, hxs, hc, hk, hm⟩
      have HXS := Lib.hid hxs; have HCA := Lib.hid hc; have HKA := Lib.hid hk; have HMA := Lib.hid hm
      clear hxs hc hk hm c1 c4 t0 HCP
      cases r with
      | zero =>
        obtain rfl : i = kn := by omega
        have hki : ¬ (i : Int) < (i : Int) := by omega
        have HXF : Hid (xs.map (·.1) = cptL s.j.keys) := Lib.hid (by rw [HXS.out, List.take_of_length_le (by rw [HKN.out]; exact Nat.le_refl _)])
        obtain ⟨lv, hl1, hl2, hl3⟩ := HCA.out.at
        have hst := HST3.out
        have HSA : Hid (StAt wa S D s T kv xs' tb tc) := Lib.hid ⟨HKA.out.bk _ _ _ HST3.out.blk (by decide) (by decide) (by decide) (by decide) (fun e => absurd e (by decide)), HST3.out.js.kp HKA.out, HST3.out.ok⟩
        have HBW : Hid (Below w.heap.size w wa) := Lib.hid (by obtain ⟨_, _, _, _, h⟩ := HCA.out; exact h)
        have HDA := Lib.hid (HD.out.far HBW.out)
        have HBSA := Lib.hid (HKA.out.bk _ _ _ HBS3.out (by decide) (by decide) (by decide) (by decide) (fun e => absurd e (by decide)))
        obtain ⟨lA, lc, hlv, _⟩ := id hl2
        have HL1 := Lib.hid hl1; have HL2 := Lib.hid hl2; have HL3 := Lib.hid hl3; have HLV := Lib.hid hlv
        have m1 : wa.cell? ⟨b1, 0, none⟩ = some (.pointer (some ⟨S, 0, none⟩)) := HBSA.out.cell 0
        have m2 : wa.cell? ⟨S, 0, none⟩ = some (.pointer (some ⟨D, 0, none⟩)) := HSA.out.blk.cell 0
        have m3 := HDA.out.c0
        have m4 : wa.cell? ⟨bl, 0, none⟩ = some lv := hl1.cell 0
        obtain ⟨xn, hxn⟩ : ∃ n, n = (cptL s.j.keys).length := ⟨_, rfl⟩
        have HXN := Lib.hid hxn
        rw [hlv, HXF.out, ← hxn] at m4
        have hxl : xn ≤ 1003002 := by
          have h2 := cptL_len (keys := s.j.keys) (fun y hy => by have := HU.out.1.w.key y hy; omega)
          have h3 : s.j.keys.length ≤ 1001 := by have := HKN.out; omega
          have h4 : s.j.keys.length * 1002 ≤ 1001 * 1002 := Nat.mul_le_mul_right _ h3
          omega
        obtain ⟨hh, hhh⟩ : ∃ n, n = d.dur.length / 2 := ⟨_, rfl⟩
        have hn256 := HDA.out.ok.n256
        have HH := Lib.hid hhh
        have q7 : Int.tdiv (d.dur.length : Int) 2 = (hh : Int) := by rw [hhh]; exact half8 _
        have hh1 : hh ≤ 128 := by omega
        rw [← hhh, ← hxn] at HQ2
        clear hl1 hl2 hl3 hlv hst hxn hhh HCA
        by_cases hfull : hh < xn + 1
        · have hfi : (hh : Int) < (xn : Int) + 1 := by omega
          have HQ3 : Hid (q = (12, d, s)) := Lib.hid (HQ2.out.trans (if_pos hfull))
          clear hfull HQ2
          go_wp2_with fail
          refine leaves8 (n₀ := w3.heap.size) (I := fun W' => Below w.heap.size w W') (fun W' D2 o h h0 ho hc o' => h.grown (grownBy_putObj' W' D2 o') h.size (fun j hj => by cases hj; exact Nat.le_trans HB3.out.size h0)) _ _ HMA.out HBW.out (fun W' hs' => ?_)
          refine ⟨_, results_tmp rfl _ _ _, ?_⟩
          exact CoP.none HD.out HS.out HQ3.out hs' []
        have hfi : ¬ (hh : Int) < (xn : Int) + 1 := by omega
        have HQ3 := Lib.hid (HQ2.out.trans (if_neg hfull))
        clear HQ2
        have har : s.area ≤ 1 := HST3.out.ok.area
        have hae : s.epoch + 1 < 4294967296 := by have := HEP.out; have := HE8.out; omega
        obtain ⟨ar, har2⟩ : ∃ n, n = 1 - s.area := ⟨_, rfl⟩
        obtain ⟨pl, hpl⟩ : ∃ n, n = ar * hh := ⟨_, rfl⟩
        have har1 : ar ≤ 1 := by omega
        have hplh : pl ≤ hh := by
          rw [hpl]
          have := Nat.mul_le_mul_right hh har1
          omega
        have HPL := Lib.hid hpl
        have HAR : Hid ((1 : Int) - (s.area : Int) = (ar : Int)) := Lib.hid (by omega)
        have hqm : (ar : Int) * (hh : Int) = (pl : Int) := by rw [hpl]; push_cast; rfl
        have HQM := Lib.hid hqm
        have n4 : wa.cell? ⟨S, 4, none⟩ = some (.pointer (some ⟨T, 0, none⟩)) := HSA.out.blk.cell 4
        have hS := HSA.out.blk.lt
        rw [← har2, ← hpl] at HQ3
        clear hpl hqm har2
        go_upto_region 21 with fail
        obtain ⟨wb, hwb⟩ : ∃ z, z = wa.alloc (.cells #[.pointer (some ⟨T, 0, none⟩)] 53) := ⟨_, rfl⟩
        obtain ⟨bo, hbo⟩ : ∃ z, z = wa.heap.size := ⟨_, rfl⟩
        have hbb : Below wa.heap.size wa wb := by rw [hwb]; exact balloc _ _
        have hbo2 : Bk wb bo #[.pointer (some ⟨T, 0, none⟩)] 53 := by rw [hwb, hbo]; exact Bk.new _ _ _
        rw [← hwb, ← hbo]
        have HBB := Lib.hid hbb; have HBO := Lib.hid hbo2
        have HSB := Lib.hid (HSA.out.far hbb)
        have HB1B := Lib.hid (HBSA.out.past hbb HBSA.out.lt)
        have m1 : wb.cell? ⟨b1, 0, none⟩ = some (.pointer (some ⟨S, 0, none⟩)) := HB1B.out.cell 0
        have n3 : wb.cell? ⟨S, 3, none⟩ = some (.int .i64 (s.epoch : Int)) := HSB.out.blk.cell 3
        have n2 : wb.cell? ⟨S, 2, none⟩ = some (.int .i64 (s.area : Int)) := HSB.out.blk.cell 2
        have f3 := HSB.out.blk.froz 3; have f2 := HSB.out.blk.froz 2
        clear hwb hbo hbb hbo2 m2 m3 m4 n4
        go_upto_region 22 with fail
        go_region
        obtain ⟨wd, hwd⟩ : ∃ z, z = ((wb.setCell ⟨S, 3, none⟩ (.int .i64 ((s.epoch : Int) + 1))).setCell ⟨S, 2, none⟩ (.int .i64 (ar : Int))).drew := ⟨_, rfl⟩
        rw [HAR.out, ← hwd]
        have hkd : KeepL [S] wb wd := by rw [hwd]; exact ((KeepL.set _ _ _ _).trans (KeepL.set _ _ _ _)).trans (.of_below (below_drew8 _ _))
        have HSD : Hid (Bk wd S #[.pointer (some ⟨D, 0, none⟩), .int .i64 s.age, .int .i64 (ar : Int), .int .i64 ((s.epoch : Int) + 1), .pointer (some ⟨T, 0, none⟩)] 56) := Lib.hid (by rw [hwd]; exact bkD ((HSB.out.blk.set 3 (.int .i64 ((s.epoch : Int) + 1))).set 2 (.int .i64 (ar : Int))))
        have hno : ∀ b cs t, Bk wb b cs t → t ≠ 56 → b ∉ [S] := fun b cs t hb ht => by
          simp only [List.mem_singleton]
          exact hb.ne HSB.out.blk ht
        have HB1D := Lib.hid (HB1B.out.keepL hkd (hno _ _ _ HB1B.out (by decide)))
        have HBOD := Lib.hid (HBO.out.keepL hkd (hno _ _ _ HBO.out (by decide)))
        have HBLD := Lib.hid ((HL1.out.past HBB.out HL1.out.lt).keepL hkd (hno _ _ _ (HL1.out.past HBB.out HL1.out.lt) (by decide)))
        have HKD := Lib.hid hkd; have HNO := Lib.hid hno
        have m1 : wd.cell? ⟨b1, 0, none⟩ = some (.pointer (some ⟨S, 0, none⟩)) := HB1D.out.cell 0
        have n2 : wd.cell? ⟨S, 2, none⟩ = some (.int .i64 (ar : Int)) := HSD.out.cell 2
        have n4 : wd.cell? ⟨S, 4, none⟩ = some (.pointer (some ⟨T, 0, none⟩)) := HSD.out.cell 4
        have f4 := HSD.out.froz 4
        have hSd := HSD.out.lt
        have HSC := Lib.hid (And.intro m1 n2)
        clear hwd hkd hno f3 f2
        have qm : IntKind.i64.wrap ((ar : Int) * (hh : Int)) = (pl : Int) := by rw [HQM.out]; simp [IntKind.wrap, IntKind.bits, IntKind.signed]; omega
        go_upto_region 23 with fail
        refine wp_region_noPanic ?_
        refine wp_region_held_drew (S := (fun W => W.cell? ⟨b1, 0, none⟩ = some (.pointer (some ⟨S, 0, none⟩)) ∧ W.cell? ⟨S, 2, none⟩ = some (.int .i64 (ar : Int)))) (by kernel_rfl) ?_ (fun hHeld => ?_)
        · (try dsimp only); first | exact HSC.out | exact ⟨(bkA HB1D.out).cell 0, (bkA HSD.out).cell 2⟩ | exact ⟨(bkA (bkD HB1D.out)).cell 0, (bkA (bkD HSD.out)).cell 2⟩ | exact ⟨(bkA (HB1D.out.keepL (KeepL.set wd S 4 (.pointer (some ⟨wd.heap.size, 0, none⟩))) (by simp only [List.mem_singleton]; exact HB1D.out.ne HSD.out (by decide)))).cell 0, (bkA (HSD.out.set 4 (.pointer (some ⟨wd.heap.size, 0, none⟩)))).cell 2⟩
        refine wpAnyH_take (i := 0) (oi := ⟨some 106, _, _, _, _, _⟩) (v := ?_) rfl (by kernel_rfl) (by kernel_rfl) (by kernel_rfl) (fun _ _ _ h => h) (Or.inl ⟨by rfl, ?_⟩) (by assumption) ?_
        rotate_left
        · (intro w hSw; (try dsimp only at hSw); go_simp; try with_reducible rfl)
        try simp only [Act.put, List.setIfInBounds_toArray, List.set_cons_zero, List.set_cons_succ]
        refine wpAnyH_take (i := 1) (oi := ⟨some 107, _, _, _, _, _⟩) (v := ?_) rfl (by kernel_rfl) (by kernel_rfl) (by kernel_rfl) (fun _ _ _ h => h) (Or.inl ⟨by rfl, ?_⟩) (by assumption) ?_
        rotate_left
        · (intro w hSw; (try dsimp only at hSw); go_simp; try with_reducible rfl)
        try simp only [Act.put, List.setIfInBounds_toArray, List.set_cons_zero, List.set_cons_succ]
        refine wpAnyH_take (i := 2) (oi := ⟨some 108, _, _, _, _, _⟩) (v := ?_) rfl (by kernel_rfl) (by kernel_rfl) (by kernel_rfl) (fun _ _ _ h => h) (Or.inl ⟨by rfl, ?_⟩) (by assumption) ?_
        rotate_left
        · (intro w hSw; (try dsimp only at hSw); go_simp; try with_reducible rfl)
        try simp only [Act.put, List.setIfInBounds_toArray, List.set_cons_zero, List.set_cons_succ]
        refine wpAnyH_take (i := 3) (oi := ⟨some 109, _, _, _, _, _⟩) (v := ?_) rfl (by kernel_rfl) (by kernel_rfl) (by kernel_rfl) (fun _ _ _ h => h) (Or.inl ⟨by rfl, ?_⟩) (by assumption) ?_
        rotate_left
        · (intro w hSw; (try dsimp only at hSw); go_simp; try with_reducible rfl)
        try simp only [Act.put, List.setIfInBounds_toArray, List.set_cons_zero, List.set_cons_succ]
        refine wpAnyH_take (i := 4) (oi := ⟨some 110, _, _, _, _, _⟩) (v := ?_) rfl (by kernel_rfl) (by kernel_rfl) (by kernel_rfl) (fun _ _ _ h => h) (Or.inl ⟨by rfl, ?_⟩) (by assumption) ?_
        rotate_left
        · (intro w hSw; (try dsimp only at hSw); go_simp; try with_reducible rfl)
        try simp only [Act.put, List.setIfInBounds_toArray, List.set_cons_zero, List.set_cons_succ]
        refine wpAnyH_take (i := 5) (oi := ⟨some 111, _, _, _, _, _⟩) (v := ?_) rfl (by kernel_rfl) (by kernel_rfl) (by kernel_rfl) (fun _ _ _ h => h) (Or.inl ⟨by rfl, ?_⟩) (by assumption) ?_
        rotate_left
        · (intro w hSw; (try dsimp only at hSw); go_simp; try with_reducible rfl)
        try simp only [Act.put, List.setIfInBounds_toArray, List.set_cons_zero, List.set_cons_succ]
        refine wpAnyH_take (i := 6) (oi := ⟨some 112, _, _, _, _, _⟩) (v := ?_) rfl (by kernel_rfl) (by kernel_rfl) (by kernel_rfl) (fun _ _ _ h => h) (Or.inl ⟨by rfl, ?_⟩) (by assumption) ?_
        rotate_left
        · (intro w hSw; (try dsimp only at hSw); go_simp; try with_reducible rfl)
        try simp only [Act.put, List.setIfInBounds_toArray, List.set_cons_zero, List.set_cons_succ]
        refine wpAnyH_take (i := 7) (oi := ⟨some 113, _, _, _, _, _⟩) (v := ?_) rfl (by kernel_rfl) (by kernel_rfl) (by kernel_rfl) (fun _ _ _ h => h) (Or.inl ⟨by rfl, ?_⟩) (by assumption) ?_
        rotate_left
        · (intro w hSw; (try dsimp only at hSw); go_simp; try with_reducible rfl)
        try simp only [Act.put, List.setIfInBounds_toArray, List.set_cons_zero, List.set_cons_succ]
        refine wpAnyH_ready (rs := [8]) (by kernel_rfl) (by simp) ?_
        refine AllReadyH.cons (o := ⟨some 114, _, _, _, _, _⟩) rfl (fun K hK => ?_) AllReadyH.nil
        go_simp
        refine hK.out _ _ ?_ (fun hHeld => ?_)
        · (try dsimp only); first | exact HSC.out | exact ⟨(bkA HB1D.out).cell 0, (bkA HSD.out).cell 2⟩ | exact ⟨(bkA (bkD HB1D.out)).cell 0, (bkA (bkD HSD.out)).cell 2⟩ | exact ⟨(bkA (HB1D.out.keepL (KeepL.set wd S 4 (.pointer (some ⟨wd.heap.size, 0, none⟩))) (by simp only [List.mem_singleton]; exact HB1D.out.ne HSD.out (by decide)))).cell 0, (bkA (HSD.out.set 4 (.pointer (some ⟨wd.heap.size, 0, none⟩)))).cell 2⟩
        clear hK K
        try simp only [Act.put, List.setIfInBounds_toArray, List.set_cons_zero, List.set_cons_succ]
        refine wpAnyH_take (i := 9) (oi := ⟨some 115, _, _, _, _, _⟩) (v := ?_) rfl (by kernel_rfl) (by kernel_rfl) (by kernel_rfl) (fun _ _ _ h => h) (Or.inl ⟨by rfl, ?_⟩) (by assumption) ?_
        rotate_left
        · (intro w hSw; (try dsimp only at hSw); go_simp; try with_reducible rfl)
        try simp only [Act.put, List.setIfInBounds_toArray, List.set_cons_zero, List.set_cons_succ]
        refine wpAnyH_take (i := 10) (oi := ⟨some 116, _, _, _, _, _⟩) (v := ?_) rfl (by kernel_rfl) (by kernel_rfl) (by kernel_rfl) (fun _ _ _ h => h) (Or.inl ⟨by rfl, ?_⟩) (by assumption) ?_
        rotate_left
        · (intro w hSw; (try dsimp only at hSw); go_simp; try with_reducible rfl)
        try simp only [Act.put, List.setIfInBounds_toArray, List.set_cons_zero, List.set_cons_succ]
        refine wpAnyH_ready (rs := [11]) (by kernel_rfl) (by simp) ?_
        refine AllReadyH.cons (o := ⟨none, _, _, _, _, _⟩) rfl (fun K hK => ?_) AllReadyH.nil
        go_simp
        refine hK.out _ _ ?_ (fun hHeld => ?_)
        · (try dsimp only); first | exact HSC.out | exact ⟨(bkA HB1D.out).cell 0, (bkA HSD.out).cell 2⟩ | exact ⟨(bkA (bkD HB1D.out)).cell 0, (bkA (bkD HSD.out)).cell 2⟩ | exact ⟨(bkA (HB1D.out.keepL (KeepL.set wd S 4 (.pointer (some ⟨wd.heap.size, 0, none⟩))) (by simp only [List.mem_singleton]; exact HB1D.out.ne HSD.out (by decide)))).cell 0, (bkA (HSD.out.set 4 (.pointer (some ⟨wd.heap.size, 0, none⟩)))).cell 2⟩
        clear hK K
        try simp only [Act.put]
        refine wpAnyH_done (by kernel_rfl) ?_ _
        refine NoPanic.normal ?_
        obtain ⟨we, hwe⟩ : ∃ z, z = ((wd.setCell ⟨S, 4, none⟩ (.pointer (some ⟨wd.heap.size, 0, none⟩))).alloc (.cells #[.slice none 0 0, .int .i64 0, .bool false, .int .i64 0, .int .i64 0, .int .i64 (pl : Int), .int .i64 0, .int .i64 0, .int .i64 0, .int .i64 0, .int .i64 0, .slice none 0 0] 62)).drew := ⟨_, rfl⟩
        have hke : KeepL [S] wd we := by rw [hwe]; exact ((KeepL.set _ _ _ _).trans (.alloc _ _ _)).trans (.of_below (below_drew8 _ _))
        have hse : Bk we S #[.pointer (some ⟨D, 0, none⟩), .int .i64 s.age, .int .i64 (ar : Int), .int .i64 ((s.epoch : Int) + 1), .pointer (some ⟨wd.heap.size, 0, none⟩)] 56 := by rw [hwe]; exact bkD (bkA (HSD.out.set 4 (.pointer (some ⟨wd.heap.size, 0, none⟩))))
        have hte : Bk we wd.heap.size (stC (.slice none 0 0) (Jn.zero pl) none 0) 62 := by rw [hwe]; exact bkD (bkNs _ _ _ _ _)
        have HKE : Hid (KeepL [S] wb we) := Lib.hid (HKD.out.trans hke)
        have HTL : Hid (wb.heap.size ≤ wd.heap.size) := Lib.hid HKD.out.size
        have HSTE : Hid (StAt we S D ⟨s.age, ar, s.epoch + 1, Jn.zero pl⟩ wd.heap.size (.slice none 0 0) [] none 0) := Lib.hid
          ⟨hse, ⟨⟨by simp [Jn.zero], by show pl ≤ 1000; omega, rc0_ok, by show 0 < _; omega⟩, hte, World.ownsRow_nil _ _ _ _, fun i x k hx => by simp at hx, World.ownsRow_nil _ _ _ _, by simp⟩, ⟨har1, hae, JrI.zero pl⟩⟩
        have x1 := HB1B.out.keepL HKE.out (HNO.out _ _ _ HB1B.out (by decide))
        have xo := HBO.out.keepL HKE.out (HNO.out _ _ _ HBO.out (by decide))
        have hblb := HL1.out.past HBB.out HL1.out.lt
        have xl := hblb.keepL HKE.out (HNO.out _ _ _ hblb (by decide))
        have xT := HSB.out.js.blk.keepL HKE.out (HNO.out _ _ _ HSB.out.js.blk (by decide))
        have HDE : Hid (DkAt we D d bs bm cp p) := Lib.hid ((HDA.out.far HBB.out).keepT HKE.out fun b hb => by
          rw [List.mem_singleton] at hb; subst hb
          exact ⟨_, _, HSB.out.blk, by decide, by decide, by decide, by decide⟩)
        have HRE := Lib.hid ((HL2.out.far HBB.out).keepL HKE.out (fun b cs t hb ht => HNO.out _ _ _ hb (by rcases ht with rfl | rfl <;> decide)))
        rw [HXF.out] at HRE
        have HX1 := Lib.hid x1; have HXO := Lib.hid xo; have HXL := Lib.hid xl; have HXT := Lib.hid xT
        rw [← hwe]
        clear hwe hke hse hte x1 xo xl xT hblb m1 n2 n3 n4 f4 qm HSC HB1D HBOD HBLD HKD HSD
        have HCM : Hid (CmOK d ⟨s.age, ar, s.epoch + 1, Jn.zero pl⟩ (cptL s.j.keys)) := Lib.hid ⟨HU.out.1.u.age0, by have := HU.out.1.u.age; have := HXN.out; omega, cptL_good HU.out.1.w (s.epoch + 1) (by omega) hae, by show pl + _ ≤ _; have := HXN.out; have := HH.out; omega⟩
        have hba := balloc we (.cells #[.int .i64 0] 23)
        have HCL := Lib.hid (compact1_any (HDE.out.far hba) (⟨_, _, _, _, _, HSTE.out.far hba, rfl, rfl⟩ : StIn _ S D _ _ _) (cptL s.j.keys) lv _ (HRE.out.far hba) HCM.out HU.out.2.1 s.j.last s.j.side HU.out.1.w.last HU.out.2.2 (by show pl + _ < _; have := HXN.out; have := HH.out; omega) (by have := HU.out.1.u.age; have := HXN.out; omega) (by show 1 ≤ s.epoch + 1; omega)
          bl b1 bo T _ (bkA HXL.out) (bkA HX1.out) (bkA HXO.out) (bkA HXT.out) rfl rfl (fun hm => by
            simp only [fpJ, ob, Value.ownBlock, List.mem_cons, List.flatMap_nil, List.append_nil, Option.toList_none, List.not_mem_nil, or_false] at hm
            rcases hm with h | h
            · exact HXT.out.ne HSTE.out.blk (by decide) h
            · have := HSB.out.js.blk.lt; have := HTL.out; omega))
        obtain ⟨q0, hq0⟩ : ∃ z, z = cpt8 d ⟨s.age, ar, s.epoch + 1, Jn.zero pl⟩ (cptL s.j.keys) s.j.last s.j.side := ⟨_, rfl⟩
        rw [← hq0] at HCL HQ3
        clear hq0 hba
        have HGD := Lib.hid (guard_any (w := we) (K := 37) (caps := #[.pointer (some ⟨bl, 0, none⟩), .pointer (some ⟨b1, 0, none⟩), .pointer (some ⟨bo, 0, none⟩)]) (fun W => enters_of Try.func37 (by kernel_rfl) rfl _ W) HCL.out (fun e w2 hr => ⟨hr.2.2.2 _ _ _ (Bk.new we _ _) (by decide), by
          cases hq : q0.1 with
          | true => exact .inr (hr.1 hq)
          | false => exact .inl ⟨0, hr.2.1 hq⟩⟩))
        have hmf : ∀ (fn : Fn) (first cap : Array Value) (w : World), (Instr.makeFunc fn first cap).run Try.prog w = .ok (.func fn first cap) w := fun _ _ _ _ => rfl
        have HKW : Hid (KeepL (fpL D bs bm p ++ F) w we) := Lib.hid ((KeepL.of_below (bnextK HBW.out HBB.out)).trans (HKE.out.sub (fun k hk => by rw [List.mem_singleton] at hk; subst hk; rw [HFE.out]; simp)))
        have HBM : Hid (bm < w.heap.size) := Lib.hid (by obtain ⟨l, hl⟩ := HD.out.cch; exact hl.lt)
        have HME : Hid (Marks8 w3.heap.size ds we) := Lib.hid ((HMA.out.keep (fun k o ho _ => (HBB.out.block k (Array.getElem?_eq_some_iff.1 ho).1).trans ho)).keepF (Nat.zero_le _) (keepsFrom_L 0 HKE.out (fun k hk => by rw [List.mem_singleton] at hk; subst hk; exact ⟨_, _, HSB.out.blk⟩)))
        clear HCL hSd hS
        go_wp2_with fail
        refine HGD.out.mono ?_
        rintro e w5 ⟨e4, w4', hr4, rfl, hk5⟩
        have hfin := cpt_fin (F := F) (B := B) HDE.out (⟨_, _, _, _, _, HSTE.out, rfl, rfl⟩ : StIn we S D _ _ _) HKW.out HD.out.fpLt (fun k hk => by
            simp only [fpJ, ob, Value.ownBlock, List.mem_cons, List.flatMap_nil, List.append_nil, Option.toList_none, List.not_mem_nil, or_false] at hk
            rcases hk with rfl | rfl
            · exact .inl (by rw [HFE.out]; simp)
            · exact .inr (Nat.le_trans HBW.out.size (Nat.le_trans HBB.out.size HTL.out))) (fun k hk => by simp [obT, ob, Value.ownBlock] at hk) HL3.out hr4 hk5
        have HCO : Hid (CoP D S bs bm cp p F B [] q w (.returned (.int .i64 (endI e4))) w5) := Lib.hid (by rw [HQ3.out, hfin.1]; exact ⟨rfl, hfin.2.1⟩)
        have HM5 : Hid (Marks8 w3.heap.size ds w5) := Lib.hid (HME.out.keepF HB3.out.size hfin.2.2)
        clear hfin hr4 hk5 HGD
        go_wp2_with fail
        refine leaves8 (n₀ := w3.heap.size) (I := fun W' => CoP D S bs bm cp p F B [] q w (.returned (.int .i64 (endI e4))) W') (fun W' D2 o h h0 ho hc o' => ⟨h.1, h.2.iter HBM.out (grownBy_putObj' W' D2 o') (fun r e => by cases e; exact ⟨Nat.le_trans HB3.out.size h0, o, ho, hc⟩)⟩) _ _ HM5.out HCO.out (fun W' hs' => ?_)
        refine ⟨_, results_tmp rfl _ _ _, ?_⟩
        exact hs'
      | succ r =>
        have hki : (i : Int) < (kn : Int) := by omega
        have hil : i < s.j.keys.length := by have := HKN.out; omega
        have HSA : Hid (StAt wa S D s T kv xs' tb tc) := Lib.hid ⟨HKA.out.bk _ _ _ HST3.out.blk (by decide) (by decide) (by decide) (by decide) (fun e => absurd e (by decide)), HST3.out.js.kp HKA.out, HST3.out.ok⟩
        obtain ⟨kg, kc', x, k, hkv, hcap, hx, hkk, ci, hat⟩ := HSA.out.js.ptr hil
        rw [HKV.out] at hkv
        injection hkv with hkv1 _ hkv2
        subst hkv1
        subst hkv2
        have HAT := Lib.hid hat; have HKK := Lib.hid hkk
        unfold KB.pv at ci
        have hlen : k.used.length ≤ 1000 := hat.big
        have HW := Lib.hid (HU.out.1.w.key k (List.mem_of_getElem? hkk))
        have HSU := Lib.hid (cptL_succ hkk)
        obtain ⟨su, hsu⟩ := hat.used
        have HUS := Lib.hid hsu
        obtain ⟨sb, hsb⟩ := hat.bits
        have HBT := Lib.hid hsb
        clear hx hkk hat hcap hsu hsb
        go_upto_region 10 with fail
        obtain ⟨W2, hW2⟩ : ∃ z, z = wa.alloc (.cells #[.pointer (some ⟨x.kb, 0, none⟩)] 66) := ⟨_, rfl⟩
        obtain ⟨bk, hbk⟩ : ∃ z, z = wa.heap.size := ⟨_, rfl⟩
        have hb2 : Below wa.heap.size wa W2 := by rw [hW2]; exact balloc _ _
        have hk2 : Bk W2 bk #[.pointer (some ⟨x.kb, 0, none⟩)] 66 := by rw [hW2, hbk]; exact Bk.new _ _ _
        rw [← hW2, ← hbk]
        have HB2 := Lib.hid hb2; have HBK := Lib.hid hk2
        have l1 : W2.cell? ⟨bk, 0, none⟩ = some (.pointer (some ⟨x.kb, 0, none⟩)) := hk2.cell 0
        have l2 : W2.cell? ⟨x.kb, 2, none⟩ = some (.slice (some ⟨x.ub, 0, none⟩) k.used.length x.cu) := (HAT.out.blk.past hb2 HAT.out.blk.lt).cell 2
        have HCT := Lib.hid (contB_any (some ⟨x.ub, 0, none⟩) k.used.length x.cu k.used false W2 (by omega) (rd_row (HUS.out.past hb2 HUS.out.lt)))
        clear hW2 hbk hb2 hk2 ci
        go_wp2_with fail
        refine HCT.out.mono ?_
        rintro e W3 ⟨rfl, hq3⟩
        have HB3' := Lib.hid (bnextK HB2.out (hq3.below _))
        have HB3B := Lib.hid (HBK.out.past (hq3.below _) HBK.out.lt)
        have HC3 := Lib.hid (HCA.out.far HB3'.out)
        have HK3 := Lib.hid (HKA.out.trans (KpS.of_below HB3'.out))
        have HM3 : Hid (Marks8 w3.heap.size ds W3) := Lib.hid (HMA.out.keep (fun k o ho _ => (HB3'.out.block k (Array.getElem?_eq_some_iff.1 ho).1).trans ho))
        clear hq3 l1 l2 HCT HMA HCA
        by_cases hin : false ∈ k.used
        · have HCK : Hid (cptK k = recsK k.id k.bits ++ (runsL k.used true 0 k.used.length).map (runR k.id)) := Lib.hid (by unfold cptK; rw [if_pos hin])
          have hdec : decide (false ∈ k.used) = true := by simpa using hin
          rw [hdec]
          clear hin hdec
          obtain ⟨v, hv1, hv2, hv3, hv4⟩ := HC3.out
          obtain ⟨vA, vc, hv, _⟩ := own_form hv2
          subst hv
          have HKB := Lib.hid (HAT.out.blk.past HB3'.out HAT.out.blk.lt)
          have hlb : k.bits.length = k.used.length := HAT.out.len
          have HS3 := Lib.hid (sc_cells HB3B.out HKB.out hlb)
          have l3 : W3.cell? ⟨bl, 0, none⟩ = some (.slice vA xs.length vc) := hv1.cell 0
          have HW3 : Hid (w.heap.size ≤ W3.heap.size) := Lib.hid hv4.size
          have HCS : Hid (∀ W, Below W3.heap.size W3 W → Bk W bl #[.slice vA xs.length vc] 71 ∧ W.ownsRow w.heap.size 60 6 (.slice vA xs.length vc) xs.length (rcsC xs) ∧ (∀ x ∈ xs, W.ownsRow w.heap.size 5 1 (.slice x.2.1 x.1.bits.length x.2.2) x.1.bits.length (secC x.1.bits)) ∧ Below w.heap.size w W) := Lib.hid fun W hW => ⟨hv1.past hW hv1.lt, ownsRow_past8 hv2 hW, fun x hx => ownsRow_past8 (hv3 x hx) hW, bnextK hv4 hW⟩
          have HRC := Lib.hid (records_any k.id k.used.length (some ⟨x.bb, 0, none⟩) x.cb k.bits W3.drew hlb HW.out.2.2.2.1 HW.out.2.2.2.2 (by have := HAT.out.capb; omega) (by have := HU.out.1.w.last; have := HW.out.2.1; omega) (rd_row (HBT.out.past (bnextK HB3'.out (below_drew8 _ _)) HBT.out.lt) hlb))
          have hxl : xs.length ≤ 1003002 := by
            have h1 := congrArg List.length HXS.out
            have h2 := cptL_len (keys := s.j.keys.take i) (fun y hy => by have := HU.out.1.w.key y (List.mem_of_mem_take hy); omega)
            rw [List.length_map] at h1
            have h3 : (s.j.keys.take i).length ≤ 1001 := by rw [List.length_take]; have := HKN.out; omega
            have h4 : (s.j.keys.take i).length * 1002 ≤ 1001 * 1002 := Nat.mul_le_mul_right _ h3
            omega
          have hrl : (recsK k.id k.bits).length ≤ 2 := by unfold recsK; split <;> simp
          clear hv1 hv2 hv3 hv4
          go_upto_region 11 with fail
          refine wp_region_noPanic ?_
          refine wp_region_held_drew (S := (fun W => W.cell? ⟨bk, 0, none⟩ = some (.pointer (some ⟨x.kb, 0, none⟩)) ∧ W.cell? ⟨x.kb, 0, none⟩ = some (.int .i64 (k.id : Int)) ∧ W.cell? ⟨x.kb, 1, none⟩ = some (.slice (some ⟨x.bb, 0, none⟩) k.used.length x.cb))) (by kernel_rfl) ?_ (fun hHeld => ?_)
          · (try dsimp only); first | exact HS3.out | exact HS4.out | exact HS5.out | exact HS6.out
          refine wpAnyH_take (i := 1) (oi := ⟨some 40, _, _, _, _, _⟩) (v := ?_) rfl (by kernel_rfl) (by kernel_rfl) (by kernel_rfl) (fun _ _ _ h => h) (Or.inl ⟨by rfl, ?_⟩) (by assumption) ?_
          rotate_left
          · (intro w hSw; (try dsimp only at hSw); go_simp; try with_reducible rfl)
          try simp only [Act.put, List.setIfInBounds_toArray, List.set_cons_zero, List.set_cons_succ]
          refine wpAnyH_take (i := 2) (oi := ⟨some 41, _, _, _, _, _⟩) (v := ?_) rfl (by kernel_rfl) (by kernel_rfl) (by kernel_rfl) (fun _ _ _ h => h) (Or.inl ⟨by rfl, ?_⟩) (by assumption) ?_
          rotate_left
          · (intro w hSw; (try dsimp only at hSw); go_simp; try with_reducible rfl)
          try simp only [Act.put, List.setIfInBounds_toArray, List.set_cons_zero, List.set_cons_succ]
          refine wpAnyH_take (i := 3) (oi := ⟨some 42, _, _, _, _, _⟩) (v := ?_) rfl (by kernel_rfl) (by kernel_rfl) (by kernel_rfl) (fun _ _ _ h => h) (Or.inl ⟨by rfl, ?_⟩) (by assumption) ?_
          rotate_left
          · (intro w hSw; (try dsimp only at hSw); go_simp; try with_reducible rfl)
          try simp only [Act.put, List.setIfInBounds_toArray, List.set_cons_zero, List.set_cons_succ]
          refine wpAnyH_take (i := 4) (oi := ⟨some 43, _, _, _, _, _⟩) (v := ?_) rfl (by kernel_rfl) (by kernel_rfl) (by kernel_rfl) (fun _ _ _ h => h) (Or.inl ⟨by rfl, ?_⟩) (by assumption) ?_
          rotate_left
          · (intro w hSw; (try dsimp only at hSw); go_simp; try with_reducible rfl)
          try simp only [Act.put, List.setIfInBounds_toArray, List.set_cons_zero, List.set_cons_succ]
          refine wpAnyH_take (i := 5) (oi := ⟨some 44, _, _, _, _, _⟩) (v := ?_) rfl (by kernel_rfl) (by kernel_rfl) (by kernel_rfl) (fun _ _ _ h => h) (Or.inl ⟨by rfl, ?_⟩) (by assumption) ?_
          rotate_left
          · (intro w hSw; (try dsimp only at hSw); go_simp; try with_reducible rfl)
          try simp only [Act.put, List.setIfInBounds_toArray, List.set_cons_zero, List.set_cons_succ]
          refine wpAnyH_take (i := 6) (oi := ⟨some 45, _, _, _, _, _⟩) (v := ?_) rfl (by kernel_rfl) (by kernel_rfl) (by kernel_rfl) (fun _ _ _ h => h) (Or.inl ⟨by rfl, ?_⟩) (by assumption) ?_
          rotate_left
          · (intro w hSw; (try dsimp only at hSw); go_simp; try with_reducible rfl)
          try simp only [Act.put, List.setIfInBounds_toArray, List.set_cons_zero, List.set_cons_succ]
          refine wpAnyH_take (i := 7) (oi := ⟨some 46, _, _, _, _, _⟩) (v := ?_) rfl (by kernel_rfl) (by kernel_rfl) (by kernel_rfl) (fun _ _ _ h => h) (Or.inl ⟨by rfl, ?_⟩) (by assumption) ?_
          rotate_left
          · (intro w hSw; (try dsimp only at hSw); go_simp; try with_reducible rfl)
          try simp only [Act.put, List.setIfInBounds_toArray, List.set_cons_zero, List.set_cons_succ]
          refine wpAnyH_take (i := 8) (oi := ⟨some 47, _, _, _, _, _⟩) (v := ?_) rfl (by kernel_rfl) (by kernel_rfl) (by kernel_rfl) (fun _ _ _ h => h) (Or.inl ⟨by rfl, ?_⟩) (by assumption) ?_
          rotate_left
          · (intro w hSw; (try dsimp only at hSw); go_simp; try with_reducible rfl)
          try simp only [Act.put, List.setIfInBounds_toArray, List.set_cons_zero, List.set_cons_succ]
          refine wpAnyH_ready (rs := [0, 9]) (by kernel_rfl) (by simp) ?_
          refine AllReadyH.cons (o := ⟨some 39, _, _, _, _, _⟩) rfl (fun K hK => ?_) ?_
          · skip
            go_simp
            refine hK.out _ _ ?_ (fun hHeld => ?_)
            · (try dsimp only); first | exact HS3.out | exact HS4.out | exact HS5.out | exact HS6.out
            clear hK K
            try simp only [Act.put, List.setIfInBounds_toArray, List.set_cons_zero, List.set_cons_succ]
            refine wpAnyH_ready (rs := [9]) (by kernel_rfl) (by simp) ?_
            refine AllReadyH.cons (o := ⟨some 48, _, _, _, _, _⟩) rfl (fun K hK => ?_) AllReadyH.nil
            go_simp
            refine HRC.out.mono ?_
            rintro e' w4 ⟨v', X4, rfl, hra, hX, hb4⟩
            obtain ⟨ys, yA, yc, rfl, hys, hrd, hyb⟩ := hra.list
            have HB4 : Hid (Below W3.heap.size W3 w4) := Lib.hid (bnextK (below_drew8 W3 _) hb4)
            have HBK4 := Lib.hid (HB3B.out.past HB4.out HB3B.out.lt); have HKB4 := Lib.hid (HKB.out.past HB4.out HKB.out.lt)
            have HS4 := Lib.hid (sc_cells HBK4.out HKB4.out hlb)
            have HYS := Lib.hid hys; have HRD := Lib.hid hrd
            have HYB : Hid (∀ y ∈ ys, w4.ownsRow w.heap.size 5 1 (.slice y.2.1 y.1.bits.length y.2.2) y.1.bits.length (secC y.1.bits)) := Lib.hid fun y hy => byt_new (hyb y hy).1 (fun k hk => Nat.le_trans HW3.out (Nat.le_trans (below_drew8 W3 W3.heap.size).size (hX k ((hyb y hy).2 k hk))))
            have HC4 := Lib.hid (HCS.out w4 HB4.out)
            have l4 := HC4.out.1.cell 0
            have hs4 : w.heap.size ≤ w4.heap.size := Nat.le_trans HW3.out HB4.out.size
            have hyl : ys.length = (recsK k.id k.bits).length := by rw [← HYS.out, List.length_map]
            have hyl2 : ys.length ≤ 2 := by rw [hyl]; unfold recsK; split <;> simp
            clear hb4 hra hys hrd hyb hX
            go_wp2_with fail
            refine hK.out _ _ ?_ (fun hHeld => ?_)
            · (try dsimp only); first | exact HS3.out | exact HS4.out | exact HS5.out | exact HS6.out
            clear hK K
            try simp only [Act.put, List.setIfInBounds_toArray, List.set_cons_zero, List.set_cons_succ]
            refine wpAnyH_ready (rs := [10]) (by kernel_rfl) (by simp) ?_
            refine AllReadyH.cons (o := ⟨some 49, _, _, _, _, _⟩) rfl (fun K hK => ?_) AllReadyH.nil
            refine step_append_rd _ rfl (.tmp 39) (.tmp 48) _ (by rfl) w.heap.size 60 i0 _ 6 64 Try.underlying71 HI0.out HZ0.out HZ1.out HZ2.out rfl (by decide) _ xs.length _ (by rfl) HC4.out.2.1 _ yA (recsK k.id k.bits).length yc _ (by rfl) HRD.out (fun u hu => rcsC_one u hu) (by unfold maxLen; omega) (by omega) hs4 ?_
            intro v9 w5 ho5 hg5
            obtain ⟨A9, d9, rfl, _⟩ := own_form ho5
            have HO5 := Lib.hid ho5; have HG5 := Lib.hid hg5
            have HL5 := Lib.hid (HC4.out.1.keepL (keepL_grown hg5) (nob_ty HC4.out.2.1 HC4.out.1 (by decide)))
            have l5 := HL5.out.cell 0; have lf5 := HL5.out.froz 0
            have HBK5 := Lib.hid (HBK4.out.keepL (keepL_grown HG5.out) (nob_ty HC4.out.2.1 HBK4.out (by decide))); have HKB5 := Lib.hid (HKB4.out.keepL (keepL_grown HG5.out) (nob_ty HC4.out.2.1 HKB4.out (by decide)))
            have HS5 := Lib.hid (sc_cells HBK5.out HKB5.out hlb)
            have HS6 := Lib.hid (sc_cells (HBK5.out.keepL (KeepL.set w5 bl 0 (.slice A9 (xs.length + (recsK k.id k.bits).length) d9)) (by simp only [List.mem_singleton]; exact HBK5.out.ne HL5.out (by decide))) (HKB5.out.keepL (KeepL.set w5 bl 0 (.slice A9 (xs.length + (recsK k.id k.bits).length) d9)) (by simp only [List.mem_singleton]; exact HKB5.out.ne HL5.out (by decide))) hlb)
            clear ho5 hg5
            refine hK.out _ _ ?_ (fun hHeld => ?_)
            · (try dsimp only); first | exact HS3.out | exact HS4.out | exact HS5.out | exact HS6.out
            clear hK K
            try simp only [Act.put, List.setIfInBounds_toArray, List.set_cons_zero, List.set_cons_succ]
            refine wpAnyH_ready (rs := [11]) (by kernel_rfl) (by simp) ?_
            refine AllReadyH.cons (o := ⟨none, _, _, _, _, _⟩) rfl (fun K hK => ?_) AllReadyH.nil
            go_simp
            refine hK.out _ _ ?_ (fun hHeld => ?_)
            · (try dsimp only); first | exact HS3.out | exact HS4.out | exact HS5.out | exact HS6.out
            clear hK K
            try simp only [Act.put]
            refine wpAnyH_done (by kernel_rfl) ?_ _
            refine NoPanic.normal ?_
            have HAPP := Lib.hid (cps_app HC4.out.1 HC4.out.2.1 HC4.out.2.2.1 HC4.out.2.2.2 HYB.out (by rw [hyl]; exact HO5.out) HG5.out HBLE.out)
            generalize w5.setCell ⟨bl, 0, none⟩ _ = w6 at HAPP ⊢
            have HYS6 : Hid ((xs ++ ys).map (·.1) = cptL (s.j.keys.take i) ++ recsK k.id k.bits) := Lib.hid (by rw [List.map_append, HXS.out, HYS.out])
            have HK6 : Hid (KpS [] w3 w6) := Lib.hid (HK3.out.trans ((KpS.of_below HB4.out).trans HAPP.out.2.1))
            have HM6 : Hid (Marks8 w3.heap.size ds w6) := Lib.hid ((HM3.out.keep (fun k o ho _ => (HB4.out.block k (Array.getElem?_eq_some_iff.1 ho).1).trans ho)).keepF (Nat.zero_le _) HAPP.out.2.2)
            have HC6 : Hid (CpS w bl (xs ++ ys) w6) := Lib.hid HAPP.out.1
            have HKB6 := Lib.hid (HAPP.out.2.1.bk _ _ _ HKB4.out (by decide) (by decide) (by decide) (by decide) (fun e => absurd e (by decide)))
            have HUS6 := Lib.hid (HAPP.out.2.1.bk _ _ _ (HUS.out.past (bnextK HB3'.out HB4.out) HUS.out.lt) (by decide) (by decide) (by decide) (by decide) (fun e => absurd e (by decide)))
            have HBK6 : Hid (Bk w6 bk #[.pointer (some ⟨x.kb, 0, none⟩)] 66) := Lib.hid (HAPP.out.2.1.bk _ _ _ HBK4.out (by decide) (by decide) (by decide) (by decide) (fun e => absurd e (by decide)))
            clear HAPP HC4 HO5 HG5 HL5 HS5 HS4 HYB HRD HRC HCS HM3 HK3 l5 lf5 HS3 HS6 HBK5 HKB5 l4 l3 HBK4 HKB4
            obtain ⟨zs, hzs⟩ : ∃ z, z = xs ++ ys := ⟨_, rfl⟩
            rw [← hzs] at HYS6 HC6
            have HXN : Hid (xs.length = (cptL (s.j.keys.take i)).length) := Lib.hid (by rw [← HXS.out, List.length_map])
            clear hzs HYS hyl hyl2 HXS HC3
            have HSG : Hid (∀ W, Below w6.heap.size w6 W → W.cell? ⟨bk, 0, none⟩ = some (.pointer (some ⟨x.kb, 0, none⟩)) ∧ W.cell? ⟨x.kb, 2, none⟩ = some (.slice (some ⟨x.ub, 0, none⟩) k.used.length x.cu)) := Lib.hid fun W hW => ⟨(HBK6.out.past hW HBK6.out.lt).cell 0, (HKB6.out.past hW HKB6.out.lt).cell 2⟩
            have HS6 := Lib.hid (HSG.out w6 (Below.refl _ _))
            have HRU : Hid (Calls Try.prog 36 #[.slice (some ⟨x.ub, 0, none⟩) k.used.length x.cu, .int .i64 0, .int .i64 (k.used.length : Int), .bool true] w6.drew fun e w' => e = .returned (.func (.func 54) #[] (runLb (w6.drew.heap.size + 1) (w6.drew.heap.size + 1 + 1) w6.drew.heap.size (w6.drew.heap.size + 1 + 1 + 1))) ∧ RCaps w' [] (w6.drew.heap.size + 1) (w6.drew.heap.size + 1 + 1) w6.drew.heap.size (w6.drew.heap.size + 1 + 1 + 1) k.used 0 k.used.length true ∧ Below w6.drew.heap.size w6.drew w') := Lib.hid (runs_any (L := []) (lo := 0) (hi := k.used.length) true (HUS6.out.past (below_drew8 w6 _) HUS6.out.lt) (Nat.le_refl _) hlen (by simp))
            go_upto_region 12 with fail
            refine wp_region_noPanic ?_
            refine wp_region_held_drew (S := (fun W => W.cell? ⟨bk, 0, none⟩ = some (.pointer (some ⟨x.kb, 0, none⟩)) ∧ W.cell? ⟨x.kb, 2, none⟩ = some (.slice (some ⟨x.ub, 0, none⟩) k.used.length x.cu))) (by kernel_rfl) ?_ (fun hHeld => ?_)
            · (try dsimp only); first | exact HS6.out | exact HS7.out
            refine wpAnyH_take (i := 0) (oi := ⟨some 50, _, _, _, _, _⟩) (v := ?_) rfl (by kernel_rfl) (by kernel_rfl) (by kernel_rfl) (fun _ _ _ h => h) (Or.inl ⟨by rfl, ?_⟩) (by assumption) ?_
            rotate_left
            · (intro w hSw; (try dsimp only at hSw); go_simp; try with_reducible rfl)
            try simp only [Act.put, List.setIfInBounds_toArray, List.set_cons_zero, List.set_cons_succ]
            refine wpAnyH_take (i := 1) (oi := ⟨some 51, _, _, _, _, _⟩) (v := ?_) rfl (by kernel_rfl) (by kernel_rfl) (by kernel_rfl) (fun _ _ _ h => h) (Or.inl ⟨by rfl, ?_⟩) (by assumption) ?_
            rotate_left
            · (intro w hSw; (try dsimp only at hSw); go_simp; try with_reducible rfl)
            try simp only [Act.put, List.setIfInBounds_toArray, List.set_cons_zero, List.set_cons_succ]
            refine wpAnyH_take (i := 2) (oi := ⟨some 52, _, _, _, _, _⟩) (v := ?_) rfl (by kernel_rfl) (by kernel_rfl) (by kernel_rfl) (fun _ _ _ h => h) (Or.inl ⟨by rfl, ?_⟩) (by assumption) ?_
            rotate_left
            · (intro w hSw; (try dsimp only at hSw); go_simp; try with_reducible rfl)
            try simp only [Act.put, List.setIfInBounds_toArray, List.set_cons_zero, List.set_cons_succ]
            refine wpAnyH_take (i := 3) (oi := ⟨some 53, _, _, _, _, _⟩) (v := ?_) rfl (by kernel_rfl) (by kernel_rfl) (by kernel_rfl) (fun _ _ _ h => h) (Or.inl ⟨by rfl, ?_⟩) (by assumption) ?_
            rotate_left
            · (intro w hSw; (try dsimp only at hSw); go_simp; try with_reducible rfl)
            try simp only [Act.put, List.setIfInBounds_toArray, List.set_cons_zero, List.set_cons_succ]
            refine wpAnyH_take (i := 4) (oi := ⟨some 54, _, _, _, _, _⟩) (v := ?_) rfl (by kernel_rfl) (by kernel_rfl) (by kernel_rfl) (fun _ _ _ h => h) (Or.inl ⟨by rfl, ?_⟩) (by assumption) ?_
            rotate_left
            · (intro w hSw; (try dsimp only at hSw); go_simp; try with_reducible rfl)
            try simp only [Act.put, List.setIfInBounds_toArray, List.set_cons_zero, List.set_cons_succ]
            refine wpAnyH_take (i := 5) (oi := ⟨some 55, _, _, _, _, _⟩) (v := ?_) rfl (by kernel_rfl) (by kernel_rfl) (by kernel_rfl) (fun _ _ _ h => h) (Or.inl ⟨by rfl, ?_⟩) (by assumption) ?_
            rotate_left
            · (intro w hSw; (try dsimp only at hSw); go_simp; try with_reducible rfl)
            try simp only [Act.put, List.setIfInBounds_toArray, List.set_cons_zero, List.set_cons_succ]
            refine wpAnyH_take (i := 6) (oi := ⟨some 56, _, _, _, _, _⟩) (v := ?_) rfl (by kernel_rfl) (by kernel_rfl) (by kernel_rfl) (fun _ _ _ h => h) (Or.inl ⟨by rfl, ?_⟩) (by assumption) ?_
            rotate_left
            · (intro w hSw; (try dsimp only at hSw); go_simp; try with_reducible rfl)
            try simp only [Act.put, List.setIfInBounds_toArray, List.set_cons_zero, List.set_cons_succ]
            refine wpAnyH_take (i := 7) (oi := ⟨some 57, _, _, _, _, _⟩) (v := ?_) rfl (by kernel_rfl) (by kernel_rfl) (by kernel_rfl) (fun _ _ _ h => h) (Or.inl ⟨by rfl, ?_⟩) (by assumption) ?_
            rotate_left
            · (intro w hSw; (try dsimp only at hSw); go_simp; try with_reducible rfl)
            try simp only [Act.put, List.setIfInBounds_toArray, List.set_cons_zero, List.set_cons_succ]
            refine wpAnyH_take (i := 8) (oi := ⟨some 58, _, _, _, _, _⟩) (v := ?_) rfl (by kernel_rfl) (by kernel_rfl) (by kernel_rfl) (fun _ _ _ h => h) (Or.inl ⟨by rfl, ?_⟩) (by assumption) ?_
            rotate_left
            · (intro w hSw; (try dsimp only at hSw); go_simp; try with_reducible rfl)
            try simp only [Act.put, List.setIfInBounds_toArray, List.set_cons_zero, List.set_cons_succ]
            refine wpAnyH_ready (rs := [9]) (by kernel_rfl) (by simp) ?_
            refine AllReadyH.cons (o := ⟨some 59, _, _, _, _, _⟩) rfl (fun K hK => ?_) AllReadyH.nil
            go_simp
            refine HRU.out.mono ?_
            rintro e' w7 ⟨rfl, hcap, hb7⟩
            have HCAP := Lib.hid hcap
            have HB7 : Hid (Below w6.heap.size w6 w7) := Lib.hid (bnextK (below_drew8 w6 _) hb7)
            have HS7 := Lib.hid (HSG.out w7 HB7.out)
            clear hcap hb7
            go_wp2_with fail
            refine hK.out _ _ ?_ (fun hHeld => ?_)
            · (try dsimp only); first | exact HS6.out | exact HS7.out
            clear hK K
            try simp only [Act.put, List.setIfInBounds_toArray, List.set_cons_zero, List.set_cons_succ]
            refine wpAnyH_done (by kernel_rfl) ?_ _
            refine NoPanic.normal ?_
            have HC7 := Lib.hid (HC6.out.far HB7.out)
            have HK7 : Hid (KpS [] w3 w7) := Lib.hid (HK6.out.trans (KpS.of_below HB7.out))
            have HM7 : Hid (Marks8 w3.heap.size ds w7) := Lib.hid (HM6.out.keep (fun k o ho _ => (HB7.out.block k (Array.getElem?_eq_some_iff.1 ho).1).trans ho))
            have HMB : Hid (∀ d ∈ ds, ∀ D, d.target = .collected D → D < w7.heap.size) := Lib.hid fun d hd D hD => HM7.out.lt d hd D hD
            have HBK7 := Lib.hid (HBK6.out.past HB7.out HBK6.out.lt)
            have HKK7 := Lib.hid (HKB6.out.past HB7.out HKB6.out.lt)
            have HSQ := Lib.hid (runs1_any 5 HCAP.out)
            have HSZ : Hid (w.heap.size ≤ w7.heap.size ∧ w3.heap.size ≤ w7.heap.size) := Lib.hid ⟨Nat.le_trans HB3.out.size HK7.out.size, HK7.out.size⟩
            clear HC6 HK6 HM6 HBK6 HS7 HRU HSG HCAP
            go_wp2_with fail
            refine (wpIn_wide (n := 6)).1 ?_
            refine wpIn_rangeFunc_ownB rfl (by decide) (gf := 54) (lb := runLb (w6.heap.size + 1) (w6.heap.size + 1 + 1) w6.heap.size (w6.heap.size + 1 + 1 + 1)) rfl trivial (enters_of Try.func54 (by kernel_rfl) rfl) HSQ.out (fun _ _ _ _ _ _ h _ _ _ => h) (fun h1 h2 => h1.trans h2) (fun W l o o' _ ho hc _ => KpS.putObj [] W l o o' ho hc) (Below.refl _ _) (fun x v W h => by subst h; rfl)
              (fun pre WW => CpS w bl (zs ++ pre.map (runX k.id)) WW ∧ KpS [] w7 WW ∧ Marks8 w3.heap.size ds WW)
              (fun c pre WW => False)
              ?hI ?hIx ⟨by simpa using HC7.out, KpS.refl _ _, HM7.out⟩
              (fun y a' WW => ∃ (u5 u30 u31 u32 u33 u34 u35 u36 u37 u38 u39 u40 u41 u42 u43 u44 u45 u46 u47 u48 u49 u50 u51 u52 u53 u54 u55 u56 u57 u58 u59 u62 u63 u64 u65 u66 u67 u68 u69 u70 u71 u72 : Value), a' = { tmps := #[.pointer (some ⟨S, 0, none⟩), .pointer (some ⟨b1, 0, none⟩), .int .i64 0, .int .i64 0, .pointer (some ⟨bl, 0, none⟩), u5, .pointer (some ⟨bk, 0, none⟩), .int .i64 (y.1 : Int), .int .i64 (y.2 : Int), undef, undef, .pointer (some ⟨S, 0, none⟩), .int .i64 0, .int .i64 0, .bool false, undef, .pointer (some ⟨S, 0, none⟩), .pointer (some ⟨S, 0, none⟩), .pointer (some ⟨S, 3, none⟩), .int .i64 (s.epoch : Int), .bool false, .pointer (some ⟨S, 0, none⟩), .pointer (some ⟨S, 0, none⟩), .pointer (some ⟨S, 4, none⟩), .pointer (some ⟨T, 0, none⟩), .pointer (some ⟨T, 0, none⟩), .pointer (some ⟨T, 0, none⟩), .slice (some ⟨kg, 0, none⟩) kn kc, .int .i64 (kn : Int), .int .i64 (i : Int), u30, u31, u32, u33, u34, u35, u36, u37, u38, u39, u40, u41, u42, u43, u44, u45, u46, u47, u48, u49, u50, u51, u52, u53, u54, u55, u56, u57, u58, u59, .int .i64 (y.1 : Int), .int .i64 (y.2 : Int), u62, u63, u64, u65, u66, u67, u68, u69, u70, u71, u72, undef, undef, undef, undef, undef, undef, undef, undef, undef, undef, undef, undef, undef, undef, undef, undef, undef, undef, undef, undef, undef, undef, undef, undef, undef, undef, undef, undef, undef, undef, undef, undef, undef, undef, undef, undef, undef, undef, undef, undef, undef, undef, undef, undef, undef, undef], defers := [] })
              ?hAx ?assign ?body ?done ?stop
            case hI =>
              rintro pre X Y row ⟨h1, h2, h3⟩ hg hr
              exact ⟨h1.iter HSZ.out.1 hg hr, h2.trans (KpS.grown hg (fun r e => (hr r e).2)), h3.iter HMB.out hg (fun r e => (hr r e).1)⟩
            case hIx =>
              rintro c pre X Y row h hg hr
              exact h
            case hAx =>
              rintro y a' s X Y row h hg hr
              exact h
            case assign =>
              rintro l pre y v WW K hpre rfl hi hK
              unfold runV
              gi_wp2_with fail
              exact hK _ _ ⟨Nat.le_refl _, fun k o _ h _ => h⟩ (KpS.refl _ _) hi ⟨_, _, _, _, _, _, _, _, _, _, _, _, _, _, _, _, _, _, _, _, _, _, _, _, _, _, _, _, _, _, _, _, _, _, _, _, _, _, _, _, _, _, rfl⟩
            case body =>
              rintro l pre y a' WW hpre ⟨hc, hk, hm⟩ ⟨u5, u30, u31, u32, u33, u34, u35, u36, u37, u38, u39, u40, u41, u42, u43, u44, u45, u46, u47, u48, u49, u50, u51, u52, u53, u54, u55, u56, u57, u58, u59, u62, u63, u64, u65, u66, u67, u68, u69, u70, u71, u72, rfl⟩
              obtain ⟨v, hv1, hv2, hv3, hv4⟩ := hc
              obtain ⟨vA, vc, hv, _⟩ := own_form hv2
              subst hv
              have HV1 := Lib.hid hv1; have HV2 := Lib.hid hv2; have HV3 := Lib.hid hv3; have HV4 := Lib.hid hv4
              have HBKW := Lib.hid (hk.bk _ _ _ HBK7.out (by decide) (by decide) (by decide) (by decide) (fun e => absurd e (by decide)))
              have HKBW := Lib.hid (hk.bk _ _ _ HKK7.out (by decide) (by decide) (by decide) (by decide) (fun e => absurd e (by decide)))
              have HKW := Lib.hid hk; have HMW := Lib.hid hm; have HPR := Lib.hid hpre
              have l3 : WW.cell? ⟨bl, 0, none⟩ = some (.slice vA (zs ++ pre.map (runX k.id)).length vc) := hv1.cell 0
              have HXL : Hid ((zs ++ pre.map (runX k.id)).length ≤ 1004100) := Lib.hid (by
                have h1 := congrArg List.length HYS6.out
                rw [List.length_map, List.length_append] at h1
                have h2 : pre.length ≤ (runsL k.used true 0 k.used.length).length := (List.IsPrefix.length_le ((List.prefix_append pre [y]).trans hpre))
                have h3 := runsB_len k.used true k.used.length (k.used.length + 1 - 0) 0
                unfold runsL at h2
                rw [List.length_append, List.length_map, h1, ← HXN.out]
                omega)
              obtain ⟨xn, hxn⟩ : ∃ n, n = (zs ++ pre.map (runX k.id)).length := ⟨_, rfl⟩
              rw [← hxn] at l3 HV1 HV2 HXL
              have HXNE := Lib.hid hxn
              have hxl := HXL.out
              have HS8 := Lib.hid (And.intro (show WW.cell? ⟨bk, 0, none⟩ = some (.pointer (some ⟨x.kb, 0, none⟩)) from HBKW.out.cell 0) (show WW.cell? ⟨x.kb, 0, none⟩ = some (.int .i64 (k.id : Int)) from HKBW.out.cell 0))
              have hblw : bl < WW.heap.size := HV1.out.lt
              clear hv1 hv2 hv3 hv4 hk hm hpre hxn
              gi_upto_region 15 with fail
              refine wpIn_region_held8 (S := (fun W => W.cell? ⟨bk, 0, none⟩ = some (.pointer (some ⟨x.kb, 0, none⟩)) ∧ W.cell? ⟨x.kb, 0, none⟩ = some (.int .i64 (k.id : Int)))) (by kernel_rfl) (by kernel_rfl) (fun a w h => h) ?_ (fun hHeld => ?_)
              · (try dsimp only); first | exact HS8.out | exact ⟨(bkA (bkD HBKW.out)).cell 0, (bkA (bkD HKBW.out)).cell 0⟩ | exact HS9.out | exact ⟨(HBK9.out.keepL (KeepL.set w5 bl 0 (.slice A9 (xn + 1) d9)) (by simp only [List.mem_singleton]; exact HBK9.out.ne HL9.out (by decide))).cell 0, (HKB9.out.keepL (KeepL.set w5 bl 0 (.slice A9 (xn + 1) d9)) (by simp only [List.mem_singleton]; exact HKB9.out.ne HL9.out (by decide))).cell 0⟩
              refine wpAnyH_take (i := 1) (oi := ⟨some 63, _, _, _, _, _⟩) (v := ?_) rfl (by kernel_rfl) (by kernel_rfl) (by kernel_rfl) (fun _ _ _ h => h) (Or.inl ⟨by rfl, ?_⟩) (by assumption) ?_
              rotate_left
              · (intro w hSw; (try dsimp only at hSw); go_simp; try with_reducible rfl)
              try simp only [Act.put, List.setIfInBounds_toArray, List.set_cons_zero, List.set_cons_succ]
              refine wpAnyH_take (i := 2) (oi := ⟨some 64, _, _, _, _, _⟩) (v := ?_) rfl (by kernel_rfl) (by kernel_rfl) (by kernel_rfl) (fun _ _ _ h => h) (Or.inl ⟨by rfl, ?_⟩) (by assumption) ?_
              rotate_left
              · (intro w hSw; (try dsimp only at hSw); go_simp; try with_reducible rfl)
              try simp only [Act.put, List.setIfInBounds_toArray, List.set_cons_zero, List.set_cons_succ]
              refine wpAnyH_take (i := 3) (oi := ⟨some 65, _, _, _, _, _⟩) (v := ?_) rfl (by kernel_rfl) (by kernel_rfl) (by kernel_rfl) (fun _ _ _ h => h) (Or.inl ⟨by rfl, ?_⟩) (by assumption) ?_
              rotate_left
              · (intro w hSw; (try dsimp only at hSw); go_simp; try with_reducible rfl)
              try simp only [Act.put, List.setIfInBounds_toArray, List.set_cons_zero, List.set_cons_succ]
              refine wpAnyH_take (i := 4) (oi := ⟨some 66, _, _, _, _, _⟩) (v := ?_) rfl (by kernel_rfl) (by kernel_rfl) (by kernel_rfl) (fun _ _ _ h => h) (Or.inl ⟨by rfl, ?_⟩) (by assumption) ?_
              rotate_left
              · (intro w hSw; (try dsimp only at hSw); go_simp; try with_reducible rfl)
              try simp only [Act.put, List.setIfInBounds_toArray, List.set_cons_zero, List.set_cons_succ]
              refine wpAnyH_take (i := 5) (oi := ⟨some 67, _, _, _, _, _⟩) (v := ?_) rfl (by kernel_rfl) (by kernel_rfl) (by kernel_rfl) (fun _ _ _ h => h) (Or.inl ⟨by rfl, ?_⟩) (by assumption) ?_
              rotate_left
              · (intro w hSw; (try dsimp only at hSw); go_simp; try with_reducible rfl)
              try simp only [Act.put, List.setIfInBounds_toArray, List.set_cons_zero, List.set_cons_succ]
              refine wpAnyH_take (i := 6) (oi := ⟨some 68, _, _, _, _, _⟩) (v := ?_) rfl (by kernel_rfl) (by kernel_rfl) (by kernel_rfl) (fun _ _ _ h => h) (Or.inl ⟨by rfl, ?_⟩) (by assumption) ?_
              rotate_left
              · (intro w hSw; (try dsimp only at hSw); go_simp; try with_reducible rfl)
              try simp only [Act.put, List.setIfInBounds_toArray, List.set_cons_zero, List.set_cons_succ]
              refine wpAnyH_take (i := 7) (oi := ⟨some 69, _, _, _, _, _⟩) (v := ?_) rfl (by kernel_rfl) (by kernel_rfl) (by kernel_rfl) (fun _ _ _ h => h) (Or.inl ⟨by rfl, ?_⟩) (by assumption) ?_
              rotate_left
              · (intro w hSw; (try dsimp only at hSw); go_simp; try with_reducible rfl)
              try simp only [Act.put, List.setIfInBounds_toArray, List.set_cons_zero, List.set_cons_succ]
              refine wpAnyH_ready (rs := [0, 8]) (by kernel_rfl) (by simp) ?_
              refine AllReadyH.cons (o := ⟨some 62, _, _, _, _, _⟩) rfl (fun K hK => ?_) ?_
              · skip
                go_simp
                refine hK.out _ _ ?_ (fun hHeld => ?_)
                · (try dsimp only); first | exact HS8.out | exact ⟨(bkA (bkD HBKW.out)).cell 0, (bkA (bkD HKBW.out)).cell 0⟩ | exact HS9.out | exact ⟨(HBK9.out.keepL (KeepL.set w5 bl 0 (.slice A9 (xn + 1) d9)) (by simp only [List.mem_singleton]; exact HBK9.out.ne HL9.out (by decide))).cell 0, (HKB9.out.keepL (KeepL.set w5 bl 0 (.slice A9 (xn + 1) d9)) (by simp only [List.mem_singleton]; exact HKB9.out.ne HL9.out (by decide))).cell 0⟩
                clear hK K
                try simp only [Act.put, List.setIfInBounds_toArray, List.set_cons_zero, List.set_cons_succ]
                refine wpAnyH_ready (rs := [8]) (by kernel_rfl) (by simp) ?_
                refine AllReadyH.cons (o := ⟨some 70, _, _, _, _, _⟩) rfl (fun K hK => ?_) AllReadyH.nil
                go_simp
                refine hK.out _ _ ?_ (fun hHeld => ?_)
                · (try dsimp only); first | exact HS8.out | exact ⟨(bkA (bkD HBKW.out)).cell 0, (bkA (bkD HKBW.out)).cell 0⟩ | exact HS9.out | exact ⟨(HBK9.out.keepL (KeepL.set w5 bl 0 (.slice A9 (xn + 1) d9)) (by simp only [List.mem_singleton]; exact HBK9.out.ne HL9.out (by decide))).cell 0, (HKB9.out.keepL (KeepL.set w5 bl 0 (.slice A9 (xn + 1) d9)) (by simp only [List.mem_singleton]; exact HKB9.out.ne HL9.out (by decide))).cell 0⟩
                clear hK K
                try simp only [Act.put, List.setIfInBounds_toArray, List.set_cons_zero, List.set_cons_succ]
                refine wpAnyH_ready (rs := [9]) (by kernel_rfl) (by simp) ?_
                refine AllReadyH.cons (o := ⟨some 71, _, _, _, _, _⟩) rfl (fun K hK => ?_) AllReadyH.nil
                refine step_pushL8 elR8 (.tmp 62) (.tmp 70) rfl rfl w.heap.size xn _ (by rfl) (ownsRow_past8 HV2.out (below_drew8 WW _)) (by rfl) (by rfl) (fun u hu => by simp at hu; rcases hu with rfl | rfl | rfl | rfl | rfl | rfl <;> rfl) (by omega) (by decide) (Nat.le_trans HV4.out.size (below_drew8 WW WW.heap.size).size) ?_
                intro v9 w5 ho5 hb5 hg5 _
                obtain ⟨A9, d9, rfl, _⟩ := own_form ho5
                have HBKD := Lib.hid (bkD HBKW.out); have HKBD := Lib.hid (bkD HKBW.out); have HV1D := Lib.hid (bkD HV1.out); have HV2D := Lib.hid (ownsRow_past8 HV2.out (below_drew8 WW _))
                have HBK9 := Lib.hid (HBKD.out.keepL (keepL_grown hg5) (nob_ty HV2D.out HBKD.out (by decide))); have HKB9 := Lib.hid (HKBD.out.keepL (keepL_grown hg5) (nob_ty HV2D.out HKBD.out (by decide)))
                have HL9 := Lib.hid (HV1D.out.keepL (keepL_grown hg5) (nob_ty HV2D.out HV1D.out (by decide)))
                have l9 := HL9.out.cell 0; have lf9 := HL9.out.froz 0
                have HS9 := Lib.hid (And.intro (show w5.cell? ⟨bk, 0, none⟩ = some (.pointer (some ⟨x.kb, 0, none⟩)) from HBK9.out.cell 0) (show w5.cell? ⟨x.kb, 0, none⟩ = some (.int .i64 (k.id : Int)) from HKB9.out.cell 0))
                have HO9 := Lib.hid ho5; have HG9 := Lib.hid hg5
                clear ho5 hb5 hg5
                refine hK.out _ _ ?_ (fun hHeld => ?_)
                · (try dsimp only); first | exact HS8.out | exact ⟨(bkA (bkD HBKW.out)).cell 0, (bkA (bkD HKBW.out)).cell 0⟩ | exact HS9.out | exact ⟨(HBK9.out.keepL (KeepL.set w5 bl 0 (.slice A9 (xn + 1) d9)) (by simp only [List.mem_singleton]; exact HBK9.out.ne HL9.out (by decide))).cell 0, (HKB9.out.keepL (KeepL.set w5 bl 0 (.slice A9 (xn + 1) d9)) (by simp only [List.mem_singleton]; exact HKB9.out.ne HL9.out (by decide))).cell 0⟩
                clear hK K
                try simp only [Act.put, List.setIfInBounds_toArray, List.set_cons_zero, List.set_cons_succ]
                refine wpAnyH_ready (rs := [10]) (by kernel_rfl) (by simp) ?_
                refine AllReadyH.cons (o := ⟨none, _, _, _, _, _⟩) rfl (fun K hK => ?_) AllReadyH.nil
                go_simp
                refine hK.out _ _ ?_ (fun hHeld => ?_)
                · (try dsimp only); first | exact HS8.out | exact ⟨(bkA (bkD HBKW.out)).cell 0, (bkA (bkD HKBW.out)).cell 0⟩ | exact HS9.out | exact ⟨(HBK9.out.keepL (KeepL.set w5 bl 0 (.slice A9 (xn + 1) d9)) (by simp only [List.mem_singleton]; exact HBK9.out.ne HL9.out (by decide))).cell 0, (HKB9.out.keepL (KeepL.set w5 bl 0 (.slice A9 (xn + 1) d9)) (by simp only [List.mem_singleton]; exact HKB9.out.ne HL9.out (by decide))).cell 0⟩
                clear hK K
                try simp only [Act.put]
                refine wpAnyH_done (by kernel_rfl) ?_ _
                have HAPP := Lib.hid (cps_app (xs := zs ++ pre.map (runX k.id)) (ys := [runX k.id y]) HV1D.out (by rw [← HXNE.out]; exact HV2D.out) (fun x hx => ownsRow_past8 (HV3.out x hx) (below_drew8 WW _)) (bnextK HV4.out (below_drew8 WW _)) (fun z hz => by rw [List.mem_singleton] at hz; subst hz; exact World.ownsRow_nil _ _ _ _) (by rw [← HXNE.out]; exact HO9.out) HG9.out HBLE.out)
                generalize w5.setCell ⟨bl, 0, none⟩ _ = w9 at HAPP ⊢
                have HKF : Hid (KeepsFrom 0 WW w9) := Lib.hid (KeepsFrom.trans ⟨(below_drew8 WW 0).size, fun k o _ ho _ => ((below_drew8 WW WW.heap.size).block k (Array.getElem?_eq_some_iff.1 ho).1).trans ho⟩ HAPP.out.2.2)
                have HKP : Hid (KpS [] WW w9) := Lib.hid ((KpS.of_below (below_drew8 WW _)).trans HAPP.out.2.1)
                try gi_wp2_with fail
                exact ⟨keepsFrom_le HKF.out (Nat.zero_le _), HKP.out, by show CpS w bl (zs ++ (pre ++ [y]).map (runX k.id)) w9; rw [List.map_append, ← List.append_assoc]; exact HAPP.out.1, HKW.out.trans HKP.out, HMW.out.keepF (Nat.zero_le _) HKF.out⟩
              refine AllReadyH.cons (o := ⟨some 70, _, _, _, _, _⟩) rfl (fun K hK => ?_) AllReadyH.nil
              go_simp
              refine hK.out _ _ ?_ (fun hHeld => ?_)
              · (try dsimp only); first | exact HS8.out | exact ⟨(bkA (bkD HBKW.out)).cell 0, (bkA (bkD HKBW.out)).cell 0⟩ | exact HS9.out | exact ⟨(HBK9.out.keepL (KeepL.set w5 bl 0 (.slice A9 (xn + 1) d9)) (by simp only [List.mem_singleton]; exact HBK9.out.ne HL9.out (by decide))).cell 0, (HKB9.out.keepL (KeepL.set w5 bl 0 (.slice A9 (xn + 1) d9)) (by simp only [List.mem_singleton]; exact HKB9.out.ne HL9.out (by decide))).cell 0⟩
              clear hK K
              try simp only [Act.put, List.setIfInBounds_toArray, List.set_cons_zero, List.set_cons_succ]
              refine wpAnyH_ready (rs := [0]) (by kernel_rfl) (by simp) ?_
              refine AllReadyH.cons (o := ⟨some 62, _, _, _, _, _⟩) rfl (fun K hK => ?_) AllReadyH.nil
              go_simp
              refine hK.out _ _ ?_ (fun hHeld => ?_)
              · (try dsimp only); first | exact HS8.out | exact ⟨(bkA (bkD HBKW.out)).cell 0, (bkA (bkD HKBW.out)).cell 0⟩ | exact HS9.out | exact ⟨(HBK9.out.keepL (KeepL.set w5 bl 0 (.slice A9 (xn + 1) d9)) (by simp only [List.mem_singleton]; exact HBK9.out.ne HL9.out (by decide))).cell 0, (HKB9.out.keepL (KeepL.set w5 bl 0 (.slice A9 (xn + 1) d9)) (by simp only [List.mem_singleton]; exact HKB9.out.ne HL9.out (by decide))).cell 0⟩
              clear hK K
              try simp only [Act.put, List.setIfInBounds_toArray, List.set_cons_zero, List.set_cons_succ]
              refine wpAnyH_ready (rs := [9]) (by kernel_rfl) (by simp) ?_
              refine AllReadyH.cons (o := ⟨some 71, _, _, _, _, _⟩) rfl (fun K hK => ?_) AllReadyH.nil
              refine step_pushL8 elR8 (.tmp 62) (.tmp 70) rfl rfl w.heap.size xn _ (by rfl) (ownsRow_past8 HV2.out (below_drew8 WW _)) (by rfl) (by rfl) (fun u hu => by simp at hu; rcases hu with rfl | rfl | rfl | rfl | rfl | rfl <;> rfl) (by omega) (by decide) (Nat.le_trans HV4.out.size (below_drew8 WW WW.heap.size).size) ?_
              intro v9 w5 ho5 hb5 hg5 _
              obtain ⟨A9, d9, rfl, _⟩ := own_form ho5
              have HBKD := Lib.hid (bkD HBKW.out); have HKBD := Lib.hid (bkD HKBW.out); have HV1D := Lib.hid (bkD HV1.out); have HV2D := Lib.hid (ownsRow_past8 HV2.out (below_drew8 WW _))
              have HBK9 := Lib.hid (HBKD.out.keepL (keepL_grown hg5) (nob_ty HV2D.out HBKD.out (by decide))); have HKB9 := Lib.hid (HKBD.out.keepL (keepL_grown hg5) (nob_ty HV2D.out HKBD.out (by decide)))
              have HL9 := Lib.hid (HV1D.out.keepL (keepL_grown hg5) (nob_ty HV2D.out HV1D.out (by decide)))
              have l9 := HL9.out.cell 0; have lf9 := HL9.out.froz 0
              have HS9 := Lib.hid (And.intro (show w5.cell? ⟨bk, 0, none⟩ = some (.pointer (some ⟨x.kb, 0, none⟩)) from HBK9.out.cell 0) (show w5.cell? ⟨x.kb, 0, none⟩ = some (.int .i64 (k.id : Int)) from HKB9.out.cell 0))
              have HO9 := Lib.hid ho5; have HG9 := Lib.hid hg5
              clear ho5 hb5 hg5
              refine hK.out _ _ ?_ (fun hHeld => ?_)
              · (try dsimp only); first | exact HS8.out | exact ⟨(bkA (bkD HBKW.out)).cell 0, (bkA (bkD HKBW.out)).cell 0⟩ | exact HS9.out | exact ⟨(HBK9.out.keepL (KeepL.set w5 bl 0 (.slice A9 (xn + 1) d9)) (by simp only [List.mem_singleton]; exact HBK9.out.ne HL9.out (by decide))).cell 0, (HKB9.out.keepL (KeepL.set w5 bl 0 (.slice A9 (xn + 1) d9)) (by simp only [List.mem_singleton]; exact HKB9.out.ne HL9.out (by decide))).cell 0⟩
              clear hK K
              try simp only [Act.put, List.setIfInBounds_toArray, List.set_cons_zero, List.set_cons_succ]
              refine wpAnyH_ready (rs := [10]) (by kernel_rfl) (by simp) ?_
              refine AllReadyH.cons (o := ⟨none, _, _, _, _, _⟩) rfl (fun K hK => ?_) AllReadyH.nil
              go_simp
              refine hK.out _ _ ?_ (fun hHeld => ?_)
              · (try dsimp only); first | exact HS8.out | exact ⟨(bkA (bkD HBKW.out)).cell 0, (bkA (bkD HKBW.out)).cell 0⟩ | exact HS9.out | exact ⟨(HBK9.out.keepL (KeepL.set w5 bl 0 (.slice A9 (xn + 1) d9)) (by simp only [List.mem_singleton]; exact HBK9.out.ne HL9.out (by decide))).cell 0, (HKB9.out.keepL (KeepL.set w5 bl 0 (.slice A9 (xn + 1) d9)) (by simp only [List.mem_singleton]; exact HKB9.out.ne HL9.out (by decide))).cell 0⟩
              clear hK K
              try simp only [Act.put]
              refine wpAnyH_done (by kernel_rfl) ?_ _
              have HAPP := Lib.hid (cps_app (xs := zs ++ pre.map (runX k.id)) (ys := [runX k.id y]) HV1D.out (by rw [← HXNE.out]; exact HV2D.out) (fun x hx => ownsRow_past8 (HV3.out x hx) (below_drew8 WW _)) (bnextK HV4.out (below_drew8 WW _)) (fun z hz => by rw [List.mem_singleton] at hz; subst hz; exact World.ownsRow_nil _ _ _ _) (by rw [← HXNE.out]; exact HO9.out) HG9.out HBLE.out)
              generalize w5.setCell ⟨bl, 0, none⟩ _ = w9 at HAPP ⊢
              have HKF : Hid (KeepsFrom 0 WW w9) := Lib.hid (KeepsFrom.trans ⟨(below_drew8 WW 0).size, fun k o _ ho _ => ((below_drew8 WW WW.heap.size).block k (Array.getElem?_eq_some_iff.1 ho).1).trans ho⟩ HAPP.out.2.2)
              have HKP : Hid (KpS [] WW w9) := Lib.hid ((KpS.of_below (below_drew8 WW _)).trans HAPP.out.2.1)
              try gi_wp2_with fail
              exact ⟨keepsFrom_le HKF.out (Nat.zero_le _), HKP.out, by show CpS w bl (zs ++ (pre ++ [y]).map (runX k.id)) w9; rw [List.map_append, ← List.append_assoc]; exact HAPP.out.1, HKW.out.trans HKP.out, HMW.out.keepF (Nat.zero_le _) HKF.out⟩
            case done =>
              rintro D1 WW hD ⟨hc, hk, hm⟩ hK
              have HCD := Lib.hid hc
              have HKD := Lib.hid (HK7.out.trans hk)
              have HMD : Hid (Marks8 w3.heap.size ({ target := .collected D1, args := #[] } :: ds) WW) := Lib.hid ⟨⟨D1, rfl, Nat.le_trans HSZ.out.2 hD, hK, fun d' hd' e => by have := HMB.out d' hd' D1 e; omega⟩, hm⟩
              clear hc hk hm hK
              go_wp2_with fail
              exact ⟨r, by omega, i + 1, zs ++ (runsL k.used true 0 k.used.length).map (runX k.id), _, _, _, _, _, _, _, _, _, _, _, _, _, _, _, _, _, _, _, _, _, _, _, _, _, _, _, _, _, _, _, _, _, _, _, _, _, _, _, _, _, _, _, _, _, _, _, _, rfl, by omega, by rw [List.map_append, HYS6.out, HSU.out, HCK.out, List.map_map, List.append_assoc]; rfl, HCD.out, HKD.out, HMD.out⟩
            case stop =>
              rintro D1 c pre WW hD hpre h hK
              exact h.elim
          refine AllReadyH.cons (o := ⟨some 48, _, _, _, _, _⟩) rfl (fun K hK => ?_) AllReadyH.nil
          go_simp
          refine HRC.out.mono ?_
          rintro e' w4 ⟨v', X4, rfl, hra, hX, hb4⟩
          obtain ⟨ys, yA, yc, rfl, hys, hrd, hyb⟩ := hra.list
          have HB4 : Hid (Below W3.heap.size W3 w4) := Lib.hid (bnextK (below_drew8 W3 _) hb4)
          have HBK4 := Lib.hid (HB3B.out.past HB4.out HB3B.out.lt); have HKB4 := Lib.hid (HKB.out.past HB4.out HKB.out.lt)
          have HS4 := Lib.hid (sc_cells HBK4.out HKB4.out hlb)
          have HYS := Lib.hid hys; have HRD := Lib.hid hrd
          have HYB : Hid (∀ y ∈ ys, w4.ownsRow w.heap.size 5 1 (.slice y.2.1 y.1.bits.length y.2.2) y.1.bits.length (secC y.1.bits)) := Lib.hid fun y hy => byt_new (hyb y hy).1 (fun k hk => Nat.le_trans HW3.out (Nat.le_trans (below_drew8 W3 W3.heap.size).size (hX k ((hyb y hy).2 k hk))))
          have HC4 := Lib.hid (HCS.out w4 HB4.out)
          have l4 := HC4.out.1.cell 0
          have hs4 : w.heap.size ≤ w4.heap.size := Nat.le_trans HW3.out HB4.out.size
          have hyl : ys.length = (recsK k.id k.bits).length := by rw [← HYS.out, List.length_map]
          have hyl2 : ys.length ≤ 2 := by rw [hyl]; unfold recsK; split <;> simp
          clear hb4 hra hys hrd hyb hX
          go_wp2_with fail
          refine hK.out _ _ ?_ (fun hHeld => ?_)
          · (try dsimp only); first | exact HS3.out | exact HS4.out | exact HS5.out | exact HS6.out
          clear hK K
          try simp only [Act.put, List.setIfInBounds_toArray, List.set_cons_zero, List.set_cons_succ]
          refine wpAnyH_ready (rs := [0]) (by kernel_rfl) (by simp) ?_
          refine AllReadyH.cons (o := ⟨some 39, _, _, _, _, _⟩) rfl (fun K hK => ?_) AllReadyH.nil
          go_simp
          refine hK.out _ _ ?_ (fun hHeld => ?_)
          · (try dsimp only); first | exact HS3.out | exact HS4.out | exact HS5.out | exact HS6.out
          clear hK K
          try simp only [Act.put, List.setIfInBounds_toArray, List.set_cons_zero, List.set_cons_succ]
          refine wpAnyH_ready (rs := [10]) (by kernel_rfl) (by simp) ?_
          refine AllReadyH.cons (o := ⟨some 49, _, _, _, _, _⟩) rfl (fun K hK => ?_) AllReadyH.nil
          refine step_append_rd _ rfl (.tmp 39) (.tmp 48) _ (by rfl) w.heap.size 60 i0 _ 6 64 Try.underlying71 HI0.out HZ0.out HZ1.out HZ2.out rfl (by decide) _ xs.length _ (by rfl) HC4.out.2.1 _ yA (recsK k.id k.bits).length yc _ (by rfl) HRD.out (fun u hu => rcsC_one u hu) (by unfold maxLen; omega) (by omega) hs4 ?_
          intro v9 w5 ho5 hg5
          obtain ⟨A9, d9, rfl, _⟩ := own_form ho5
          have HO5 := Lib.hid ho5; have HG5 := Lib.hid hg5
          have HL5 := Lib.hid (HC4.out.1.keepL (keepL_grown hg5) (nob_ty HC4.out.2.1 HC4.out.1 (by decide)))
          have l5 := HL5.out.cell 0; have lf5 := HL5.out.froz 0
          have HBK5 := Lib.hid (HBK4.out.keepL (keepL_grown HG5.out) (nob_ty HC4.out.2.1 HBK4.out (by decide))); have HKB5 := Lib.hid (HKB4.out.keepL (keepL_grown HG5.out) (nob_ty HC4.out.2.1 HKB4.out (by decide)))
          have HS5 := Lib.hid (sc_cells HBK5.out HKB5.out hlb)
          have HS6 := Lib.hid (sc_cells (HBK5.out.keepL (KeepL.set w5 bl 0 (.slice A9 (xs.length + (recsK k.id k.bits).length) d9)) (by simp only [List.mem_singleton]; exact HBK5.out.ne HL5.out (by decide))) (HKB5.out.keepL (KeepL.set w5 bl 0 (.slice A9 (xs.length + (recsK k.id k.bits).length) d9)) (by simp only [List.mem_singleton]; exact HKB5.out.ne HL5.out (by decide))) hlb)
          clear ho5 hg5
          refine hK.out _ _ ?_ (fun hHeld => ?_)
          · (try dsimp only); first | exact HS3.out | exact HS4.out | exact HS5.out | exact HS6.out
          clear hK K
          try simp only [Act.put, List.setIfInBounds_toArray, List.set_cons_zero, List.set_cons_succ]
          refine wpAnyH_ready (rs := [11]) (by kernel_rfl) (by simp) ?_
          refine AllReadyH.cons (o := ⟨none, _, _, _, _, _⟩) rfl (fun K hK => ?_) AllReadyH.nil
          go_simp
          refine hK.out _ _ ?_ (fun hHeld => ?_)
          · (try dsimp only); first | exact HS3.out | exact HS4.out | exact HS5.out | exact HS6.out
          clear hK K
          try simp only [Act.put]
          refine wpAnyH_done (by kernel_rfl) ?_ _
          refine NoPanic.normal ?_
          have HAPP := Lib.hid (cps_app HC4.out.1 HC4.out.2.1 HC4.out.2.2.1 HC4.out.2.2.2 HYB.out (by rw [hyl]; exact HO5.out) HG5.out HBLE.out)
          generalize w5.setCell ⟨bl, 0, none⟩ _ = w6 at HAPP ⊢
          have HYS6 : Hid ((xs ++ ys).map (·.1) = cptL (s.j.keys.take i) ++ recsK k.id k.bits) := Lib.hid (by rw [List.map_append, HXS.out, HYS.out])
          have HK6 : Hid (KpS [] w3 w6) := Lib.hid (HK3.out.trans ((KpS.of_below HB4.out).trans HAPP.out.2.1))
          have HM6 : Hid (Marks8 w3.heap.size ds w6) := Lib.hid ((HM3.out.keep (fun k o ho _ => (HB4.out.block k (Array.getElem?_eq_some_iff.1 ho).1).trans ho)).keepF (Nat.zero_le _) HAPP.out.2.2)
          have HC6 : Hid (CpS w bl (xs ++ ys) w6) := Lib.hid HAPP.out.1
          have HKB6 := Lib.hid (HAPP.out.2.1.bk _ _ _ HKB4.out (by decide) (by decide) (by decide) (by decide) (fun e => absurd e (by decide)))
          have HUS6 := Lib.hid (HAPP.out.2.1.bk _ _ _ (HUS.out.past (bnextK HB3'.out HB4.out) HUS.out.lt) (by decide) (by decide) (by decide) (by decide) (fun e => absurd e (by decide)))
          have HBK6 : Hid (Bk w6 bk #[.pointer (some ⟨x.kb, 0, none⟩)] 66) := Lib.hid (HAPP.out.2.1.bk _ _ _ HBK4.out (by decide) (by decide) (by decide) (by decide) (fun e => absurd e (by decide)))
          clear HAPP HC4 HO5 HG5 HL5 HS5 HS4 HYB HRD HRC HCS HM3 HK3 l5 lf5 HS3 HS6 HBK5 HKB5 l4 l3 HBK4 HKB4
          obtain ⟨zs, hzs⟩ : ∃ z, z = xs ++ ys := ⟨_, rfl⟩
          rw [← hzs] at HYS6 HC6
          have HXN : Hid (xs.length = (cptL (s.j.keys.take i)).length) := Lib.hid (by rw [← HXS.out, List.length_map])
          clear hzs HYS hyl hyl2 HXS HC3
          have HSG : Hid (∀ W, Below w6.heap.size w6 W → W.cell? ⟨bk, 0, none⟩ = some (.pointer (some ⟨x.kb, 0, none⟩)) ∧ W.cell? ⟨x.kb, 2, none⟩ = some (.slice (some ⟨x.ub, 0, none⟩) k.used.length x.cu)) := Lib.hid fun W hW => ⟨(HBK6.out.past hW HBK6.out.lt).cell 0, (HKB6.out.past hW HKB6.out.lt).cell 2⟩
          have HS6 := Lib.hid (HSG.out w6 (Below.refl _ _))
          have HRU : Hid (Calls Try.prog 36 #[.slice (some ⟨x.ub, 0, none⟩) k.used.length x.cu, .int .i64 0, .int .i64 (k.used.length : Int), .bool true] w6.drew fun e w' => e = .returned (.func (.func 54) #[] (runLb (w6.drew.heap.size + 1) (w6.drew.heap.size + 1 + 1) w6.drew.heap.size (w6.drew.heap.size + 1 + 1 + 1))) ∧ RCaps w' [] (w6.drew.heap.size + 1) (w6.drew.heap.size + 1 + 1) w6.drew.heap.size (w6.drew.heap.size + 1 + 1 + 1) k.used 0 k.used.length true ∧ Below w6.drew.heap.size w6.drew w') := Lib.hid (runs_any (L := []) (lo := 0) (hi := k.used.length) true (HUS6.out.past (below_drew8 w6 _) HUS6.out.lt) (Nat.le_refl _) hlen (by simp))
          go_upto_region 12 with fail
          refine wp_region_noPanic ?_
          refine wp_region_held_drew (S := (fun W => W.cell? ⟨bk, 0, none⟩ = some (.pointer (some ⟨x.kb, 0, none⟩)) ∧ W.cell? ⟨x.kb, 2, none⟩ = some (.slice (some ⟨x.ub, 0, none⟩) k.used.length x.cu))) (by kernel_rfl) ?_ (fun hHeld => ?_)
          · (try dsimp only); first | exact HS6.out | exact HS7.out
          refine wpAnyH_take (i := 0) (oi := ⟨some 50, _, _, _, _, _⟩) (v := ?_) rfl (by kernel_rfl) (by kernel_rfl) (by kernel_rfl) (fun _ _ _ h => h) (Or.inl ⟨by rfl, ?_⟩) (by assumption) ?_
          rotate_left
          · (intro w hSw; (try dsimp only at hSw); go_simp; try with_reducible rfl)
          try simp only [Act.put, List.setIfInBounds_toArray, List.set_cons_zero, List.set_cons_succ]
          refine wpAnyH_take (i := 1) (oi := ⟨some 51, _, _, _, _, _⟩) (v := ?_) rfl (by kernel_rfl) (by kernel_rfl) (by kernel_rfl) (fun _ _ _ h => h) (Or.inl ⟨by rfl, ?_⟩) (by assumption) ?_
          rotate_left
          · (intro w hSw; (try dsimp only at hSw); go_simp; try with_reducible rfl)
          try simp only [Act.put, List.setIfInBounds_toArray, List.set_cons_zero, List.set_cons_succ]
          refine wpAnyH_take (i := 2) (oi := ⟨some 52, _, _, _, _, _⟩) (v := ?_) rfl (by kernel_rfl) (by kernel_rfl) (by kernel_rfl) (fun _ _ _ h => h) (Or.inl ⟨by rfl, ?_⟩) (by assumption) ?_
          rotate_left
          · (intro w hSw; (try dsimp only at hSw); go_simp; try with_reducible rfl)
          try simp only [Act.put, List.setIfInBounds_toArray, List.set_cons_zero, List.set_cons_succ]
          refine wpAnyH_take (i := 3) (oi := ⟨some 53, _, _, _, _, _⟩) (v := ?_) rfl (by kernel_rfl) (by kernel_rfl) (by kernel_rfl) (fun _ _ _ h => h) (Or.inl ⟨by rfl, ?_⟩) (by assumption) ?_
          rotate_left
          · (intro w hSw; (try dsimp only at hSw); go_simp; try with_reducible rfl)
          try simp only [Act.put, List.setIfInBounds_toArray, List.set_cons_zero, List.set_cons_succ]
          refine wpAnyH_take (i := 4) (oi := ⟨some 54, _, _, _, _, _⟩) (v := ?_) rfl (by kernel_rfl) (by kernel_rfl) (by kernel_rfl) (fun _ _ _ h => h) (Or.inl ⟨by rfl, ?_⟩) (by assumption) ?_
          rotate_left
          · (intro w hSw; (try dsimp only at hSw); go_simp; try with_reducible rfl)
          try simp only [Act.put, List.setIfInBounds_toArray, List.set_cons_zero, List.set_cons_succ]
          refine wpAnyH_take (i := 5) (oi := ⟨some 55, _, _, _, _, _⟩) (v := ?_) rfl (by kernel_rfl) (by kernel_rfl) (by kernel_rfl) (fun _ _ _ h => h) (Or.inl ⟨by rfl, ?_⟩) (by assumption) ?_
          rotate_left
          · (intro w hSw; (try dsimp only at hSw); go_simp; try with_reducible rfl)
          try simp only [Act.put, List.setIfInBounds_toArray, List.set_cons_zero, List.set_cons_succ]
          refine wpAnyH_take (i := 6) (oi := ⟨some 56, _, _, _, _, _⟩) (v := ?_) rfl (by kernel_rfl) (by kernel_rfl) (by kernel_rfl) (fun _ _ _ h => h) (Or.inl ⟨by rfl, ?_⟩) (by assumption) ?_
          rotate_left
          · (intro w hSw; (try dsimp only at hSw); go_simp; try with_reducible rfl)
          try simp only [Act.put, List.setIfInBounds_toArray, List.set_cons_zero, List.set_cons_succ]
          refine wpAnyH_take (i := 7) (oi := ⟨some 57, _, _, _, _, _⟩) (v := ?_) rfl (by kernel_rfl) (by kernel_rfl) (by kernel_rfl) (fun _ _ _ h => h) (Or.inl ⟨by rfl, ?_⟩) (by assumption) ?_
          rotate_left
          · (intro w hSw; (try dsimp only at hSw); go_simp; try with_reducible rfl)
          try simp only [Act.put, List.setIfInBounds_toArray, List.set_cons_zero, List.set_cons_succ]
          refine wpAnyH_take (i := 8) (oi := ⟨some 58, _, _, _, _, _⟩) (v := ?_) rfl (by kernel_rfl) (by kernel_rfl) (by kernel_rfl) (fun _ _ _ h => h) (Or.inl ⟨by rfl, ?_⟩) (by assumption) ?_
          rotate_left
          · (intro w hSw; (try dsimp only at hSw); go_simp; try with_reducible rfl)
          try simp only [Act.put, List.setIfInBounds_toArray, List.set_cons_zero, List.set_cons_succ]
          refine wpAnyH_ready (rs := [9]) (by kernel_rfl) (by simp) ?_
          refine AllReadyH.cons (o := ⟨some 59, _, _, _, _, _⟩) rfl (fun K hK => ?_) AllReadyH.nil
          go_simp
          refine HRU.out.mono ?_
          rintro e' w7 ⟨rfl, hcap, hb7⟩
          have HCAP := Lib.hid hcap
          have HB7 : Hid (Below w6.heap.size w6 w7) := Lib.hid (bnextK (below_drew8 w6 _) hb7)
          have HS7 := Lib.hid (HSG.out w7 HB7.out)
          clear hcap hb7
          go_wp2_with fail
          refine hK.out _ _ ?_ (fun hHeld => ?_)
          · (try dsimp only); first | exact HS6.out | exact HS7.out
          clear hK K
          try simp only [Act.put, List.setIfInBounds_toArray, List.set_cons_zero, List.set_cons_succ]
          refine wpAnyH_done (by kernel_rfl) ?_ _
          refine NoPanic.normal ?_
          have HC7 := Lib.hid (HC6.out.far HB7.out)
          have HK7 : Hid (KpS [] w3 w7) := Lib.hid (HK6.out.trans (KpS.of_below HB7.out))
          have HM7 : Hid (Marks8 w3.heap.size ds w7) := Lib.hid (HM6.out.keep (fun k o ho _ => (HB7.out.block k (Array.getElem?_eq_some_iff.1 ho).1).trans ho))
          have HMB : Hid (∀ d ∈ ds, ∀ D, d.target = .collected D → D < w7.heap.size) := Lib.hid fun d hd D hD => HM7.out.lt d hd D hD
          have HBK7 := Lib.hid (HBK6.out.past HB7.out HBK6.out.lt)
          have HKK7 := Lib.hid (HKB6.out.past HB7.out HKB6.out.lt)
          have HSQ := Lib.hid (runs1_any 5 HCAP.out)
          have HSZ : Hid (w.heap.size ≤ w7.heap.size ∧ w3.heap.size ≤ w7.heap.size) := Lib.hid ⟨Nat.le_trans HB3.out.size HK7.out.size, HK7.out.size⟩
          clear HC6 HK6 HM6 HBK6 HS7 HRU HSG HCAP
          go_wp2_with fail
          refine (wpIn_wide (n := 6)).1 ?_
          refine wpIn_rangeFunc_ownB rfl (by decide) (gf := 54) (lb := runLb (w6.heap.size + 1) (w6.heap.size + 1 + 1) w6.heap.size (w6.heap.size + 1 + 1 + 1)) rfl trivial (enters_of Try.func54 (by kernel_rfl) rfl) HSQ.out (fun _ _ _ _ _ _ h _ _ _ => h) (fun h1 h2 => h1.trans h2) (fun W l o o' _ ho hc _ => KpS.putObj [] W l o o' ho hc) (Below.refl _ _) (fun x v W h => by subst h; rfl)
            (fun pre WW => CpS w bl (zs ++ pre.map (runX k.id)) WW ∧ KpS [] w7 WW ∧ Marks8 w3.heap.size ds WW)
            (fun c pre WW => False)
            ?hI ?hIx ⟨by simpa using HC7.out, KpS.refl _ _, HM7.out⟩
            (fun y a' WW => ∃ (u5 u30 u31 u32 u33 u34 u35 u36 u37 u38 u39 u40 u41 u42 u43 u44 u45 u46 u47 u48 u49 u50 u51 u52 u53 u54 u55 u56 u57 u58 u59 u62 u63 u64 u65 u66 u67 u68 u69 u70 u71 u72 : Value), a' = { tmps := #[.pointer (some ⟨S, 0, none⟩), .pointer (some ⟨b1, 0, none⟩), .int .i64 0, .int .i64 0, .pointer (some ⟨bl, 0, none⟩), u5, .pointer (some ⟨bk, 0, none⟩), .int .i64 (y.1 : Int), .int .i64 (y.2 : Int), undef, undef, .pointer (some ⟨S, 0, none⟩), .int .i64 0, .int .i64 0, .bool false, undef, .pointer (some ⟨S, 0, none⟩), .pointer (some ⟨S, 0, none⟩), .pointer (some ⟨S, 3, none⟩), .int .i64 (s.epoch : Int), .bool false, .pointer (some ⟨S, 0, none⟩), .pointer (some ⟨S, 0, none⟩), .pointer (some ⟨S, 4, none⟩), .pointer (some ⟨T, 0, none⟩), .pointer (some ⟨T, 0, none⟩), .pointer (some ⟨T, 0, none⟩), .slice (some ⟨kg, 0, none⟩) kn kc, .int .i64 (kn : Int), .int .i64 (i : Int), u30, u31, u32, u33, u34, u35, u36, u37, u38, u39, u40, u41, u42, u43, u44, u45, u46, u47, u48, u49, u50, u51, u52, u53, u54, u55, u56, u57, u58, u59, .int .i64 (y.1 : Int), .int .i64 (y.2 : Int), u62, u63, u64, u65, u66, u67, u68, u69, u70, u71, u72, undef, undef, undef, undef, undef, undef, undef, undef, undef, undef, undef, undef, undef, undef, undef, undef, undef, undef, undef, undef, undef, undef, undef, undef, undef, undef, undef, undef, undef, undef, undef, undef, undef, undef, undef, undef, undef, undef, undef, undef, undef, undef, undef, undef, undef, undef], defers := [] })
            ?hAx ?assign ?body ?done ?stop
          case hI =>
            rintro pre X Y row ⟨h1, h2, h3⟩ hg hr
            exact ⟨h1.iter HSZ.out.1 hg hr, h2.trans (KpS.grown hg (fun r e => (hr r e).2)), h3.iter HMB.out hg (fun r e => (hr r e).1)⟩
          case hIx =>
            rintro c pre X Y row h hg hr
            exact h
          case hAx =>
            rintro y a' s X Y row h hg hr
            exact h
          case assign =>
            rintro l pre y v WW K hpre rfl hi hK
            unfold runV
            gi_wp2_with fail
            exact hK _ _ ⟨Nat.le_refl _, fun k o _ h _ => h⟩ (KpS.refl _ _) hi ⟨_, _, _, _, _, _, _, _, _, _, _, _, _, _, _, _, _, _, _, _, _, _, _, _, _, _, _, _, _, _, _, _, _, _, _, _, _, _, _, _, _, _, rfl⟩
          case body =>
            rintro l pre y a' WW hpre ⟨hc, hk, hm⟩ ⟨u5, u30, u31, u32, u33, u34, u35, u36, u37, u38, u39, u40, u41, u42, u43, u44, u45, u46, u47, u48, u49, u50, u51, u52, u53, u54, u55, u56, u57, u58, u59, u62, u63, u64, u65, u66, u67, u68, u69, u70, u71, u72, rfl⟩
            obtain ⟨v, hv1, hv2, hv3, hv4⟩ := hc
            obtain ⟨vA, vc, hv, _⟩ := own_form hv2
            subst hv
            have HV1 := Lib.hid hv1; have HV2 := Lib.hid hv2; have HV3 := Lib.hid hv3; have HV4 := Lib.hid hv4
            have HBKW := Lib.hid (hk.bk _ _ _ HBK7.out (by decide) (by decide) (by decide) (by decide) (fun e => absurd e (by decide)))
            have HKBW := Lib.hid (hk.bk _ _ _ HKK7.out (by decide) (by decide) (by decide) (by decide) (fun e => absurd e (by decide)))
            have HKW := Lib.hid hk; have HMW := Lib.hid hm; have HPR := Lib.hid hpre
            have l3 : WW.cell? ⟨bl, 0, none⟩ = some (.slice vA (zs ++ pre.map (runX k.id)).length vc) := hv1.cell 0
            have HXL : Hid ((zs ++ pre.map (runX k.id)).length ≤ 1004100) := Lib.hid (by
              have h1 := congrArg List.length HYS6.out
              rw [List.length_map, List.length_append] at h1
              have h2 : pre.length ≤ (runsL k.used true 0 k.used.length).length := (List.IsPrefix.length_le ((List.prefix_append pre [y]).trans hpre))
              have h3 := runsB_len k.used true k.used.length (k.used.length + 1 - 0) 0
              unfold runsL at h2
              rw [List.length_append, List.length_map, h1, ← HXN.out]
              omega)
            obtain ⟨xn, hxn⟩ : ∃ n, n = (zs ++ pre.map (runX k.id)).length := ⟨_, rfl⟩
            rw [← hxn] at l3 HV1 HV2 HXL
            have HXNE := Lib.hid hxn
            have hxl := HXL.out
            have HS8 := Lib.hid (And.intro (show WW.cell? ⟨bk, 0, none⟩ = some (.pointer (some ⟨x.kb, 0, none⟩)) from HBKW.out.cell 0) (show WW.cell? ⟨x.kb, 0, none⟩ = some (.int .i64 (k.id : Int)) from HKBW.out.cell 0))
            have hblw : bl < WW.heap.size := HV1.out.lt
            clear hv1 hv2 hv3 hv4 hk hm hpre hxn
            gi_upto_region 15 with fail
            refine wpIn_region_held8 (S := (fun W => W.cell? ⟨bk, 0, none⟩ = some (.pointer (some ⟨x.kb, 0, none⟩)) ∧ W.cell? ⟨x.kb, 0, none⟩ = some (.int .i64 (k.id : Int)))) (by kernel_rfl) (by kernel_rfl) (fun a w h => h) ?_ (fun hHeld => ?_)
            · (try dsimp only); first | exact HS8.out | exact ⟨(bkA (bkD HBKW.out)).cell 0, (bkA (bkD HKBW.out)).cell 0⟩ | exact HS9.out | exact ⟨(HBK9.out.keepL (KeepL.set w5 bl 0 (.slice A9 (xn + 1) d9)) (by simp only [List.mem_singleton]; exact HBK9.out.ne HL9.out (by decide))).cell 0, (HKB9.out.keepL (KeepL.set w5 bl 0 (.slice A9 (xn + 1) d9)) (by simp only [List.mem_singleton]; exact HKB9.out.ne HL9.out (by decide))).cell 0⟩
            refine wpAnyH_take (i := 1) (oi := ⟨some 63, _, _, _, _, _⟩) (v := ?_) rfl (by kernel_rfl) (by kernel_rfl) (by kernel_rfl) (fun _ _ _ h => h) (Or.inl ⟨by rfl, ?_⟩) (by assumption) ?_
            rotate_left
            · (intro w hSw; (try dsimp only at hSw); go_simp; try with_reducible rfl)
            try simp only [Act.put, List.setIfInBounds_toArray, List.set_cons_zero, List.set_cons_succ]
            refine wpAnyH_take (i := 2) (oi := ⟨some 64, _, _, _, _, _⟩) (v := ?_) rfl (by kernel_rfl) (by kernel_rfl) (by kernel_rfl) (fun _ _ _ h => h) (Or.inl ⟨by rfl, ?_⟩) (by assumption) ?_
            rotate_left
            · (intro w hSw; (try dsimp only at hSw); go_simp; try with_reducible rfl)
            try simp only [Act.put, List.setIfInBounds_toArray, List.set_cons_zero, List.set_cons_succ]
            refine wpAnyH_take (i := 3) (oi := ⟨some 65, _, _, _, _, _⟩) (v := ?_) rfl (by kernel_rfl) (by kernel_rfl) (by kernel_rfl) (fun _ _ _ h => h) (Or.inl ⟨by rfl, ?_⟩) (by assumption) ?_
            rotate_left
            · (intro w hSw; (try dsimp only at hSw); go_simp; try with_reducible rfl)
            try simp only [Act.put, List.setIfInBounds_toArray, List.set_cons_zero, List.set_cons_succ]
            refine wpAnyH_take (i := 4) (oi := ⟨some 66, _, _, _, _, _⟩) (v := ?_) rfl (by kernel_rfl) (by kernel_rfl) (by kernel_rfl) (fun _ _ _ h => h) (Or.inl ⟨by rfl, ?_⟩) (by assumption) ?_
            rotate_left
            · (intro w hSw; (try dsimp only at hSw); go_simp; try with_reducible rfl)
            try simp only [Act.put, List.setIfInBounds_toArray, List.set_cons_zero, List.set_cons_succ]
            refine wpAnyH_take (i := 5) (oi := ⟨some 67, _, _, _, _, _⟩) (v := ?_) rfl (by kernel_rfl) (by kernel_rfl) (by kernel_rfl) (fun _ _ _ h => h) (Or.inl ⟨by rfl, ?_⟩) (by assumption) ?_
            rotate_left
            · (intro w hSw; (try dsimp only at hSw); go_simp; try with_reducible rfl)
            try simp only [Act.put, List.setIfInBounds_toArray, List.set_cons_zero, List.set_cons_succ]
            refine wpAnyH_take (i := 6) (oi := ⟨some 68, _, _, _, _, _⟩) (v := ?_) rfl (by kernel_rfl) (by kernel_rfl) (by kernel_rfl) (fun _ _ _ h => h) (Or.inl ⟨by rfl, ?_⟩) (by assumption) ?_
            rotate_left
            · (intro w hSw; (try dsimp only at hSw); go_simp; try with_reducible rfl)
            try simp only [Act.put, List.setIfInBounds_toArray, List.set_cons_zero, List.set_cons_succ]
            refine wpAnyH_take (i := 7) (oi := ⟨some 69, _, _, _, _, _⟩) (v := ?_) rfl (by kernel_rfl) (by kernel_rfl) (by kernel_rfl) (fun _ _ _ h => h) (Or.inl ⟨by rfl, ?_⟩) (by assumption) ?_
            rotate_left
            · (intro w hSw; (try dsimp only at hSw); go_simp; try with_reducible rfl)
            try simp only [Act.put, List.setIfInBounds_toArray, List.set_cons_zero, List.set_cons_succ]
            refine wpAnyH_ready (rs := [0, 8]) (by kernel_rfl) (by simp) ?_
            refine AllReadyH.cons (o := ⟨some 62, _, _, _, _, _⟩) rfl (fun K hK => ?_) ?_
            · skip
              go_simp
              refine hK.out _ _ ?_ (fun hHeld => ?_)
              · (try dsimp only); first | exact HS8.out | exact ⟨(bkA (bkD HBKW.out)).cell 0, (bkA (bkD HKBW.out)).cell 0⟩ | exact HS9.out | exact ⟨(HBK9.out.keepL (KeepL.set w5 bl 0 (.slice A9 (xn + 1) d9)) (by simp only [List.mem_singleton]; exact HBK9.out.ne HL9.out (by decide))).cell 0, (HKB9.out.keepL (KeepL.set w5 bl 0 (.slice A9 (xn + 1) d9)) (by simp only [List.mem_singleton]; exact HKB9.out.ne HL9.out (by decide))).cell 0⟩
              clear hK K
              try simp only [Act.put, List.setIfInBounds_toArray, List.set_cons_zero, List.set_cons_succ]
              refine wpAnyH_ready (rs := [8]) (by kernel_rfl) (by simp) ?_
              refine AllReadyH.cons (o := ⟨some 70, _, _, _, _, _⟩) rfl (fun K hK => ?_) AllReadyH.nil
              go_simp
              refine hK.out _ _ ?_ (fun hHeld => ?_)
              · (try dsimp only); first | exact HS8.out | exact ⟨(bkA (bkD HBKW.out)).cell 0, (bkA (bkD HKBW.out)).cell 0⟩ | exact HS9.out | exact ⟨(HBK9.out.keepL (KeepL.set w5 bl 0 (.slice A9 (xn + 1) d9)) (by simp only [List.mem_singleton]; exact HBK9.out.ne HL9.out (by decide))).cell 0, (HKB9.out.keepL (KeepL.set w5 bl 0 (.slice A9 (xn + 1) d9)) (by simp only [List.mem_singleton]; exact HKB9.out.ne HL9.out (by decide))).cell 0⟩
              clear hK K
              try simp only [Act.put, List.setIfInBounds_toArray, List.set_cons_zero, List.set_cons_succ]
              refine wpAnyH_ready (rs := [9]) (by kernel_rfl) (by simp) ?_
              refine AllReadyH.cons (o := ⟨some 71, _, _, _, _, _⟩) rfl (fun K hK => ?_) AllReadyH.nil
              refine step_pushL8 elR8 (.tmp 62) (.tmp 70) rfl rfl w.heap.size xn _ (by rfl) (ownsRow_past8 HV2.out (below_drew8 WW _)) (by rfl) (by rfl) (fun u hu => by simp at hu; rcases hu with rfl | rfl | rfl | rfl | rfl | rfl <;> rfl) (by omega) (by decide) (Nat.le_trans HV4.out.size (below_drew8 WW WW.heap.size).size) ?_
              intro v9 w5 ho5 hb5 hg5 _
              obtain ⟨A9, d9, rfl, _⟩ := own_form ho5
              have HBKD := Lib.hid (bkD HBKW.out); have HKBD := Lib.hid (bkD HKBW.out); have HV1D := Lib.hid (bkD HV1.out); have HV2D := Lib.hid (ownsRow_past8 HV2.out (below_drew8 WW _))
              have HBK9 := Lib.hid (HBKD.out.keepL (keepL_grown hg5) (nob_ty HV2D.out HBKD.out (by decide))); have HKB9 := Lib.hid (HKBD.out.keepL (keepL_grown hg5) (nob_ty HV2D.out HKBD.out (by decide)))
              have HL9 := Lib.hid (HV1D.out.keepL (keepL_grown hg5) (nob_ty HV2D.out HV1D.out (by decide)))
              have l9 := HL9.out.cell 0; have lf9 := HL9.out.froz 0
              have HS9 := Lib.hid (And.intro (show w5.cell? ⟨bk, 0, none⟩ = some (.pointer (some ⟨x.kb, 0, none⟩)) from HBK9.out.cell 0) (show w5.cell? ⟨x.kb, 0, none⟩ = some (.int .i64 (k.id : Int)) from HKB9.out.cell 0))
              have HO9 := Lib.hid ho5; have HG9 := Lib.hid hg5
              clear ho5 hb5 hg5
              refine hK.out _ _ ?_ (fun hHeld => ?_)
              · (try dsimp only); first | exact HS8.out | exact ⟨(bkA (bkD HBKW.out)).cell 0, (bkA (bkD HKBW.out)).cell 0⟩ | exact HS9.out | exact ⟨(HBK9.out.keepL (KeepL.set w5 bl 0 (.slice A9 (xn + 1) d9)) (by simp only [List.mem_singleton]; exact HBK9.out.ne HL9.out (by decide))).cell 0, (HKB9.out.keepL (KeepL.set w5 bl 0 (.slice A9 (xn + 1) d9)) (by simp only [List.mem_singleton]; exact HKB9.out.ne HL9.out (by decide))).cell 0⟩
              clear hK K
              try simp only [Act.put, List.setIfInBounds_toArray, List.set_cons_zero, List.set_cons_succ]
              refine wpAnyH_ready (rs := [10]) (by kernel_rfl) (by simp) ?_
              refine AllReadyH.cons (o := ⟨none, _, _, _, _, _⟩) rfl (fun K hK => ?_) AllReadyH.nil
              go_simp
              refine hK.out _ _ ?_ (fun hHeld => ?_)
              · (try dsimp only); first | exact HS8.out | exact ⟨(bkA (bkD HBKW.out)).cell 0, (bkA (bkD HKBW.out)).cell 0⟩ | exact HS9.out | exact ⟨(HBK9.out.keepL (KeepL.set w5 bl 0 (.slice A9 (xn + 1) d9)) (by simp only [List.mem_singleton]; exact HBK9.out.ne HL9.out (by decide))).cell 0, (HKB9.out.keepL (KeepL.set w5 bl 0 (.slice A9 (xn + 1) d9)) (by simp only [List.mem_singleton]; exact HKB9.out.ne HL9.out (by decide))).cell 0⟩
              clear hK K
              try simp only [Act.put]
              refine wpAnyH_done (by kernel_rfl) ?_ _
              have HAPP := Lib.hid (cps_app (xs := zs ++ pre.map (runX k.id)) (ys := [runX k.id y]) HV1D.out (by rw [← HXNE.out]; exact HV2D.out) (fun x hx => ownsRow_past8 (HV3.out x hx) (below_drew8 WW _)) (bnextK HV4.out (below_drew8 WW _)) (fun z hz => by rw [List.mem_singleton] at hz; subst hz; exact World.ownsRow_nil _ _ _ _) (by rw [← HXNE.out]; exact HO9.out) HG9.out HBLE.out)
              generalize w5.setCell ⟨bl, 0, none⟩ _ = w9 at HAPP ⊢
              have HKF : Hid (KeepsFrom 0 WW w9) := Lib.hid (KeepsFrom.trans ⟨(below_drew8 WW 0).size, fun k o _ ho _ => ((below_drew8 WW WW.heap.size).block k (Array.getElem?_eq_some_iff.1 ho).1).trans ho⟩ HAPP.out.2.2)
              have HKP : Hid (KpS [] WW w9) := Lib.hid ((KpS.of_below (below_drew8 WW _)).trans HAPP.out.2.1)
              try gi_wp2_with fail
              exact ⟨keepsFrom_le HKF.out (Nat.zero_le _), HKP.out, by show CpS w bl (zs ++ (pre ++ [y]).map (runX k.id)) w9; rw [List.map_append, ← List.append_assoc]; exact HAPP.out.1, HKW.out.trans HKP.out, HMW.out.keepF (Nat.zero_le _) HKF.out⟩
            refine AllReadyH.cons (o := ⟨some 70, _, _, _, _, _⟩) rfl (fun K hK => ?_) AllReadyH.nil
            go_simp
            refine hK.out _ _ ?_ (fun hHeld => ?_)
            · (try dsimp only); first | exact HS8.out | exact ⟨(bkA (bkD HBKW.out)).cell 0, (bkA (bkD HKBW.out)).cell 0⟩ | exact HS9.out | exact ⟨(HBK9.out.keepL (KeepL.set w5 bl 0 (.slice A9 (xn + 1) d9)) (by simp only [List.mem_singleton]; exact HBK9.out.ne HL9.out (by decide))).cell 0, (HKB9.out.keepL (KeepL.set w5 bl 0 (.slice A9 (xn + 1) d9)) (by simp only [List.mem_singleton]; exact HKB9.out.ne HL9.out (by decide))).cell 0⟩
            clear hK K
            try simp only [Act.put, List.setIfInBounds_toArray, List.set_cons_zero, List.set_cons_succ]
            refine wpAnyH_ready (rs := [0]) (by kernel_rfl) (by simp) ?_
            refine AllReadyH.cons (o := ⟨some 62, _, _, _, _, _⟩) rfl (fun K hK => ?_) AllReadyH.nil
            go_simp
            refine hK.out _ _ ?_ (fun hHeld => ?_)
            · (try dsimp only); first | exact HS8.out | exact ⟨(bkA (bkD HBKW.out)).cell 0, (bkA (bkD HKBW.out)).cell 0⟩ | exact HS9.out | exact ⟨(HBK9.out.keepL (KeepL.set w5 bl 0 (.slice A9 (xn + 1) d9)) (by simp only [List.mem_singleton]; exact HBK9.out.ne HL9.out (by decide))).cell 0, (HKB9.out.keepL (KeepL.set w5 bl 0 (.slice A9 (xn + 1) d9)) (by simp only [List.mem_singleton]; exact HKB9.out.ne HL9.out (by decide))).cell 0⟩
            clear hK K
            try simp only [Act.put, List.setIfInBounds_toArray, List.set_cons_zero, List.set_cons_succ]
            refine wpAnyH_ready (rs := [9]) (by kernel_rfl) (by simp) ?_
            refine AllReadyH.cons (o := ⟨some 71, _, _, _, _, _⟩) rfl (fun K hK => ?_) AllReadyH.nil
            refine step_pushL8 elR8 (.tmp 62) (.tmp 70) rfl rfl w.heap.size xn _ (by rfl) (ownsRow_past8 HV2.out (below_drew8 WW _)) (by rfl) (by rfl) (fun u hu => by simp at hu; rcases hu with rfl | rfl | rfl | rfl | rfl | rfl <;> rfl) (by omega) (by decide) (Nat.le_trans HV4.out.size (below_drew8 WW WW.heap.size).size) ?_
            intro v9 w5 ho5 hb5 hg5 _
            obtain ⟨A9, d9, rfl, _⟩ := own_form ho5
            have HBKD := Lib.hid (bkD HBKW.out); have HKBD := Lib.hid (bkD HKBW.out); have HV1D := Lib.hid (bkD HV1.out); have HV2D := Lib.hid (ownsRow_past8 HV2.out (below_drew8 WW _))
            have HBK9 := Lib.hid (HBKD.out.keepL (keepL_grown hg5) (nob_ty HV2D.out HBKD.out (by decide))); have HKB9 := Lib.hid (HKBD.out.keepL (keepL_grown hg5) (nob_ty HV2D.out HKBD.out (by decide)))
            have HL9 := Lib.hid (HV1D.out.keepL (keepL_grown hg5) (nob_ty HV2D.out HV1D.out (by decide)))
            have l9 := HL9.out.cell 0; have lf9 := HL9.out.froz 0
            have HS9 := Lib.hid (And.intro (show w5.cell? ⟨bk, 0, none⟩ = some (.pointer (some ⟨x.kb, 0, none⟩)) from HBK9.out.cell 0) (show w5.cell? ⟨x.kb, 0, none⟩ = some (.int .i64 (k.id : Int)) from HKB9.out.cell 0))
            have HO9 := Lib.hid ho5; have HG9 := Lib.hid hg5
            clear ho5 hb5 hg5
            refine hK.out _ _ ?_ (fun hHeld => ?_)
            · (try dsimp only); first | exact HS8.out | exact ⟨(bkA (bkD HBKW.out)).cell 0, (bkA (bkD HKBW.out)).cell 0⟩ | exact HS9.out | exact ⟨(HBK9.out.keepL (KeepL.set w5 bl 0 (.slice A9 (xn + 1) d9)) (by simp only [List.mem_singleton]; exact HBK9.out.ne HL9.out (by decide))).cell 0, (HKB9.out.keepL (KeepL.set w5 bl 0 (.slice A9 (xn + 1) d9)) (by simp only [List.mem_singleton]; exact HKB9.out.ne HL9.out (by decide))).cell 0⟩
            clear hK K
            try simp only [Act.put, List.setIfInBounds_toArray, List.set_cons_zero, List.set_cons_succ]
            refine wpAnyH_ready (rs := [10]) (by kernel_rfl) (by simp) ?_
            refine AllReadyH.cons (o := ⟨none, _, _, _, _, _⟩) rfl (fun K hK => ?_) AllReadyH.nil
            go_simp
            refine hK.out _ _ ?_ (fun hHeld => ?_)
            · (try dsimp only); first | exact HS8.out | exact ⟨(bkA (bkD HBKW.out)).cell 0, (bkA (bkD HKBW.out)).cell 0⟩ | exact HS9.out | exact ⟨(HBK9.out.keepL (KeepL.set w5 bl 0 (.slice A9 (xn + 1) d9)) (by simp only [List.mem_singleton]; exact HBK9.out.ne HL9.out (by decide))).cell 0, (HKB9.out.keepL (KeepL.set w5 bl 0 (.slice A9 (xn + 1) d9)) (by simp only [List.mem_singleton]; exact HKB9.out.ne HL9.out (by decide))).cell 0⟩
            clear hK K
            try simp only [Act.put]
            refine wpAnyH_done (by kernel_rfl) ?_ _
            have HAPP := Lib.hid (cps_app (xs := zs ++ pre.map (runX k.id)) (ys := [runX k.id y]) HV1D.out (by rw [← HXNE.out]; exact HV2D.out) (fun x hx => ownsRow_past8 (HV3.out x hx) (below_drew8 WW _)) (bnextK HV4.out (below_drew8 WW _)) (fun z hz => by rw [List.mem_singleton] at hz; subst hz; exact World.ownsRow_nil _ _ _ _) (by rw [← HXNE.out]; exact HO9.out) HG9.out HBLE.out)
            generalize w5.setCell ⟨bl, 0, none⟩ _ = w9 at HAPP ⊢
            have HKF : Hid (KeepsFrom 0 WW w9) := Lib.hid (KeepsFrom.trans ⟨(below_drew8 WW 0).size, fun k o _ ho _ => ((below_drew8 WW WW.heap.size).block k (Array.getElem?_eq_some_iff.1 ho).1).trans ho⟩ HAPP.out.2.2)
            have HKP : Hid (KpS [] WW w9) := Lib.hid ((KpS.of_below (below_drew8 WW _)).trans HAPP.out.2.1)
            try gi_wp2_with fail
            exact ⟨keepsFrom_le HKF.out (Nat.zero_le _), HKP.out, by show CpS w bl (zs ++ (pre ++ [y]).map (runX k.id)) w9; rw [List.map_append, ← List.append_assoc]; exact HAPP.out.1, HKW.out.trans HKP.out, HMW.out.keepF (Nat.zero_le _) HKF.out⟩
          case done =>
            rintro D1 WW hD ⟨hc, hk, hm⟩ hK
            have HCD := Lib.hid hc
            have HKD := Lib.hid (HK7.out.trans hk)
            have HMD : Hid (Marks8 w3.heap.size ({ target := .collected D1, args := #[] } :: ds) WW) := Lib.hid ⟨⟨D1, rfl, Nat.le_trans HSZ.out.2 hD, hK, fun d' hd' e => by have := HMB.out d' hd' D1 e; omega⟩, hm⟩
            clear hc hk hm hK
            go_wp2_with fail
            exact ⟨r, by omega, i + 1, zs ++ (runsL k.used true 0 k.used.length).map (runX k.id), _, _, _, _, _, _, _, _, _, _, _, _, _, _, _, _, _, _, _, _, _, _, _, _, _, _, _, _, _, _, _, _, _, _, _, _, _, _, _, _, _, _, _, _, _, _, _, _, rfl, by omega, by rw [List.map_append, HYS6.out, HSU.out, HCK.out, List.map_map, List.append_assoc]; rfl, HCD.out, HKD.out, HMD.out⟩
          case stop =>
            rintro D1 c pre WW hD hpre h hK
            exact h.elim
        · have HCK : Hid (cptK k = []) := Lib.hid (by unfold cptK; rw [if_neg hin])
          have hdec : decide (false ∈ k.used) = false := by simpa using hin
          rw [hdec]
          clear hin hdec
          go_wp2_with fail
          exact ⟨r, by omega, i + 1, xs, ds, _, _, _, _, _, _, _, _, _, _, _, _, _, _, _, _, _, _, _, _, _, _, _, _, _, _, _, _, _, _, _, _, _, _, _, _, _, _, _, _, _, _, _, _, _, _, _, rfl, by omega, by rw [HSU.out, HCK.out, List.append_nil]; exact HXS.out, HC3.out, HK3.out, HM3.out⟩
    -- LOOP>
  · rw [if_neg he] at HC
    have HQ1 : Hid (q = (13, d, s)) := Lib.hid (by rw [HQ.out]; unfold StM.compactR; rw [if_pos he])
    clear hd hs hq hu he hbS
    go_enter Try.func14, Try.ntmps14
    go_upto_region 1 with fail
    rw [← hw1, ← hb1e]
    clear hw1 hb1 hb1e
    go_wp2_with fail
    refine HC.out.mono ?_
    rintro e w2 ⟨rfl, hqw⟩
    have HB2 := Lib.hid (bnextK HB1.out (hqw.below _))
    clear hqw HC
    go_wp2_with fail
    refine bodyPost_ret (a := Act.mk _ _) (results_tmp rfl _ _ _) rfl ?_
    exact CoP.none HD.out HS.out HQ1.out HB2.out []
end
#print axioms compact8_any
end Go.Proofs.Ytdgmjedkhjeadaa
/- StoreKnown: the walk. Conditions: none. -/
namespace Go.Proofs.Ytdgmjedkhjeadaa
open Go.RowKit
set_option linter.unusedVariables false
theorem fp_new {w w1 : World} {D bs bm : Nat} (hb : w.heap.size ≤ w1.heap.size) (h1 : w1.heap.size ≤ D) (h2 : w1.heap.size ≤ bs) (h3 : w1.heap.size ≤ bm) : ∀ k ∈ fpL D bs bm none, w.heap.size ≤ k := fun k hk => by
  unfold fpL at hk
  simp only [List.mem_cons, List.not_mem_nil, or_false] at hk
  rcases hk with rfl | rfl | rfl <;> omega
theorem bits_rd {X : World} {N n : Nat} {v : Value} {l : List Bool} (h : X.ownsRow N 4 1 v n (l.map Value.bool)) : ∃ A c, v = .slice A n c ∧ Rd X X.heap.size 1 A n (l.map Value.bool) := by
  obtain ⟨A, c, rfl, _⟩ := own_form h
  exact ⟨A, c, rfl, Rd.own h⟩
theorem ko8x_s : ko8.2.2 = some ks8 := ko8_2
theorem ko8x_r : ko8.1 = 0 := ko8_1
theorem kw1 : UseW ko8.2.1 ks8 ∧ True := ⟨ks8_use, trivial⟩
theorem kw2 : UseW ka8.2.1 ka8.2.2 ∧ True := ⟨ka8_use, trivial⟩
theorem ho_one {N : Nat} {W : World} {v : Value} (h : HoAt N W v [(7, [false, false, false, false])]) : ∃ (g c : Nat) (A : Option Addr) (cl : Nat), v = .slice (some ⟨g, 0, none⟩) 1 c ∧ W.cell? ⟨g, 0, none⟩ = some (.int .i64 7) ∧ W.cell? ⟨g, 1, none⟩ = some (.slice A 4 cl) ∧ Rd W W.heap.size 1 A 4 ([false, false, false, false].map Value.bool) := by
  obtain ⟨xs, hxs, ho, hb⟩ := h
  match xs, hxs with
  | [], hxs => simp at hxs
  | _ :: _ :: _, hxs => simp at hxs
  | [x], hxs =>
    simp at hxs
    have hx := hb x (by simp)
    unfold hoB at hx
    rw [hxs] at hx
    rcases ho.2 with ⟨_, h0⟩ | ⟨g, cap, cur, rfl, _, hh, _, _, _, htk⟩
    · simp at h0
    · have hbk : Bk W g cur 41 := hh
      have key : ∀ j, j < 2 → W.cell? ⟨g, j, none⟩ = (hoC [x])[j]? := fun j hj => by
        rw [hbk.cell, ← Array.getElem?_toList, ← htk, List.getElem?_take, if_pos (by simpa using hj)]
      have e0 := key 0 (by omega)
      have e1 := key 1 (by omega)
      simp [hoC, hxs] at e0 e1
      exact ⟨g, cap, x.2.1, x.2.2, rfl, e0, e1, Rd.own hx⟩
theorem pcr_new (W : World) : PcR (W.alloc (.cells #[.int .i64 7, .int .i64 0, .int .i64 2] 45)) (.slice (some ⟨W.heap.size, 0, none⟩) 1 1) [⟨7, 0, 2⟩] := by
  refine ⟨_, 1, rfl, fun i p hp => ?_⟩
  have hb := Bk.new W #[.int .i64 7, .int .i64 0, .int .i64 2] 45
  cases i with
  | zero =>
    simp at hp
    subst hp
    exact ⟨W.heap.size, rfl, hb.lt, hb.cell 0, hb.cell 1, hb.cell 2⟩
  | succ i => simp at hp
set_option maxRecDepth 100000 in
set_option maxHeartbeats 4000000 in
theorem StoreKnown_walk (w : World) : Calls Try.prog 3 #[] w fun e w' => e = .returned (.bool true) ∧ Below w.heap.size w w' := by
  go_enter Try.func3, Try.ntmps3
  go_wp2_with fail
  refine (newDisk_any 1 w).mono ?_
  rintro e w1 ⟨h1, _, hb1⟩
  obtain rfl := h1 (by omega)
  have HB1 := Lib.hid hb1
  clear h1 hb1
  go_wp2_with fail
  refine (newDisk_any 4 w1).mono ?_
  rintro e w2 ⟨_, h2, hb2⟩
  obtain ⟨D1, bs1, bm1, rfl, hd, hD, hbs, hbm⟩ := h2 (by omega)
  have HB2 := Lib.hid (bnextK HB1.out hb2); have HD2 : Hid (DkAt w2 D1 (Dk.new 4) bs1 bm1 4 none) := Lib.hid hd
  have HFP2 := Lib.hid (fp_new HB1.out.size hD hbs hbm)
  clear h2 hb2 hd hD hbs hbm
  have HOP := Lib.hid (open_any HD2.out ⟨by decide, by decide⟩ 0)
  go_upto_region 3 with fail
  go_wp2_with fail
  refine HOP.out.mono ?_
  intro e w3 hop
  have hop : OpnP D1 bs1 bm1 4 none k1 w2 e w3 := hop
  obtain ⟨S0, p3, F3, B3, rfl, hd, hst, hfp, hbl⟩ := hop.out (N := w.heap.size) k1_s (fun k hk => HFP2.out k hk) HB2.out.size
  rw [show (k1).1 = 0 from k1_r]
  have HD3 := Lib.hid hd; have HS3 := Lib.hid hst; have HFP3 := Lib.hid hfp; have HB3 := Lib.hid (HB2.out.trans hbl)
  clear hd hst hfp hbl hop HOP
  have HU := Lib.hid (useB_w k1_u)
  have HRR := Lib.hid (show Calls Try.prog 6 #[.pointer (some ⟨D1, 0, none⟩)] w3 (fun e w' => e = .returned (.int .i64 ((4 : Nat) : Int)) ∧ w3 = w') by have h := dsize_any HD3.out; rw [show k1.2.1.dur.length = 4 from k1_v.1] at h; exact h)
  go_wp2_with fail
  refine HRR.out.mono ?_
  rintro e w' ⟨rfl, rfl⟩
  clear HRR
  have HRR := Lib.hid (show Calls Try.prog 7 #[.pointer (some ⟨S0, 0, none⟩)] w3 (fun e w' => e = .returned (.int .i64 ((1 : Nat) : Int)) ∧ Qw w3 w') by have h := room_any HD3.out HS3.out (fun _ => HU.out.1.u.place); rw [show ks1.room k1.2.1 = 1 from k1_v.2.1] at h; exact h)
  go_wp2_with fail
  refine HRR.out.mono ?_
  rintro e w4 ⟨rfl, hq⟩
  have hb : Below w3.heap.size w3 w4 := hq.below _
  clear HRR
  have HB4 := Lib.hid (bnextK HB3.out hb); have HD4 := Lib.hid (HD3.out.far hb)
  have HS4 := Lib.hid (HS3.out.far hb)
  have HFP4 := Lib.hid HFP3.out
  clear hb HB3 HD3 HFP3 HS3
  have HRR := Lib.hid (show Calls Try.prog 8 #[.pointer (some ⟨S0, 0, none⟩)] w4 (fun e w' => e = .returned (.int .i64 ((0 : Nat) : Int)) ∧ Qw w4 w') by have h := last_any HD4.out HS4.out; rw [show ks1.last k1.2.1 = 0 from k1_v.2.2.1] at h; exact h)
  go_wp2_with fail
  refine HRR.out.mono ?_
  rintro e w5 ⟨rfl, hq⟩
  have hb : Below w4.heap.size w4 w5 := hq.below _
  clear HRR
  have HB5 := Lib.hid (bnextK HB4.out hb); have HD5 := Lib.hid (HD4.out.far hb)
  have HS5 := Lib.hid (HS4.out.far hb)
  have HFP5 := Lib.hid HFP4.out
  clear hb HB4 HD4 HFP4 HS4
  have HRR := Lib.hid (show Calls Try.prog 9 #[.pointer (some ⟨S0, 0, none⟩)] w5 (fun e w' => ∃ v, e = .returned v ∧ HoAt w5.heap.size w' v [] ∧ Below w5.heap.size w5 w') by have h := keys8_any HD5.out HS5.out; rw [k1_v.2.2.2] at h; exact h)
  go_wp2_with fail
  refine HRR.out.mono ?_
  rintro e w6 ⟨v, rfl, hho, hbk⟩
  have hb : Below w5.heap.size w5 w6 := hbk
  clear HRR
  have HB6 := Lib.hid (bnextK HB5.out hb); have HD6 := Lib.hid (HD5.out.far hb)
  have HS6 := Lib.hid (HS5.out.far hb)
  have HFP6 := Lib.hid HFP5.out
  clear hb HB5 HD5 HFP5 HS5
  obtain ⟨xs, hxs, hox, _⟩ := hho
  obtain rfl : xs = [] := by simpa using hxs
  obtain ⟨vA, vc, rfl, _⟩ := own_form hox
  clear hox hxs hbk
  clear HU
  go_upto_region 6 with fail
  obtain ⟨wx, hwx⟩ : ∃ z, z = w6.alloc (.cells #[.bool true, .bool false, .bool true, .bool false] 4) := ⟨_, rfl⟩
  have hbx : Below w6.heap.size w6 wx := by rw [hwx]; exact balloc _ _
  have hrd : Rd wx wx.heap.size 1 (some ⟨w6.heap.size, 0, none⟩) 4 ([true, false, true, false].map Value.bool) := by
    rw [hwx, World.size_alloc]; exact Rd.new w6 #[.bool true, .bool false, .bool true, .bool false] 4 1 4 rfl
  have HBX := Lib.hid (bnextK HB6.out hbx)
  have HDX := Lib.hid (HD6.out.far hbx); have HSX := Lib.hid (HS6.out.far hbx)
  have HAD := Lib.hid (add8_any HDX.out HSX.out (fun _ => ⟨(useB_w k1_u).1.u, (useB_w k1_u).1.e⟩) 7 (some ⟨w6.heap.size, 0, none⟩) 4 4 [true, false, true, false] (by omega) (by omega) hrd)
  have HWX := Lib.hid hwx
  clear hbx hrd hwx
  go_wp2_with fail
  rw [← HWX.out]
  refine HAD.out.mono ?_
  rintro e w7 ⟨he, hsy⟩
  have he : e = .returned (.int .i64 0) := by rw [he]; exact congrArg (fun z : Int => Ending.returned (.int .i64 z)) k2_r
  subst he
  have hsy : SysM wx w7 D1 S0 bs1 bm1 4 _ _ _ [] k2.2.1 k2.2.2 := hsy
  obtain ⟨p7, F7, B7, hd, hs, hfp, hbl⟩ := hsy.out HFP6.out HBX.out.size
  have HD7 := Lib.hid hd; have HS7 := Lib.hid hs; have HFP7 := Lib.hid hfp; have HB7 := Lib.hid (HBX.out.trans hbl)
  clear hd hs hfp hbl hsy HAD HWX HBX HDX HSX HD6 HS6 HFP6 HB6
  go_upto_region 7 with fail
  obtain ⟨wx, hwx⟩ : ∃ z, z = w7.alloc (.cells #[.bool true] 4) := ⟨_, rfl⟩
  have hbx : Below w7.heap.size w7 wx := by rw [hwx]; exact balloc _ _
  have hrd : Rd wx wx.heap.size 1 (some ⟨w7.heap.size, 0, none⟩) 1 ([true].map Value.bool) := by
    rw [hwx, World.size_alloc]; exact Rd.new w7 #[.bool true] 4 1 1 rfl
  have HBX := Lib.hid (bnextK HB7.out hbx)
  have HDX := Lib.hid (HD7.out.far hbx); have HSX := Lib.hid (HS7.out.far hbx)
  have HAD := Lib.hid (add8_any HDX.out HSX.out (fun _ => ⟨(useB_w k2_u).1.u, (useB_w k2_u).1.e⟩) 8 (some ⟨w7.heap.size, 0, none⟩) 1 1 [true] (by omega) (by omega) hrd)
  have HWX := Lib.hid hwx
  clear hbx hrd hwx
  go_wp2_with fail
  rw [← HWX.out]
  refine HAD.out.mono ?_
  rintro e w8 ⟨he, hsy⟩
  have he : e = .returned (.int .i64 12) := by rw [he]; exact congrArg (fun z : Int => Ending.returned (.int .i64 z)) k3_r
  subst he
  have hsy : SysM wx w8 D1 S0 bs1 bm1 4 _ _ _ [] k3.2.1 k3.2.2 := hsy
  obtain ⟨p8, F8, B8, hd, hs, hfp, hbl⟩ := hsy.out HFP7.out HBX.out.size
  have HD8 := Lib.hid hd; have HS8 := Lib.hid hs; have HFP8 := Lib.hid hfp; have HB8 := Lib.hid (HBX.out.trans hbl)
  clear hd hs hfp hbl hsy HAD HWX HBX HDX HSX HD7 HS7 HFP7 HB7
  have HTK := Lib.hid (take_any HD8.out HS8.out (fun _ => (useB_w k3_u).1) 1 (by omega))
  go_wp2_with fail
  refine HTK.out.mono ?_
  intro e w9 htk
  have htk : TakP D1 S0 bs1 bm1 4 _ _ _ k4 w8 e w9 := htk
  obtain ⟨v, bv, rfl, ho, hob, hsy⟩ := htk
  obtain ⟨p9, F9, B9, hd, hs, hfp, hbl⟩ := hsy.out HFP8.out HB8.out.size
  have HD9 := Lib.hid hd; have HS9 := Lib.hid hs; have HFP9 := Lib.hid hfp; have HB9 := Lib.hid (HB8.out.trans hbl)
  rw [show k4.1 = 12 from k4_r]
  obtain ⟨vA, vc, rfl, _⟩ := own_form ho
  obtain ⟨bA, bc, rfl, _⟩ := own_form hob
  generalize (k4.2.1).length = nv
  generalize (k4.2.2.1).length = nb
  clear ho hob
  clear hd hs hfp hbl hsy HTK HD8 HS8 HFP8 HB8
  have HRR := Lib.hid (show Calls Try.prog 12 #[.pointer (some ⟨D1, 0, none⟩), .int .i64 0, .int .i64 15] w9 (fun e w' => e = .returned (.string ⟨#[0, 0, 0, 1, 0, 0, 0, 0, 5, 5, 0, 0, 0, 0, 0]⟩) ∧ Below w9.heap.size w9 w') by have h := first8_any HD9.out 0 15 (by rw [k4_v.2.2.1]; omega) (by omega); rw [k4_v.2.2.2.1] at h; exact h)
  go_wp2_with fail
  refine HRR.out.mono ?_
  rintro e w10 ⟨rfl, hbf⟩
  have hb : Below w9.heap.size w9 w10 := hbf
  clear HRR
  have HB10 := Lib.hid (bnextK HB9.out hb); have HD10 := Lib.hid (HD9.out.far hb)
  have HS10 := Lib.hid (HS9.out.far hb)
  have HFP10 := Lib.hid HFP9.out
  clear hb HB9 HD9 HFP9 HS9
  have HRR := Lib.hid (show Calls Try.prog 12 #[.pointer (some ⟨D1, 0, none⟩), .int .i64 1, .int .i64 18] w10 (fun e w' => e = .returned (.string ⟨#[0, 0, 0, 1, 0, 0, 0, 1, 1, 7, 0, 0, 0, 7, 0, 4, 160, 0]⟩) ∧ Below w10.heap.size w10 w') by have h := first8_any HD10.out 1 18 (by rw [k4_v.2.2.1]; omega) (by omega); rw [k4_v.2.2.2.2] at h; exact h)
  go_wp2_with fail
  refine HRR.out.mono ?_
  rintro e w11 ⟨rfl, hbf⟩
  have hb : Below w10.heap.size w10 w11 := hbf
  clear HRR
  have HB11 := Lib.hid (bnextK HB10.out hb); have HD11 := Lib.hid (HD10.out.far hb)
  have HS11 := Lib.hid (HS10.out.far hb)
  have HFP11 := Lib.hid HFP10.out
  clear hb HB10 HD10 HFP10 HS10
  have HRR := Lib.hid (show Calls Try.prog 13 #[.pointer (some ⟨S0, 0, none⟩), .int .i64 0] w11 (RetN 2 w11) by have h := left8_any HD11.out HS11.out 0; rw [k4_v.1] at h; exact h)
  go_wp2_with fail
  refine HRR.out.mono ?_
  rintro e w12 ⟨rfl, hbf⟩
  have hb : Below w11.heap.size w11 w12 := hbf
  clear HRR
  have HB12 := Lib.hid (bnextK HB11.out hb); have HD12 := Lib.hid (HD11.out.far hb)
  have HS12 := Lib.hid (HS11.out.far hb)
  have HFP12 := Lib.hid HFP11.out
  clear hb HB11 HD11 HFP11 HS11
  have HRR := Lib.hid (show Calls Try.prog 13 #[.pointer (some ⟨S0, 0, none⟩), .int .i64 1] w12 (RetN 2 w12) by have h := left8_any HD12.out HS12.out 1; rw [k4_v.2.1] at h; exact h)
  go_wp2_with fail
  refine HRR.out.mono ?_
  rintro e w13 ⟨rfl, hbf⟩
  have hb : Below w12.heap.size w12 w13 := hbf
  clear HRR
  have HB13 := Lib.hid (bnextK HB12.out hb); have HD13 := Lib.hid (HD12.out.far hb)
  have HS13 := Lib.hid (HS12.out.far hb)
  have HFP13 := Lib.hid HFP12.out
  clear hb HB12 HD12 HFP12 HS12
  have HCM := Lib.hid (compact8_any HD13.out HS13.out (fun _ => ⟨(useB_w k4_u).1, (useB_w k4_u).2.1, (useB_w k4_u).2.2.1⟩))
  go_wp2_with fail
  refine HCM.out.mono ?_
  rintro e w14 ⟨he, hsy⟩
  have he : e = .returned (.int .i64 0) := by rw [he]; exact congrArg (fun z : Int => Ending.returned (.int .i64 z)) k5_r
  subst he
  have hsy : SysM w13 w14 D1 S0 bs1 bm1 4 _ _ _ [] k5.2.1 k5.2.2 := hsy
  obtain ⟨p14, F14, B14, hd, hs, hfp, hbl⟩ := hsy.out HFP13.out HB13.out.size
  have HD14 := Lib.hid hd; have HS14 := Lib.hid hs; have HFP14 := Lib.hid hfp; have HB14 := Lib.hid (HB13.out.trans hbl)
  clear hd hs hfp hbl hsy HCM HD13 HS13 HFP13 HB13
  have HU := Lib.hid (useB_w k5_u)
  have HRR := Lib.hid (show Calls Try.prog 7 #[.pointer (some ⟨S0, 0, none⟩)] w14 (fun e w' => e = .returned (.int .i64 ((0 : Nat) : Int)) ∧ Qw w14 w') by have h := room_any HD14.out HS14.out (fun _ => HU.out.1.u.place); rw [show k5.2.2.room k5.2.1 = 0 from k5_v] at h; exact h)
  go_wp2_with fail
  refine HRR.out.mono ?_
  rintro e w15 ⟨rfl, hq⟩
  have hb : Below w14.heap.size w14 w15 := hq.below _
  clear HRR
  have HB15 := Lib.hid (bnextK HB14.out hb); have HD15 := Lib.hid (HD14.out.far hb)
  have HS15 := Lib.hid (HS14.out.far hb)
  have HFP15 := Lib.hid HFP14.out
  clear hb HB14 HD14 HFP14 HS14
  clear HU
  have HOP := Lib.hid (open_any HD15.out (useB_w k5_u).2.2.2.2 1)
  go_upto_region 13 with fail
  go_wp2_with fail
  refine HOP.out.mono ?_
  intro e w16 hop
  have hop : OpnP D1 bs1 bm1 4 p14 k6 w15 e w16 := hop
  obtain ⟨⟨p16, hd, hp⟩, hk, hc⟩ := hop
  obtain ⟨_, rfl⟩ : _ ∧ e = _ := by
    rcases hc with h | ⟨s', S', F', B', h, _⟩
    · exact h
    · rw [show (k6).2.2 = none from k6_s] at h; cases h
  rw [show (k6).1 = 11 from k6_r]
  have HD16 := Lib.hid hd; have HB16 := Lib.hid (HB15.out.trans (hk.below HB15.out.size (fun k hk => HFP15.out k (List.mem_append_left _ hk))))
  have HFP16 : Hid (∀ k ∈ fpL D1 bs1 bm1 p16 ++ ([] : List Nat), w.heap.size ≤ k) := Lib.hid (fun k hk' => by
    rw [List.append_nil] at hk'
    by_cases hlt : k < w15.heap.size
    · exact HFP15.out k (List.mem_append_left _ (hp.fp D1 bs1 bm1 k hk' hlt))
    · exact Nat.le_trans HB15.out.size (Nat.le_of_not_lt hlt))
  clear hd hp hk hc HOP
  have HOP := Lib.hid (open_any HD16.out k6_d 0)
  go_upto_region 14 with fail
  go_wp2_with fail
  refine HOP.out.mono ?_
  intro e w17 hop
  have hop : OpnP D1 bs1 bm1 4 p16 k7 w16 e w17 := hop
  obtain ⟨S1, p17, F17, B17, rfl, hd, hst, hfp, hbl⟩ := hop.out (N := w.heap.size) k7_s (fun k hk => HFP16.out k (List.mem_append_left _ hk)) HB16.out.size
  rw [show (k7).1 = 0 from k7_r]
  have HD17 := Lib.hid hd; have HS17 := Lib.hid hst; have HFP17 := Lib.hid hfp; have HB17 := Lib.hid (HB16.out.trans hbl)
  clear hd hst hfp hbl hop HOP
  have HRR := Lib.hid (show Calls Try.prog 9 #[.pointer (some ⟨S1, 0, none⟩)] w17 (fun e w' => ∃ v, e = .returned v ∧ HoAt w17.heap.size w' v [(7, [false, false, false, false])] ∧ Below w17.heap.size w17 w') by have h := keys8_any HD17.out HS17.out; rw [k7_v] at h; exact h)
  go_wp2_with fail
  refine HRR.out.mono ?_
  rintro e w18 ⟨v, rfl, hho, hbk⟩
  have hb : Below w17.heap.size w17 w18 := hbk
  clear HRR
  have HB18 := Lib.hid (bnextK HB17.out hb); have HD18 := Lib.hid (HD17.out.far hb)
  have HS18 := Lib.hid (HS17.out.far hb)
  have HFP18 := Lib.hid HFP17.out
  clear hb HB17 HD17 HFP17 HS17
  obtain ⟨hg, hc, hA, hl, rfl, h0, h1, hrb⟩ := ho_one hho
  have HRB := Lib.hid hrb
  have HCT := Lib.hid (refCount_any hA 4 hl [false, false, false, false] w18 _ (by omega) HRB.out)
  clear hho hrb hbk
  go_wp2_with fail
  refine HCT.out.mono ?_
  rintro e w' ⟨rfl, rfl⟩
  clear HCT h0 h1
  go_upto_region 18 with fail
  go_wp2_with fail
  refine (newDisk_any 8 w18).mono ?_
  rintro e w19 ⟨_, h2, hb⟩
  obtain ⟨D2, bs2, bm2, rfl, hd, hD, hbs, hbm⟩ := h2 (by omega)
  have HB19 := Lib.hid (bnextK HB18.out hb); have HD19 : Hid (DkAt w19 D2 (Dk.new 8) bs2 bm2 8 none) := Lib.hid hd
  have HFP19 := Lib.hid (fp_new HB18.out.size hD hbs hbm)
  clear h2 hb hd hD hbs hbm HD18 HS18 HFP18 HB18 HRB
  have HOP := Lib.hid (open_any HD19.out ⟨by decide, by decide⟩ 0)
  go_wp2_with fail
  refine HOP.out.mono ?_
  intro e w20 hop
  have hop : OpnP D2 bs2 bm2 8 none ko8 w19 e w20 := hop
  obtain ⟨S2, p20, F20, B20, rfl, hd, hst, hfp, hbl⟩ := hop.out (N := w.heap.size) ko8x_s (fun k hk => HFP19.out k hk) HB19.out.size
  rw [show (ko8).1 = 0 from ko8x_r]
  have HD20 := Lib.hid hd; have HS20 := Lib.hid hst; have HFP20 := Lib.hid hfp; have HB20 := Lib.hid (HB19.out.trans hbl)
  clear hd hst hfp hbl hop HOP
  go_upto_region 20 with fail
  obtain ⟨wx, hwx⟩ : ∃ z, z = w20.alloc (.cells #[.bool true, .bool false, .bool true, .bool false] 4) := ⟨_, rfl⟩
  have hbx : Below w20.heap.size w20 wx := by rw [hwx]; exact balloc _ _
  have hrd : Rd wx wx.heap.size 1 (some ⟨w20.heap.size, 0, none⟩) 4 ([true, false, true, false].map Value.bool) := by
    rw [hwx, World.size_alloc]; exact Rd.new w20 #[.bool true, .bool false, .bool true, .bool false] 4 1 4 rfl
  have HBX := Lib.hid (bnextK HB20.out hbx)
  have HDX := Lib.hid (HD20.out.far hbx); have HSX := Lib.hid (HS20.out.far hbx)
  have HAD := Lib.hid (add8_any HDX.out HSX.out (fun _ => ⟨(kw1).1.u, (kw1).1.e⟩) 7 (some ⟨w20.heap.size, 0, none⟩) 4 4 [true, false, true, false] (by omega) (by omega) hrd)
  have HWX := Lib.hid hwx
  clear hbx hrd hwx
  go_wp2_with fail
  rw [← HWX.out]
  refine HAD.out.mono ?_
  rintro e w21 ⟨he, hsy⟩
  have he : e = .returned (.int .i64 0) := by rw [he]; exact congrArg (fun z : Int => Ending.returned (.int .i64 z)) ka8_1
  subst he
  have hsy : SysM wx w21 D2 S2 bs2 bm2 8 _ _ _ [] ka8.2.1 ka8.2.2 := hsy
  obtain ⟨p21, F21, B21, hd, hs, hfp, hbl⟩ := hsy.out HFP20.out HBX.out.size
  have HD21 := Lib.hid hd; have HS21 := Lib.hid hs; have HFP21 := Lib.hid hfp; have HB21 := Lib.hid (HBX.out.trans hbl)
  clear hd hs hfp hbl hsy HAD HWX HBX HDX HSX HD20 HS20 HFP20 HB20
  go_upto_region 21 with fail
  obtain ⟨wx, hwx⟩ : ∃ z, z = w21.alloc (.cells #[.bool true, .bool true] 4) := ⟨_, rfl⟩
  have hbx : Below w21.heap.size w21 wx := by rw [hwx]; exact balloc _ _
  have hrd : Rd wx wx.heap.size 1 (some ⟨w21.heap.size, 0, none⟩) 2 ([true, true].map Value.bool) := by
    rw [hwx, World.size_alloc]; exact Rd.new w21 #[.bool true, .bool true] 4 1 2 rfl
  have HBX := Lib.hid (bnextK HB21.out hbx)
  have HDX := Lib.hid (HD21.out.far hbx); have HSX := Lib.hid (HS21.out.far hbx)
  have HAD := Lib.hid (add8_any HDX.out HSX.out (fun _ => ⟨(kw2).1.u, (kw2).1.e⟩) 9 (some ⟨w21.heap.size, 0, none⟩) 2 2 [true, true] (by omega) (by omega) hrd)
  have HWX := Lib.hid hwx
  clear hbx hrd hwx
  go_wp2_with fail
  rw [← HWX.out]
  refine HAD.out.mono ?_
  rintro e w22 ⟨he, hsy⟩
  have he : e = .returned (.int .i64 0) := by rw [he]; exact congrArg (fun z : Int => Ending.returned (.int .i64 z)) m3_r
  subst he
  have hsy : SysM wx w22 D2 S2 bs2 bm2 8 _ _ _ [] m3.2.1 m3.2.2 := hsy
  obtain ⟨p22, F22, B22, hd, hs, hfp, hbl⟩ := hsy.out HFP21.out HBX.out.size
  have HD22 := Lib.hid hd; have HS22 := Lib.hid hs; have HFP22 := Lib.hid hfp; have HB22 := Lib.hid (HBX.out.trans hbl)
  clear hd hs hfp hbl hsy HAD HWX HBX HDX HSX HD21 HS21 HFP21 HB21
  have HU := Lib.hid (useB_w m3_u)
  have HRR := Lib.hid (show Calls Try.prog 7 #[.pointer (some ⟨S2, 0, none⟩)] w22 (fun e w' => e = .returned (.int .i64 ((1 : Nat) : Int)) ∧ Qw w22 w') by have h := room_any HD22.out HS22.out (fun _ => HU.out.1.u.place); rw [show m3.2.2.room m3.2.1 = 1 from m3_v] at h; exact h)
  go_wp2_with fail
  refine HRR.out.mono ?_
  rintro e w23 ⟨rfl, hq⟩
  have hb : Below w22.heap.size w22 w23 := hq.below _
  clear HRR
  have HB23 := Lib.hid (bnextK HB22.out hb); have HD23 := Lib.hid (HD22.out.far hb)
  have HS23 := Lib.hid (HS22.out.far hb)
  have HFP23 := Lib.hid HFP22.out
  clear hb HB22 HD22 HFP22 HS22
  clear HU
  have HTK := Lib.hid (take_any HD23.out HS23.out (fun _ => (useB_w m3_u).1) 3 (by omega))
  go_wp2_with fail
  refine HTK.out.mono ?_
  intro e w24 htk
  have htk : TakP D2 S2 bs2 bm2 8 _ _ _ m4 w23 e w24 := htk
  obtain ⟨v, bv, rfl, ho, hob, hsy⟩ := htk
  obtain ⟨p24, F24, B24, hd, hs, hfp, hbl⟩ := hsy.out HFP23.out HB23.out.size
  have HD24 := Lib.hid hd; have HS24 := Lib.hid hs; have HFP24 := Lib.hid hfp; have HB24 := Lib.hid (HB23.out.trans hbl)
  rw [show m4.1 = 12 from m4_r]
  obtain ⟨vA, vc, rfl, _⟩ := own_form ho
  obtain ⟨bA, bc, rfl, _⟩ := own_form hob
  generalize (m4.2.1).length = nv
  generalize (m4.2.2.1).length = nb
  clear ho hob
  clear hd hs hfp hbl hsy HTK HD23 HS23 HFP23 HB23
  have HTK := Lib.hid (take_any HD24.out HS24.out (fun _ => (useB_w m4_u).1) 2 (by omega))
  go_wp2_with fail
  refine HTK.out.mono ?_
  intro e w25 htk
  have htk : TakP D2 S2 bs2 bm2 8 _ _ _ m5 w24 e w25 := htk
  obtain ⟨v, bv, rfl, ho, hob, hsy⟩ := htk
  obtain ⟨p25, F25, B25, hd, hs, hfp, hbl⟩ := hsy.out HFP24.out HB24.out.size
  have HD25 := Lib.hid hd; have HS25 := Lib.hid hs; have HFP25 := Lib.hid hfp; have HB25 := Lib.hid (HB24.out.trans hbl)
  rw [show m5.1 = 0 from m5_r.1]
  rw [show m5.2.1 = [⟨7, 0, 2⟩] from m5_r.2.1] at ho
  rw [show m5.2.2.1 = [true, false] from m5_r.2.2] at hob
  have ho : w25.ownsRow w24.heap.size 45 3 v 1 (pcC [⟨7, 0, 2⟩]) := ho
  have hob : w25.ownsRow w24.heap.size 4 1 bv 2 ([true, false].map Value.bool) := hob
  have HPC := Lib.hid (PcR.of_own (ps := [⟨7, 0, 2⟩]) ho)
  obtain ⟨vA, vc, rfl, _⟩ := own_form ho
  obtain ⟨bA, bc, rfl, hrb⟩ := bits_rd hob
  have HRB := Lib.hid hrb
  clear ho hob hrb
  clear hd hs hfp hbl hsy HTK HD24 HS24 HFP24 HB24
  obtain ⟨wx, hwx⟩ : ∃ z, z = w25.alloc (.cells #[.int .i64 7, .int .i64 0, .int .i64 2] 45) := ⟨_, rfl⟩
  have hbx : Below w25.heap.size w25 wx := by rw [hwx]; exact balloc _ _
  have HSP := Lib.hid (samePc8_any (HPC.out.far hbx) (by rw [hwx]; exact pcr_new w25))
  have HWX := Lib.hid hwx; have HBX := Lib.hid hbx
  clear hwx hbx
  go_wp2_with fail
  rw [← HWX.out]
  refine HSP.out.mono ?_
  rintro e w26 ⟨rfl, hb'⟩
  have hb := bnextK HBX.out hb'
  have HRB2 := Lib.hid ((HRB.out.mono (Nat.le_refl _)).below hb)
  have HSZ := Lib.hid hb.size
  clear hb' HSP HWX HBX HPC
  have HB26 := Lib.hid (bnextK HB25.out hb); have HD26 := Lib.hid (HD25.out.far hb)
  have HS26 := Lib.hid (HS25.out.far hb)
  have HFP26 := Lib.hid HFP25.out
  clear hb HB25 HD25 HFP25 HS25
  obtain ⟨wx, hwx⟩ : ∃ z, z = w26.alloc (.cells #[.bool true, .bool false] 4) := ⟨_, rfl⟩
  have hbx : Below w26.heap.size w26 wx := by rw [hwx]; exact balloc _ _
  have hrd : Rd wx wx.heap.size 1 (some ⟨w26.heap.size, 0, none⟩) 2 ([true, false].map Value.bool) := by
    rw [hwx, World.size_alloc]; exact Rd.new w26 #[.bool true, .bool false] 4 1 2 rfl
  have hr1 : Rd wx wx.heap.size 1 bA 2 ([true, false].map Value.bool) := by
    exact ((HRB2.out.mono HSZ.out).below hbx).mono hbx.size
  have HSM := Lib.hid (Same_any bA (some ⟨w26.heap.size, 0, none⟩) 2 2 bc 2 [true, false] [true, false] wx (by omega) (by omega) hr1 hrd)
  rw [show sameB [true, false] [true, false] = true by decide] at HSM
  have HWX := Lib.hid hwx; have HBX := Lib.hid hbx
  clear hwx hbx hrd hr1
  go_wp2_with fail
  rw [← HWX.out]
  refine HSM.out.mono ?_
  rintro e w27 ⟨rfl, hb'⟩
  have hb := bnextK HBX.out hb'
  clear hb' HSM HWX HBX HRB2 HRB
  have HB27 := Lib.hid (bnextK HB26.out hb); have HD27 := Lib.hid (HD26.out.far hb)
  have HS27 := Lib.hid (HS26.out.far hb)
  have HFP27 := Lib.hid HFP26.out
  clear hb HB26 HD26 HFP26 HS26
  have HCM := Lib.hid (compact8_any HD27.out HS27.out (fun _ => ⟨(useB_w m5_u).1, (useB_w m5_u).2.1, (useB_w m5_u).2.2.1⟩))
  go_wp2_with fail
  refine HCM.out.mono ?_
  rintro e w28 ⟨he, hsy⟩
  have he : e = .returned (.int .i64 0) := by rw [he]; exact congrArg (fun z : Int => Ending.returned (.int .i64 z)) m6_r
  subst he
  have hsy : SysM w27 w28 D2 S2 bs2 bm2 8 _ _ _ [] m6.2.1 m6.2.2 := hsy
  obtain ⟨p28, F28, B28, hd, hs, hfp, hbl⟩ := hsy.out HFP27.out HB27.out.size
  have HD28 := Lib.hid hd; have HS28 := Lib.hid hs; have HFP28 := Lib.hid hfp; have HB28 := Lib.hid (HB27.out.trans hbl)
  clear hd hs hfp hbl hsy HCM HD27 HS27 HFP27 HB27
  have HU := Lib.hid (useB_w m6_u)
  have HRR := Lib.hid (show Calls Try.prog 7 #[.pointer (some ⟨S2, 0, none⟩)] w28 (fun e w' => e = .returned (.int .i64 ((0 : Nat) : Int)) ∧ Qw w28 w') by have h := room_any HD28.out HS28.out (fun _ => HU.out.1.u.place); rw [show m6.2.2.room m6.2.1 = 0 from m6_v] at h; exact h)
  go_wp2_with fail
  refine HRR.out.mono ?_
  rintro e w29 ⟨rfl, hq⟩
  have hb : Below w28.heap.size w28 w29 := hq.below _
  clear HRR
  have HB29 := Lib.hid (bnextK HB28.out hb); have HD29 := Lib.hid (HD28.out.far hb)
  have HS29 := Lib.hid (HS28.out.far hb)
  have HFP29 := Lib.hid HFP28.out
  clear hb HB28 HD28 HFP28 HS28
  have HKN := Lib.hid (known8_any w29)
  go_wp2_with fail
  refine HKN.out.mono ?_
  rintro e w30 ⟨rfl, hb⟩
  have HBF := Lib.hid (bnextK HB29.out hb)
  clear hb HKN HU
  go_wp2_with fail
  go_ret
  exact ⟨rfl, HBF.out⟩
#print axioms StoreKnown_walk
end Go.Proofs.Ytdgmjedkhjeadaa
