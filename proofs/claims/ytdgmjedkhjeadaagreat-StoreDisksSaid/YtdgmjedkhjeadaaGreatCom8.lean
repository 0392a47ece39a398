/- The contract of commit. Conditions: as the statement says. -/
import Derived.Test.YtdgmjedkhjeadaaGreatWri8
import Derived.Test.YtdgmjedkhjeadaaGreatJou9
import Derived.Deep.LoopGhost
namespace Go.Proofs.YtdgmjedkhjeadaaGreat
open List (setIfInBounds_toArray set_cons_zero set_cons_succ)
open Go.RowKit
set_option linter.unusedVariables false
/-- Records are written, one behind the other. -/
def StM.writes : Dk → StM → List Rc → Bool × Dk × StM
  | d, s, [] => (false, d, s)
  | d, s, r :: rs => if (s.write d r).1 = true then s.write d r else StM.writes (s.write d r).2.1 (s.write d r).2.2 rs
/-- Records are written, and the disk is synced. -/
def StM.commitW (d : Dk) (s : StM) (rs : List Rc) : Bool × Dk × StM :=
  if (StM.writes d s rs).1 = true then StM.writes d s rs else (decide ((StM.writes d s rs).2.1.syncR.1 ≠ 0), (StM.writes d s rs).2.1.syncR.2, (StM.writes d s rs).2.2)
def StM.commit (d : Dk) (s : StM) (rs : List Rc) : Int × Dk × StM :=
  if s.room d < rs.length then (12, d, s) else (if (StM.commitW d s rs).1 = true then 13 else 0, (StM.commitW d s rs).2.1, (StM.commitW d s rs).2.2)
structure CmOK (d : Dk) (s : StM) (rs : List Rc) : Prop where
  age0 : 0 ≤ d.age
  age : d.age + rs.length < 4611686018427387903
  g : ∀ r ∈ rs, RcG (r.at' s.epoch)
  p : s.j.place + rs.length ≤ d.dur.length
theorem tick_false {d : Dk} (h : d.tick.1 = false) : d.tick.2.age = d.age ∧ d.tick.2.dur = d.dur ∧ d.tick.2.cch = d.cch ∧ d.tick.2.down = d.down := by
  unfold Dk.tick at h ⊢
  split at h
  · rename_i e; exact ⟨rfl, rfl, rfl, rfl⟩
  · cases h
  · rename_i e; exact ⟨rfl, rfl, rfl, rfl⟩
theorem put_false {d : Dk} {i : Nat} {x : Sec} (h : (d.put i x).1 = false) : (d.put i x).2.age = d.age ∧ (d.put i x).2.dur = d.dur ∧ (d.put i x).2.cch = d.cch.set i (some x) ∧ (d.put i x).2.down = d.down := by
  unfold Dk.put at h ⊢
  exact tick_false h
theorem follow_place {j j' : Jn} {r : Rc} (h : j.follow r = some j') : j'.place = j.place + 1 ∧ j'.tail = r := by
  obtain ⟨j1, _, rfl⟩ := follow_some h
  exact ⟨rfl, rfl⟩
theorem write_false {d : Dk} {s : StM} {r : Rc} (h : (s.write d r).1 = false) : (s.write d r).2.1.age = d.age ∧ (s.write d r).2.1.dur = d.dur ∧ (s.write d r).2.2.age = s.age ∧ (s.write d r).2.2.epoch = s.epoch ∧ (s.write d r).2.2.area = s.area ∧ (s.write d r).2.2.j.place ≤ s.j.place + 1 ∧ (s.write d r).2.1.down = d.down := by
  unfold StM.write at h ⊢
  by_cases hc : (d.put s.j.place (secR (r.at' s.epoch) s.j.place)).1 = true
  · simp only [if_pos hc] at h
    cases h
  · simp only [if_neg hc]
    have := put_false (d := d) (i := s.j.place) (x := secR (r.at' s.epoch) s.j.place) (by simpa using hc)
    refine ⟨this.1, this.2.1, trivial, trivial, trivial, ?_, this.2.2.2⟩
    cases hf : s.j.follow (r.at' s.epoch) with
    | none => simp
    | some j' => have := (follow_place hf).1; simp; omega
theorem CmOK.next {d : Dk} {s : StM} {r : Rc} {rs : List Rc} (h : CmOK d s (r :: rs)) (hw : (s.write d r).1 = false) : CmOK (s.write d r).2.1 (s.write d r).2.2 rs := by
  obtain ⟨h1, h2, h3, h4, h5, h6, _⟩ := write_false hw
  obtain ⟨k1, k2, k3, k4⟩ := h
  simp only [List.length_cons] at k2 k4
  refine ⟨by rw [h1]; exact k1, by rw [h1]; omega, fun q hq => by rw [h4]; exact k3 q (by simp [hq]), by rw [h2]; omega⟩
theorem CmOK.wr {d : Dk} {s : StM} {r : Rc} {rs : List Rc} (h : CmOK d s (r :: rs)) : WrOK d s r := by
  obtain ⟨k1, k2, k3, k4⟩ := h
  simp only [List.length_cons] at k2 k4
  exact ⟨⟨k1, by omega⟩, k3 r (by simp), by omega⟩
/-- A list of records in memory. -/
def RcsAt (w : World) (v : Value) (rs : List Rc) (X : List Nat) : Prop :=
  ∃ A c, v = .slice A rs.length c ∧ ∀ (i : Nat) r, rs[i]? = some r → ∃ b A' c', A = some ⟨b, 0, none⟩ ∧ (∃ cs, Bk w b cs 115) ∧ w.rangeAt b (i * 6) (recC r A' c').toList ∧ BytR w A' c' r.bits ∧ ∀ k ∈ obT A', k ∈ X
theorem RcsAt.keepL {w w' : World} {v : Value} {rs : List Rc} {X L : List Nat} (h : RcsAt w v rs X) (hk : KeepL L w w') (hL : ∀ b cs t, Bk w b cs t → t = 115 ∨ t = 5 → b ∉ L) : RcsAt w' v rs X := by
  obtain ⟨A, c, rfl, h2⟩ := h
  refine ⟨A, c, rfl, fun i r hr => ?_⟩
  obtain ⟨b, A', c', h3, ⟨cs, h4⟩, h5, h6, h7⟩ := h2 i r hr
  have hb := hL b cs _ h4 (.inl rfl)
  refine ⟨b, A', c', h3, ⟨cs, h4.keepL hk hb⟩, fun j v hv => ?_, ownsRow_keepB h6 hk fun k hk2 => ?_, h7⟩
  · rw [hk.cell h4.lt hb]; exact h5 j v hv
  · obtain ⟨cs', h8⟩ := own_bk h6 k hk2
    exact hL k cs' _ h8 (.inr rfl)
theorem RcsAt.far {w w' : World} {v : Value} {rs : List Rc} {X : List Nat} (h : RcsAt w v rs X) (hb : Below w.heap.size w w') : RcsAt w' v rs X := h.keepL (L := []) (.of_below hb) (by simp)
section
variable {w w' : World} {S D : Nat} {d : Dk} {s : StM} {bs bm cp : Nat} {p : Option Addr} {F B : List Nat}
/-- What is none of a disk's blocks, and none of a store's. -/
theorem sys_not (hd : DkAt w D d bs bm cp p) (hs : StIn w S D s F B) {b : Nat} {cs : Array Value} {t : TypeId} (hb : Bk w b cs t) (ht : t ≠ 96 ∧ t ≠ 101 ∧ t ≠ 103 ∧ t ≠ 120 ∧ t ≠ 117 ∧ t ≠ 121 ∧ t ≠ 123 ∧ t ≠ 4) : b ∉ fpL D bs bm p ++ F := by
  obtain ⟨t1, t2, t3, t4, t5, t6, t7, t8⟩ := ht
  intro hm
  rcases List.mem_append.1 hm with hm | hm
  · exact hd.fpN hb t1 t2 t3 hm
  · obtain ⟨cs', t', e1, e2⟩ := hs.types.1 b hm
    rcases e2 with rfl | rfl | rfl | rfl | rfl
    · exact hb.ne e1 t4 rfl
    · exact hb.ne e1 t5 rfl
    · exact hb.ne e1 t6 rfl
    · exact hb.ne e1 t7 rfl
    · exact hb.ne e1 t8 rfl
theorem RcsAt.sys (hd : DkAt w D d bs bm cp p) (hs : StIn w S D s F B) {v : Value} {rs : List Rc} {X : List Nat} (h : RcsAt w v rs X) (hk : KeepL (fpL D bs bm p ++ F) w w') : RcsAt w' v rs X :=
  h.keepL hk fun b cs t hb ht => sys_not hd hs hb (by rcases ht with rfl | rfl <;> decide)
/-- While records are written: so many are left. -/
structure ComI (w0 : World) (D S bs bm cp : Nat) (p : Option Addr) (F B X : List Nat) (lv : Value) (d0 : Dk) (s0 : StM) (rs : List Rc) (i : Nat) (w : World) : Prop where
  x : ∃ d s, SysM w0 w D S bs bm cp p F B X d s ∧ CmOK d s (rs.drop i) ∧ StM.writes d0 s0 rs = StM.writes d s (rs.drop i)
  r : RcsAt w lv rs X
  k : ∀ b cs t, Bk w0 b cs t → t ≠ 96 ∧ t ≠ 101 ∧ t ≠ 103 ∧ t ≠ 120 ∧ t ≠ 117 ∧ t ≠ 121 ∧ t ≠ 123 ∧ t ≠ 4 → Bk w b cs t
/-- What the closure of commit answers. -/
def ComR (D S bs bm cp : Nat) (p : Option Addr) (F B X : List Nat) (q : Bool × Dk × StM) (w : World) (e : Ending) (w' : World) : Prop :=
  (q.1 = true → e = .panicked crashP) ∧ (q.1 = false → e = .returned (.int .i64 0)) ∧ SysM w w' D S bs bm cp p F B X q.2.1 q.2.2 ∧ ∀ b cs t, Bk w b cs t → t ≠ 96 ∧ t ≠ 101 ∧ t ≠ 103 ∧ t ≠ 120 ∧ t ≠ 117 ∧ t ≠ 121 ∧ t ≠ 123 ∧ t ≠ 4 → Bk w' b cs t
theorem SysM.bk {X : List Nat} {d' : Dk} {s' : StM} (hd : DkAt w D d bs bm cp p) (hs : StIn w S D s F B) (h : SysM w w' D S bs bm cp p F B X d' s') : ∀ b cs t, Bk w b cs t → t ≠ 96 ∧ t ≠ 101 ∧ t ≠ 103 ∧ t ≠ 120 ∧ t ≠ 117 ∧ t ≠ 121 ∧ t ≠ 123 ∧ t ≠ 4 → Bk w' b cs t :=
  fun b cs t hb ht => hb.keepL h.k (sys_not hd hs hb ht)
set_option maxRecDepth 100000 in
set_option maxHeartbeats 2000000 in
theorem commit1_any (hd : DkAt w D d bs bm cp p) (hs : StIn w S D s F B) (rs : List Rc) (lv : Value) (X : List Nat) (hr : RcsAt w lv rs X) (ho : CmOK d s rs) (pl ps : Nat) (hpl : Bk w pl #[lv] 125) (hps : Bk w ps #[.pointer (some ⟨S, 0, none⟩)] 52) :
    Calls Tryz.prog 99 #[.pointer (some ⟨pl, 0, none⟩), .pointer (some ⟨ps, 0, none⟩)] w (ComR D S bs bm cp p F B X (s.commitW d rs) w) := by
  have HD := Lib.hid hd; have HS := Lib.hid hs; have HPL := Lib.hid hpl; have HPS := Lib.hid hps
  obtain ⟨A, c, hlv, _⟩ := id hr
  have HLV := Lib.hid hlv
  have hn := hd.ok.n256
  have hlen : rs.length ≤ 256 := by have := ho.p; omega
  have HI : Hid (ComI w D S bs bm cp p F B X lv d s rs 0 w) := Lib.hid ⟨⟨d, s, SysM.refl hd hs X (Below.refl _ _), by simpa using ho, by simp⟩, hr, fun b cs t h _ => h⟩
  have c0 : w.cell? ⟨pl, 0, none⟩ = some lv := hpl.cell 0
  rw [hlv] at c0
  obtain ⟨n, hn2⟩ : ∃ n, n = rs.length := ⟨_, rfl⟩
  have HN := Lib.hid hn2
  rw [← hn2] at c0 hlen
  clear hd hs hr ho hpl hps hlv hn2
  go_enter Tryz.func99, Tryz.ntmps99
  go_wp2_with fail
  clear c0
  go_loopw [4, 7] (fun _ v7 wr => ∃ i : Nat, i ≤ n ∧ v7 = .int .i64 i ∧ ComI w D S bs bm cp p F B X lv d s rs i wr) (fun _ v7 _ => n - (intOf v7).toNat)
  case atStart => exact ⟨0, Nat.zero_le _, rfl, HI.out⟩
  case round =>
    obtain ⟨i, hi, rfl, hci⟩ := hrel
    obtain ⟨wi, rfl⟩ : ∃ z : World, z = wr := ⟨_, rfl⟩
    have HCI := Lib.hid hci
    clear hci HI
    have ps0 : wi.cell? ⟨ps, 0, none⟩ = some (.pointer (some ⟨S, 0, none⟩)) := by rw [(HCI.out.k _ _ _ HPS.out (by decide)).cell]; rfl
    by_cases hlt : i < n
    · have hki : (i : Int) < (n : Int) := by omega
      have hil : i < rs.length := by have := HN.out; omega
      obtain ⟨r, hr⟩ : ∃ r, rs[i]? = some r := ⟨_, List.getElem?_eq_getElem hil⟩
      have hdr : rs.drop i = r :: rs.drop (i + 1) := by
        rw [List.drop_eq_getElem_cons hil]
        congr 1
        rw [List.getElem?_eq_getElem hil] at hr
        injection hr
      obtain ⟨A1, c1, hlv1, hre⟩ := HCI.out.r
      rw [HLV.out] at hlv1
      injection hlv1 with hA1 hn1 hc1
      subst hA1
      subst hc1
      clear hn1
      obtain ⟨b, A', c', hA, ⟨cs, hcs⟩, hrng, hbyt, hX⟩ := hre i r hr
      subst hA
      have HRNG := Lib.hid hrng
      have hi2 : (Tryz.prog.info? 115).map (·.size) = some (recC r A' c').toList.length := recC_info r A' c'
      have HI2 := Lib.hid hi2
      have HRI := Lib.hid (recC_info r A' c')
      obtain ⟨⟨d1, s1, hsy, hcm, hw⟩, _, hkk⟩ := HCI.out
      rw [hdr] at hcm hw
      obtain ⟨w2, hw2⟩ : ∃ z, z = wi.alloc (.cells (recC r A' c') 115) := ⟨_, rfl⟩
      have hb2 : Below wi.heap.size wi w2 := by rw [hw2]; exact balloc _ _
      have hbx : Bk w2 wi.heap.size (recC r A' c') 115 := by rw [hw2]; exact Bk.new _ _ _
      have HBX := Lib.hid hbx
      have ps2 : w2.cell? ⟨ps, 0, none⟩ = some (.pointer (some ⟨S, 0, none⟩)) := (hb2.cell (p := ⟨ps, 0, none⟩) (HCI.out.k _ _ _ HPS.out (by decide)).lt).trans ps0
      have hsy2 := hsy.below hb2
      obtain ⟨p1, q1, q2⟩ := hsy2.d
      obtain ⟨F1, B1, q3, q4, q5⟩ := hsy2.s
      have HCALL := Lib.hid (swrite_any q1 q3 r A' c' (hbyt.far hb2) hcm.wr X hX)
      have HTR : Hid (∀ w3 d' s', SysM w2 w3 D S bs bm cp p1 F1 B1 X d' s' → SysM w w3 D S bs bm cp p F B X d' s') := Lib.hid fun w3 d' s' h => SysM.trans q2 q4 q5 hsy2.k h (fun k hk => .inl hk)
      have HBK : Hid (∀ w3 d' s', SysM w2 w3 D S bs bm cp p1 F1 B1 X d' s' → (∀ b cs t, Bk w b cs t → t ≠ 96 ∧ t ≠ 101 ∧ t ≠ 103 ∧ t ≠ 120 ∧ t ≠ 117 ∧ t ≠ 121 ∧ t ≠ 123 ∧ t ≠ 4 → Bk w3 b cs t) ∧ RcsAt w3 lv rs X) := Lib.hid fun w3 d' s' h =>
        ⟨fun b cs t hb ht => h.bk q1 q3 b cs t ((hkk b cs t hb ht).past hb2 (hkk b cs t hb ht).lt) ht, (HCI.out.r.far hb2).sys q1 q3 h.k⟩
      have HCM := Lib.hid hcm; have HW := Lib.hid hw
      have HW2 := Lib.hid hw2
      clear hsy hsy2 q1 q2 q3 q4 q5 hcm hw hkk hrng hbyt hX hcs hre hr hdr hi2 hbx hb2 hw2
      go_upto_region 4 with (first
        | (refine wpList_load_mid rfl _ _ rfl b (i * 6) (by simp [Act.eval]) (recC r A' c').toList _ HRNG.out Tryz.underlying115 rfl HI2.out ?_)
        | (refine wpList_plain rfl fun _ hK => wp_store_row 115 _ _ rfl wi.heap.size (recC r A' c') rfl rfl _ _ (heap_alloc_new wi _) HRI.out rfl (recC_all _ _ _) (hK _ _ ?_); rw [World.setRow_alloc_new]))
      rw [← HW2.out]
      go_wp2_with (refine wpList_load_row rfl 115 _ rfl wi.heap.size rfl _ (recC r A' c') (0, 0) _ HBX.out Tryz.underlying115 rfl HRI.out ?_)
      refine HCALL.out.mono ?_
      rintro e w3 ⟨hbad, hok, hsy3⟩
      have HSY3 := Lib.hid hsy3
      clear hsy3
      cases hq : (s1.write d1 r).1 with
      | true =>
        have he := hbad hq
        subst he
        have HF : Hid (s.commitW d rs = s1.write d1 r) := Lib.hid (by
          have : StM.writes d s rs = s1.write d1 r := by rw [HW.out, StM.writes, if_pos hq]
          unfold StM.commitW
          rw [this, if_pos hq])
        have HQ := Lib.hid hq
        clear hq hbad hok
        go_wp2_with fail
        exact ⟨rfl, by
          unfold ComR
          rw [HF.out]
          exact ⟨fun _ => rfl, fun h => Bool.noConfusion (HQ.out.symm.trans h), HTR.out _ _ _ HSY3.out, (HBK.out _ _ _ HSY3.out).1⟩⟩
      | false =>
        have he := hok hq
        subst he
        have HCI3 : Hid (ComI w D S bs bm cp p F B X lv d s rs (i + 1) w3) := Lib.hid ⟨⟨_, _, HTR.out _ _ _ HSY3.out, HCM.out.next hq, by rw [HW.out, StM.writes, if_neg (by rw [hq]; simp)]⟩, (HBK.out _ _ _ HSY3.out).2, (HBK.out _ _ _ HSY3.out).1⟩
        clear hq hbad hok HTR HBK HSY3
        go_wp2_with fail
        go_roundw
        case rel => exact ⟨i + 1, by omega, by go_num, HCI3.out⟩
        case measure => simp [intOf]; omega
    · have hki : ¬ (i : Int) < (n : Int) := by omega
      obtain rfl : i = n := by omega
      obtain ⟨⟨d1, s1, hsy, hcm, hw⟩, _, hkk⟩ := HCI.out
      rw [HN.out, List.drop_length] at hcm hw
      obtain ⟨p1, q1, q2⟩ := hsy.d
      obtain ⟨F1, B1, q3, q4, q5⟩ := hsy.s
      have hsd : wi.cell? ⟨S, 0, none⟩ = some (.pointer (some ⟨D, 0, none⟩)) := by
        obtain ⟨T, kv, xs, tb, tc, h1, _⟩ := q3
        rw [h1.blk.cell]; rfl
      have HSYN := Lib.hid (sync_any q1 (⟨hcm.age0, by have := hcm.age; simp at this; omega⟩ : AgeOK d1))
      have HTR : Hid (∀ w3 d', DkMut wi w3 D bs bm cp p1 d' → SysM w w3 D S bs bm cp p F B X d' s1 ∧ ∀ b cs t, Bk w b cs t → t ≠ 96 ∧ t ≠ 101 ∧ t ≠ 103 ∧ t ≠ 120 ∧ t ≠ 117 ∧ t ≠ 121 ∧ t ≠ 123 ∧ t ≠ 4 → Bk w3 b cs t) := Lib.hid fun w3 d' h =>
        have h2 := SysM.ofDisk q1 q3 h X
        ⟨SysM.trans q2 q4 q5 hsy.k h2 (fun k hk => .inl hk), fun b cs t hb ht => h2.bk q1 q3 b cs t (hkk b cs t hb ht) ht⟩
      have HF : Hid (s.commitW d rs = (decide (d1.syncR.1 ≠ 0), d1.syncR.2, s1)) := Lib.hid (by
        have : StM.writes d s rs = (false, d1, s1) := by rw [hw, StM.writes]
        unfold StM.commitW
        rw [this, if_neg (by simp)])
      clear hsy hcm hw hkk q1 q2 q3 q4 q5
      have hv : d1.syncR.1 = 0 ∨ d1.syncR.1 = 13 := by
        unfold Dk.syncR
        split
        · exact .inr rfl
        · dsimp only; split
          · exact .inr rfl
          · exact .inl rfl
      go_wp2_with fail
      refine HSYN.out.mono ?_
      rintro e w3 ⟨rfl, hm3⟩
      have HM3 := Lib.hid (HTR.out _ _ hm3)
      clear hm3 HTR HSYN
      rcases hv with hv | hv
      · rw [hv]
        have HQ : Hid (s.commitW d rs = (false, d1.syncR.2, s1)) := Lib.hid (by rw [HF.out, hv]; rfl)
        clear hv
        go_wp2_with fail
        refine (must_ok _).mono ?_
        rintro e w4 ⟨rfl, rfl⟩
        go_wp2_with fail
        go_ret
        unfold ComR
        rw [HQ.out]
        exact ⟨fun h => Bool.noConfusion h, fun _ => rfl, HM3.out.1, HM3.out.2⟩
      · rw [hv]
        have HQ : Hid (s.commitW d rs = (true, d1.syncR.2, s1)) := Lib.hid (by rw [HF.out, hv]; rfl)
        clear hv
        go_wp2_with fail
        refine (must_bad _).mono ?_
        rintro e w4 ⟨rfl, rfl⟩
        go_wp2_with fail
        refine ⟨rfl, ?_⟩
        unfold ComR
        rw [HQ.out]
        exact ⟨fun _ => rfl, fun h => Bool.noConfusion h, HM3.out.1, HM3.out.2⟩
end
end Go.Proofs.YtdgmjedkhjeadaaGreat
namespace Go.Proofs.YtdgmjedkhjeadaaGreat
open List (setIfInBounds_toArray set_cons_zero set_cons_succ)
open Go.RowKit
set_option linter.unusedVariables false
section
variable {w w' : World} {S D : Nat} {d : Dk} {s : StM} {bs bm cp : Nat} {p : Option Addr} {F B : List Nat}
/-- A block of the call's own is written. -/
theorem SysM.own {X : List Nat} {w2 : World} {d' : Dk} {s' : StM} (h : SysM w w2 D S bs bm cp p F B X d' s') {g : Nat} {cs : Array Value} {t : TypeId} (hb : Bk w2 g cs t) (hg : w.heap.size ≤ g) (hk : KeepL [g] w2 w')
    (ht : t ≠ 96 ∧ t ≠ 101 ∧ t ≠ 103 ∧ t ≠ 120 ∧ t ≠ 117 ∧ t ≠ 121 ∧ t ≠ 123 ∧ t ≠ 4) (hi : t ≠ 3) (hu : t ≠ 5) : SysM w w' D S bs bm cp p F B X d' s' := by
  obtain ⟨⟨p1, h1, h2⟩, ⟨F1, B1, h3, h4, h5⟩, h6⟩ := h
  obtain ⟨t1, t2, t3, t4, t5, t6, t7, t8⟩ := ht
  refine ⟨⟨p1, h1.keepT hk fun b hb2 => ?_, h2⟩, ⟨F1, B1, h3.keepL hk (fun k hk2 hm => ?_) (fun k hk2 hm => ?_), h4, h5⟩, h6.then hk fun b hb2 => ?_⟩
  · rw [List.mem_singleton] at hb2; subst hb2
    exact ⟨cs, t, hb, t1, t2, t3, hi⟩
  · rw [List.mem_singleton] at hm; subst hm
    obtain ⟨cs', t', e1, e2⟩ := h3.types.1 k hk2
    rcases e2 with rfl | rfl | rfl | rfl | rfl
    · exact hb.ne e1 t4 rfl
    · exact hb.ne e1 t5 rfl
    · exact hb.ne e1 t6 rfl
    · exact hb.ne e1 t7 rfl
    · exact hb.ne e1 t8 rfl
  · rw [List.mem_singleton] at hm; subst hm
    obtain ⟨cs', e1⟩ := h3.types.2 k hk2
    exact hb.ne e1 hu rfl
  · rw [List.mem_singleton] at hb2; subst hb2
    exact .inr hg
/-- What a call answers that changes a disk and a store on it. -/
def CoP (D S bs bm cp : Nat) (p : Option Addr) (F B X : List Nat) (q : Int × Dk × StM) (w : World) (e : Ending) (w' : World) : Prop :=
  e = .returned (.int .i64 q.1) ∧ SysM w w' D S bs bm cp p F B X q.2.1 q.2.2
/-- What a store on its disk is like while both are used. -/
structure UseOK (d : Dk) (s : StM) : Prop where
  age0 : 0 ≤ d.age
  age : d.age < 4611686018427380000
  place : s.j.place ≤ s.lim d
theorem lim_le (d : Dk) (s : StM) (h : s.area ≤ 1) : s.lim d ≤ d.dur.length := by
  unfold StM.lim
  have : (s.area + 1) * (d.dur.length / 2) ≤ 2 * (d.dur.length / 2) := Nat.mul_le_mul (by omega) (Nat.le_refl _)
  omega
theorem room_le {d : Dk} {s : StM} (hu : UseOK d s) (hal : s.age = d.age) {n : Nat} (h : ¬ s.room d < n) : s.j.place + n ≤ s.lim d := by
  unfold StM.room at h
  rw [if_pos hal] at h
  have := hu.place
  omega
theorem cmt_end {w2 w3 w4 w5 : World} {X : List Nat} {rs : List Rc} {e : Ending} (hd : DkAt w D d bs bm cp p) (hs : StIn w S D s F B) (h2 : Below w.heap.size w w2) (h3 : Below w2.heap.size w2 w3) (hr : ComR D S bs bm cp p F B X (s.commitW d rs) (w3.alloc (.cells #[.int .i64 0] 25)) e w4) (hk : KeepL [w3.heap.size] w4 w5) :
    Ending.returned (.int .i64 (endI e)) = .returned (.int .i64 (if (s.commitW d rs).1 = true then 13 else 0)) ∧ SysM w w5 D S bs bm cp p F B X (s.commitW d rs).2.1 (s.commitW d rs).2.2 := by
  obtain ⟨h1, h1', h4, h5⟩ := hr
  have hb := bnextK (bnextK h2 h3) (balloc w3 (.cells #[.int .i64 0] 25))
  have hs3 := Nat.le_trans h2.size h3.size
  refine ⟨?_, ?_⟩
  · cases hq : (s.commitW d rs).1 with
    | true => rw [h1 hq]; rfl
    | false => rw [h1' hq]; rfl
  · have h6 : SysM w w4 D S bs bm cp p F B X (s.commitW d rs).2.1 (s.commitW d rs).2.2 := SysM.trans (NewP.refl w p) (fun k hk => .inl hk) (fun k hk => .inl hk) (.of_below hb) h4 (fun k hk => .inl hk)
    exact h6.own (h5 _ _ _ (Bk.new w3 _ _) (by decide)) hs3 hk (by decide) (by decide) (by decide)
set_option maxRecDepth 100000 in
set_option maxHeartbeats 1000000 in
theorem commit_any (hd : DkAt w D d bs bm cp p) (hs : StIn w S D s F B) (hu : UseOK d s) (hal : s.age = d.age) (rs : List Rc) (lv : Value) (X : List Nat) (hr : RcsAt w lv rs X) (hg : ∀ r ∈ rs, RcG (r.at' s.epoch)) (hl : rs.length ≤ 1000) :
    Calls Tryz.prog 77 #[.pointer (some ⟨S, 0, none⟩), lv] w (CoP D S bs bm cp p F B X (s.commit d rs) w) := by
  have hmf : ∀ (fn : Fn) (first cap : Array Value) (w : World), (Instr.makeFunc fn first cap).run Tryz.prog w = .ok (.func fn first cap) w := fun _ _ _ _ => rfl
  obtain ⟨A, c, hlv, _⟩ := id hr
  have hok := hs.ok
  obtain ⟨w2, hw2⟩ : ∃ z, z = (w.alloc (.cells #[.pointer (some ⟨S, 0, none⟩)] 52)).alloc (.cells #[lv] 125) := ⟨_, rfl⟩
  have hb2 : Below w.heap.size w w2 := by rw [hw2]; exact bnextK (balloc _ _) (balloc _ _)
  have hps : Bk w2 w.heap.size #[.pointer (some ⟨S, 0, none⟩)] 52 := by rw [hw2]; exact (Bk.new w _ _).past (balloc _ _) (by rw [World.size_alloc]; omega)
  have hpl : Bk w2 (w.heap.size + 1) #[lv] 125 := by rw [hw2]; have := Bk.new (w.alloc (.cells #[.pointer (some ⟨S, 0, none⟩)] 52)) #[lv] 125; rw [World.size_alloc] at this; exact this
  have HD2 := Lib.hid (hd.far hb2); have HS2 := Lib.hid (hs.far hb2); have HPS := Lib.hid hps; have HPL := Lib.hid hpl; have HB2 := Lib.hid hb2; have HR2 := Lib.hid (hr.far hb2); have HG := Lib.hid hg; have HW2 := Lib.hid hw2
  have HRM := Lib.hid (room_any HD2.out HS2.out (fun _ => hu.place))
  have HOLD := Lib.hid (And.intro hd hs)
  have cs : w2.cell? ⟨w.heap.size, 0, none⟩ = some (.pointer (some ⟨S, 0, none⟩)) := hps.cell 0
  have cl : w2.cell? ⟨w.heap.size + 1, 0, none⟩ = some (.slice A rs.length c) := by rw [← hlv]; exact hpl.cell 0
  have HU := Lib.hid hu; have HAL := Lib.hid hal; have HOK := Lib.hid hok; have HLV := Lib.hid hlv
  have HRL : Hid (¬ s.room d < rs.length → CmOK d s rs) := Lib.hid fun h => by
    have h1 := room_le hu hal h
    have h2 := lim_le d s hok.area
    exact ⟨hu.age0, by have := hu.age; omega, hg, by omega⟩
  obtain ⟨rm, hrm⟩ : ∃ r, r = s.room d := ⟨_, rfl⟩
  have HRE := Lib.hid hrm
  rw [← hrm] at HRM HRL
  clear hd hs hr hg hb2 hps hpl hok hu hal hrm
  obtain ⟨g, hgd⟩ : ∃ g, g = w.heap.size := ⟨_, rfl⟩
  rw [hlv] at hw2 ⊢
  rw [← hgd] at cs cl HPS HPL
  have HCF : Hid (∀ W, Below w2.heap.size w2 W → W.cell? ⟨g, 0, none⟩ = some (.pointer (some ⟨S, 0, none⟩)) ∧ W.cell? ⟨g + 1, 0, none⟩ = some (.slice A rs.length c)) := Lib.hid fun W hW =>
    ⟨(hW.cell (p := ⟨g, 0, none⟩) HPS.out.lt).trans cs, (hW.cell (p := ⟨g + 1, 0, none⟩) HPL.out.lt).trans cl⟩
  have HGD := Lib.hid hgd
  have HSZ2 : Hid (g + 1 + 1 ≤ w2.heap.size) := Lib.hid (by have := HPL.out.lt; omega)
  go_enter Tryz.func77, Tryz.ntmps77
  go_upto_region 1 with fail
  rw [← hw2, ← hgd]
  clear hw2 HW2 hgd
  have HRM' : Hid (Calls Tryz.prog 28 #[.pointer (some ⟨S, 0, none⟩)] w2.drew fun e w' => e = .returned (.int .i64 (rm : Nat)) ∧ Qw w2.drew w') := Lib.hid (by
    rw [HRE.out]
    exact room_any (HD2.out.far (below_drew8 _ _)) (HS2.out.far (below_drew8 _ _)) (fun _ => HU.out.place))
  clear HRM
  by_cases hlt : rm < rs.length
  · have hki : (rm : Int) < (rs.length : Int) := by omega
    have HC : Hid (s.commit d rs = (12, d, s)) := Lib.hid (by unfold StM.commit; rw [← HRE.out, if_pos hlt])
    have HSY : Hid (SysM w w2 D S bs bm cp p F B X d s) := Lib.hid (by
      obtain ⟨h1, h2⟩ := HOLD.out
      exact SysM.refl h1 h2 X HB2.out)
    -- <REGION no
    refine wp_region_held_drew (S := (fun W => W.cell? ⟨g, 0, none⟩ = some (.pointer (some ⟨S, 0, none⟩)) ∧ W.cell? ⟨g + 1, 0, none⟩ = some (.slice A rs.length c))) (by kernel_rfl) ?_ (fun hHeld => ?_)
    · (try dsimp only); first | exact ⟨cs, cl⟩ | exact HC3.out
    refine wpAnyH_take (i := 0) (oi := ⟨some 5, _, _, _, _, _⟩) (v := ?_) rfl (by kernel_rfl) (by kernel_rfl) (by kernel_rfl) (fun _ _ _ h => h) (Or.inl ⟨by rfl, ?_⟩) (by assumption) ?_; rotate_left
    · intro w hSw; (try dsimp only at hSw); go_simp; try with_reducible rfl
    try simp only [Act.put, setIfInBounds_toArray, set_cons_zero, set_cons_succ]
    refine wpAnyH_take (i := 2) (oi := ⟨some 7, _, _, _, _, _⟩) (v := ?_) rfl (by kernel_rfl) (by kernel_rfl) (by kernel_rfl) (fun _ _ _ h => h) (Or.inl ⟨by rfl, ?_⟩) (by assumption) ?_; rotate_left
    · intro w hSw; (try dsimp only at hSw); go_simp; try with_reducible rfl
    try simp only [Act.put, setIfInBounds_toArray, set_cons_zero, set_cons_succ]
    refine wpAnyH_take (i := 3) (oi := ⟨some 8, _, _, _, _, _⟩) (v := ?_) rfl (by kernel_rfl) (by kernel_rfl) (by kernel_rfl) (fun _ _ _ h => h) (Or.inl ⟨by rfl, ?_⟩) (by assumption) ?_; rotate_left
    · intro w hSw; (try dsimp only at hSw); go_simp; try with_reducible rfl
    try simp only [Act.put, setIfInBounds_toArray, set_cons_zero, set_cons_succ]
    refine wpAnyH_ready (rs := [1]) (by kernel_rfl) (by simp) ?_
    refine AllReadyH.cons (o := ⟨some 6, _, _, _, _, _⟩) rfl (fun K hK => ?_) AllReadyH.nil
    go_simp
    refine HRM'.out.mono ?_
    rintro e' w3 ⟨rfl, hq3⟩
    have HB3 := Lib.hid ((below_drew8 w2 w2.heap.size).trans (hq3.below _))
    have HC3 := Lib.hid (HCF.out w3 HB3.out)
    clear hq3
    go_wp2_with fail
    refine hK.out _ _ ?_ (fun hHeld => ?_)
    · (try dsimp only); first | exact ⟨cs, cl⟩ | exact HC3.out
    clear hK K
    try simp only [Act.put, setIfInBounds_toArray, set_cons_zero, set_cons_succ]
    refine wpAnyH_take (i := 4) (oi := ⟨some 9, _, _, _, _, _⟩) (v := ?_) rfl (by kernel_rfl) (by kernel_rfl) (by kernel_rfl) (fun _ _ _ h => h) (Or.inl ⟨by rfl, ?_⟩) (by assumption) ?_; rotate_left
    · intro w hSw; (try dsimp only at hSw); go_simp; try with_reducible rfl
    try simp only [Act.put, setIfInBounds_toArray, set_cons_zero, set_cons_succ]
    refine wpAnyH_done (by kernel_rfl) ?_ _
    go_wp2_with fail
    go_ret
    unfold CoP
    rw [HC.out]
    exact ⟨rfl, HSY.out.below HB3.out⟩
    -- REGION>
  · have hki : ¬ (rm : Int) < (rs.length : Int) := by omega
    have HCM := Lib.hid (HRL.out hlt)
    have HC : Hid (s.commit d rs = (if (s.commitW d rs).1 = true then 13 else 0, (s.commitW d rs).2.1, (s.commitW d rs).2.2)) := Lib.hid (by unfold StM.commit; rw [← HRE.out, if_neg hlt])
    have HCL : Hid (∀ W, Below w2.heap.size w2 W → Calls Tryz.prog 99 #[.pointer (some ⟨g + 1, 0, none⟩), .pointer (some ⟨g, 0, none⟩)] (W.alloc (.cells #[.int .i64 0] 25)) (ComR D S bs bm cp p F B X (s.commitW d rs) (W.alloc (.cells #[.int .i64 0] 25)))) := Lib.hid fun W hW => by
      have hW2 := bnextK hW (balloc W (.cells #[.int .i64 0] 25))
      exact commit1_any (HD2.out.far hW2) (HS2.out.far hW2) rs lv X (HR2.out.far hW2) HCM.out (g + 1) g (HPL.out.past hW2 HPL.out.lt) (HPS.out.past hW2 HPS.out.lt)
    -- <REGION yes
    refine wp_region_held_drew (S := (fun W => W.cell? ⟨g, 0, none⟩ = some (.pointer (some ⟨S, 0, none⟩)) ∧ W.cell? ⟨g + 1, 0, none⟩ = some (.slice A rs.length c))) (by kernel_rfl) ?_ (fun hHeld => ?_)
    · (try dsimp only); first | exact ⟨cs, cl⟩ | exact HC3.out
    refine wpAnyH_take (i := 0) (oi := ⟨some 5, _, _, _, _, _⟩) (v := ?_) rfl (by kernel_rfl) (by kernel_rfl) (by kernel_rfl) (fun _ _ _ h => h) (Or.inl ⟨by rfl, ?_⟩) (by assumption) ?_; rotate_left
    · intro w hSw; (try dsimp only at hSw); go_simp; try with_reducible rfl
    try simp only [Act.put, setIfInBounds_toArray, set_cons_zero, set_cons_succ]
    refine wpAnyH_take (i := 2) (oi := ⟨some 7, _, _, _, _, _⟩) (v := ?_) rfl (by kernel_rfl) (by kernel_rfl) (by kernel_rfl) (fun _ _ _ h => h) (Or.inl ⟨by rfl, ?_⟩) (by assumption) ?_; rotate_left
    · intro w hSw; (try dsimp only at hSw); go_simp; try with_reducible rfl
    try simp only [Act.put, setIfInBounds_toArray, set_cons_zero, set_cons_succ]
    refine wpAnyH_take (i := 3) (oi := ⟨some 8, _, _, _, _, _⟩) (v := ?_) rfl (by kernel_rfl) (by kernel_rfl) (by kernel_rfl) (fun _ _ _ h => h) (Or.inl ⟨by rfl, ?_⟩) (by assumption) ?_; rotate_left
    · intro w hSw; (try dsimp only at hSw); go_simp; try with_reducible rfl
    try simp only [Act.put, setIfInBounds_toArray, set_cons_zero, set_cons_succ]
    refine wpAnyH_ready (rs := [1]) (by kernel_rfl) (by simp) ?_
    refine AllReadyH.cons (o := ⟨some 6, _, _, _, _, _⟩) rfl (fun K hK => ?_) AllReadyH.nil
    go_simp
    refine HRM'.out.mono ?_
    rintro e' w3 ⟨rfl, hq3⟩
    have HB3 := Lib.hid ((below_drew8 w2 w2.heap.size).trans (hq3.below _))
    have HC3 := Lib.hid (HCF.out w3 HB3.out)
    clear hq3
    go_wp2_with fail
    refine hK.out _ _ ?_ (fun hHeld => ?_)
    · (try dsimp only); first | exact ⟨cs, cl⟩ | exact HC3.out
    clear hK K
    try simp only [Act.put, setIfInBounds_toArray, set_cons_zero, set_cons_succ]
    refine wpAnyH_take (i := 4) (oi := ⟨some 9, _, _, _, _, _⟩) (v := ?_) rfl (by kernel_rfl) (by kernel_rfl) (by kernel_rfl) (fun _ _ _ h => h) (Or.inl ⟨by rfl, ?_⟩) (by assumption) ?_; rotate_left
    · intro w hSw; (try dsimp only at hSw); go_simp; try with_reducible rfl
    try simp only [Act.put, setIfInBounds_toArray, set_cons_zero, set_cons_succ]
    refine wpAnyH_done (by kernel_rfl) ?_ _
    obtain ⟨c5, c6⟩ := HC3.out
    have HK3 := Lib.hid (guard_any (w := w3) (K := 99) (caps := #[.pointer (some ⟨g + 1, 0, none⟩), .pointer (some ⟨g, 0, none⟩)]) (fun W => enters_of Tryz.func99 (by kernel_rfl) rfl _ W) (HCL.out w3 HB3.out) (fun e w4 hr => ⟨hr.2.2.2 _ _ _ (Bk.new w3 _ _) (by decide), by
      cases hq : (s.commitW d rs).1 with
      | true => exact .inr (hr.1 hq)
      | false => exact .inl ⟨0, hr.2.1 hq⟩⟩))
    clear cs cl c5 c6
    go_wp2_with fail
    refine HK3.out.mono ?_
    rintro e w5 ⟨e4, w4, hr4, rfl, hk5⟩
    have HFIN := Lib.hid (cmt_end HOLD.out.1 HOLD.out.2 HB2.out HB3.out hr4 hk5)
    clear hr4 hk5
    go_wp2_with fail
    go_ret
    unfold CoP
    rw [HC.out]
    exact HFIN.out
    -- REGION>
end
end Go.Proofs.YtdgmjedkhjeadaaGreat
