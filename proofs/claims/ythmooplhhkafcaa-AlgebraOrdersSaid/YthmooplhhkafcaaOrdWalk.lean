/- The walk of AlgebraOrders: it returns true for any seed and any two bytes. -/
import Derived.Test.YthmooplhhkafcaaSample
import Derived.Test.YthmooplhhkafcaaSameInts
import Derived.Test.YthmooplhhkafcaaKnown
import Derived.Test.YthmooplhhkafcaaToepWalk
import Derived.BigQuiet
import Derived.Deep.RegionHeld3
import Derived.Test.YthmooplhhkafcaaPerm4
namespace Go.Proofs.Ythmooplhhkafcaa
open Go.RowKit
set_option linter.unusedVariables false
theorem ownsRow_set {w : World} {base : Nat} {t : TypeId} {sz n : Nat} {v : Value} {xs : List Value} (h : w.ownsRow base t sz v n xs) {p : Addr} (hp : ∀ k, v.ownBlock = some k → k ≠ p.block) (u : Value) : (w.setCell p u).ownsRow base t sz v n xs := by
  refine ⟨h.1, ?_⟩
  rcases h.2 with h1 | ⟨g, cap, cur, hv, hg, hh, rest⟩
  · exact .inl h1
  · refine .inr ⟨g, cap, cur, hv, hg, ?_, rest⟩
    rw [Below.heap_setCell _ _ _ _ (hp g (by rw [hv]; rfl))]; exact hh
theorem ownsRow_bel {w w' : World} {base B : Nat} {t : TypeId} {sz n : Nat} {v : Value} {xs : List Value} (h : w.ownsRow base t sz v n xs) (hb : Below B w w') (hB : ∀ k, v.ownBlock = some k → k < B) : w'.ownsRow base t sz v n xs := by
  refine ⟨h.1, ?_⟩
  rcases h.2 with h1 | ⟨g, cap, cur, hv, hg, hh, rest⟩
  · exact .inl h1
  · refine .inr ⟨g, cap, cur, hv, hg, ?_, rest⟩
    rw [hb.block _ (hB g (by rw [hv]; rfl))]; exact hh
theorem New_ex (s : Nat) (w : World) :
    Calls Try.prog 31 #[.int .u64 s] w fun e w' => e = .returned (.pointer (some ⟨w.heap.size, 0, none⟩)) ∧ DrawAt w' w.heap.size s ∧ w'.heap.size = w.heap.size + 1 ∧ Below w.heap.size w w' :=
  (New_any s w).mono fun e w' ⟨he, hw⟩ => by subst hw; exact ⟨he, DrawAt.new w s, by simp, (Below.refl _ _).alloc (Nat.le_refl _) _⟩
theorem Next_ex (b s B : Nat) (w : World) (hd : DrawAt w b s) (hB : b < B) :
    Calls Try.prog 36 #[.pointer (some ⟨b, 0, none⟩)] w fun e w' => ∃ y : Nat, y = nextY s ∧ e = .returned (.int .u64 y) ∧ Upd B b (nextS s) w w' ∧ w'.heap.size = w.heap.size :=
  (Next_upd b s B w hd hB).mono fun e w' ⟨he, h⟩ => ⟨_, rfl, he, h⟩
theorem DrawAt.upd {w w' : World} {b b' s s' B : Nat} (h : DrawAt w b s) (hu : Upd B b' s' w w') (hne : b ≠ b') (hB : b < B) : DrawAt w' b s :=
  (h.setOther (p := ⟨b', 0, none⟩) (fun e => hne e.symm) _).below hu hB
/-- The world of AlgebraOrders while it looks at its lists: the draws at b and b + 1, the order at block b + 2, the sample, the counts at block g. -/
structure OrdW (w wr : World) (n q S g : Nat) (vM : Value) (L M C : List Int) : Prop where
  d0 : DrawAt wr w.heap.size S
  d1 : DrawAt wr (w.heap.size + 1) S
  rl : wr.ownsRow (w.heap.size + 2) 3 1 (.slice (some ⟨w.heap.size + 2, 0, none⟩) n n) n (L.map (Value.int .i64))
  rm : wr.ownsRow (w.heap.size + 3) 3 1 vM q (M.map (Value.int .i64))
  rc : wr.ownsRow (w.heap.size + 3) 3 1 (.slice (some ⟨g, 0, none⟩) n n) n (C.map (Value.int .i64))
  bw : Below w.heap.size w wr
  mg : ∀ k, vM.ownBlock = some k → k < g
  hg : w.heap.size + 3 ≤ g
theorem OrdW.setC {w wr : World} {n q S g : Nat} {vM : Value} {L M C : List Int} (h : OrdW w wr n q S g vM L M C) (j : Nat) (x : Int) : OrdW w (wr.setCell ⟨g, j, none⟩ (.int .i64 x)) n q S g vM L M (C.set j x) :=
  ⟨h.d0.setOther (by have := h.hg; simp only; omega) _, h.d1.setOther (by have := h.hg; simp only; omega) _,
   ownsRow_set h.rl (fun k hk => by have := h.hg; cases hk; simp only; omega) _,
   ownsRow_set h.rm (fun k hk => by have := h.mg k hk; simp only; omega) _,
   by have := (h.rc.stored j (.int .i64 x)).1; rwa [← List.map_set] at this,
   h.bw.setCell (by have := h.hg; simp only; omega) _, h.mg, h.hg⟩
theorem OrdW.setL {w wr : World} {n q S g : Nat} {vM : Value} {L M C : List Int} (h : OrdW w wr n q S g vM L M C) (j : Nat) (x : Int) : OrdW w (wr.setCell ⟨w.heap.size + 2, j, none⟩ (.int .i64 x)) n q S g vM (L.set j x) M C :=
  ⟨h.d0.setOther (by simp only; omega) _, h.d1.setOther (by simp only; omega) _,
   by have := (h.rl.stored j (.int .i64 x)).1; rwa [← List.map_set] at this,
   ownsRow_set h.rm (fun k hk => by have := (h.rm.lt k hk).1; simp only; omega) _,
   ownsRow_set h.rc (fun k hk => by have := h.hg; cases hk; simp only; omega) _,
   h.bw.setCell (by simp only; omega) _, h.mg, h.hg⟩
theorem OrdW.drewN {w wr : World} {n q S g : Nat} {vM : Value} {L M C : List Int} (h : OrdW w wr n q S g vM L M C) (j : Nat) : OrdW w (wr.drewN j) n q S g vM L M C :=
  ⟨h.d0.q ⟨_, rfl⟩, h.d1.q ⟨_, rfl⟩, h.rl, h.rm, h.rc, h.bw.trans ((Qw.refl wr).drewN j |>.below _), h.mg, h.hg⟩
theorem int_get {w : World} {base g n : Nat} {cap : Nat} {l : List Int} (h : w.ownsRow base 3 1 (.slice (some ⟨g, 0, none⟩) n cap) n (l.map (Value.int .i64))) {j : Nat} (hj : j < n) : w.cell? ⟨g, j, none⟩ = some (.int .i64 (l.getD j 0)) := by
  have hl : l.length = n := by have := h.1; simpa using this
  rw [h.cellAt j (by omega)]
  exact i64_cells_get l j (by omega)
set_option maxRecDepth 100000 in
set_option maxHeartbeats 4000000 in
theorem Orders_try (s a k : Nat) (w : World) (hs : s < 18446744073709551616) (ha : a < 256) (hk : k < 256) :
    Calls Try.prog 8 #[.int .u64 s, .int .u8 a, .int .u8 k] w fun e w' => e = .returned (.bool true) ∧ Below w.heap.size w w' := by
  obtain ⟨n, hn⟩ : ∃ n, n = a % 201 := ⟨_, rfl⟩
  obtain ⟨q, hq⟩ : ∃ q, q = k % (n + 1) := ⟨_, rfl⟩
  have hn2 : n ≤ 200 := by omega
  have hq2 : q ≤ n := by have := Nat.mod_lt k (show 0 < n + 1 by omega); omega
  have ea : (a : Int) % 201 = (n : Int) := by omega
  have eq : (k : Int) % ((n : Int) + 1) = (q : Int) := by rw [hq]; simp
  have EA := Lib.hid ea; have EQ := Lib.hid eq
  clear hn hq hs ea eq
  obtain ⟨S, hS⟩ : ∃ S, S = permS s n := ⟨_, rfl⟩
  obtain ⟨L, hL⟩ : ∃ L, L = permL s n := ⟨_, rfl⟩
  obtain ⟨M, hM⟩ : ∃ M, M = sampL s n q := ⟨_, rfl⟩
  have HS := Lib.hid hS; have HL := Lib.hid hL; have HM := Lib.hid hM
  have LL : Hid (L.length = n) := Lib.hid (by rw [hL]; exact permL_len s n)
  have LM : Hid (M.length = q) := Lib.hid (by rw [hM]; exact sampL_len s n q hq2)
  have LB : Hid (∀ j, j < n → 0 ≤ L.getD j 0 ∧ L.getD j 0 < n) := Lib.hid (fun j hj => by
    have h1 : L.getD j 0 ∈ L := by
      simp only [List.getD, List.getElem?_eq_getElem (show j < L.length by rw [hL, permL_len]; exact hj), Option.getD_some]
      exact List.getElem_mem _
    rw [hL] at h1 ⊢; exact permL_mem.1 h1)
  have FB : Hid (∀ v, v < n → (seenL L n n).getD v 0 = 1) := Lib.hid (fun v hv => by rw [hL]; exact seenL_full s n v hv)
  have MB : Hid (∀ j, j < q → 0 ≤ M.getD j 0 ∧ M.getD j 0 < n) := Lib.hid (fun j hj => by rw [hM]; exact sampL_get hq2 hj)
  have ML : Hid (∀ j, j + 1 < q → M.getD j 0 < M.getD (j + 1) 0) := Lib.hid (fun j hj => by rw [hM]; exact sampL_lt s n q j hq2 hj)
  clear hS hL hM
  go_enter Try.func8, Try.ntmps8
  go_wp2_with fail
  rw [EA.out, EQ.out]
  refine (New_ex s _).mono ?_
  rintro e w1 ⟨rfl, d1, s1, b1⟩
  have hlt1 := d1.lt
  have D1 := Lib.hid d1; have S1 := Lib.hid s1; have B1 := Lib.hid b1
  clear d1 b1
  go_wp2_with fail
  refine (Copy_any w.heap.size s _ D1.out).mono ?_
  rintro e w2 ⟨rfl, d2, s2, b2⟩
  rw [s1] at d2 b2 ⊢
  have D2 := Lib.hid (D1.out.below b2 (by omega)); have C2 := Lib.hid d2; have S2 := Lib.hid (show w2.heap.size = w.heap.size + 2 by omega); have B2 := Lib.hid (B1.out.trans (b2.mono (by omega)))
  clear d2 s2 b2 s1
  go_wp2_with fail
  refine (Perm_any w.heap.size s n _ D2.out (by omega)).mono ?_
  rintro e w3 ⟨rfl, r3, u3⟩
  rw [S2.out] at r3 u3 ⊢
  rw [← HS.out] at u3
  rw [← HL.out] at r3
  have hs3 : w.heap.size + 3 ≤ w3.heap.size := by have := (r3.lt (w.heap.size + 2) rfl).2; omega
  have D3 := Lib.hid (Upd.at D2.out u3 (by omega)); have C3 := Lib.hid (C2.out.upd u3 (by omega) (by omega)); have R3 := Lib.hid r3; have B3 := Lib.hid (B2.out.trans (u3.to (Nat.le_refl _) (by omega)))
  clear r3 u3
  go_wp2_with fail
  refine (Sample_any (w.heap.size + 1) s n q _ C3.out (by omega) hq2).mono ?_
  rintro e w4 ⟨A4, c4, rfl, r4, u4⟩
  rw [← HS.out] at u4
  rw [← HM.out] at r4
  have hs4 := u4.size
  have D4 := Lib.hid (D3.out.upd u4 (by omega) (by omega)); have C4 := Lib.hid (Upd.at C3.out u4 (by omega)); have R4 := Lib.hid (ownsRow_upd R3.out u4 (by omega)); have M4 := Lib.hid (ownsRow_base r4 hs3); have B4 := Lib.hid (B3.out.trans (u4.to (by omega) (by omega)))
  have MG := Lib.hid (fun kk hk => (r4.lt kk hk).2)
  clear r4 u4
  have hmk := fun w => make_int w n (by omega)
  go_wp2_with fail
  obtain ⟨g, hg⟩ : ∃ g, g = w4.heap.size := ⟨_, rfl⟩
  have START : Hid (OrdW w (w4.alloc (.cells (Array.replicate n (.int .i64 0)) 3)) n q S g (.slice A4 q c4) (goneL L 0) M (seenL L n 0)) := Lib.hid (by
    have hb : Below w4.heap.size w4 (w4.alloc (.cells (Array.replicate n (.int .i64 0)) 3)) := (Below.refl _ _).alloc (Nat.le_refl _) _
    subst hg
    refine ⟨D4.out.below hb (by omega), C4.out.below hb (by omega), R4.out.alloc _, M4.out.alloc _, ?_, B4.out.trans (hb.mono (by omega)), MG.out, by omega⟩
    refine ownsRow_base (own_of_row (base := w4.heap.size) (g := w4.heap.size) ?_ (by rw [List.length_map, seenL_len]) (Nat.le_refl _) (by unfold maxLen; omega)) (by omega)
    rw [heap_alloc_new, seenL_zero]; simp)
  rw [← hg]
  have hg3 : w.heap.size + 3 ≤ g := by omega
  clear hmk hg
  go_loopw [16] (fun i wr => ∃ j : Nat, j ≤ n ∧ i = .int .i64 j ∧ OrdW w wr n q S g (.slice A4 q c4) (goneL L j) M (seenL L n j)) (fun i _ => n - (intOf i).toNat)
  case atStart => exact ⟨0, Nat.zero_le _, rfl, START.out⟩
  case round =>
    obtain ⟨j, hj, rfl, ho⟩ := hrel
    by_cases hlt : j < n
    · have hji : (j : Int) < (n : Int) := by omega
      have hjL : j < L.length := by rw [LL.out]; exact hlt
      obtain ⟨v, hv⟩ : ∃ v : Nat, L.getD j 0 = (v : Int) := ⟨(L.getD j 0).toNat, by have := LB.out j hlt; omega⟩
      have hvb := LB.out j hlt
      rw [hv] at hvb
      obtain ⟨hv0, hvn⟩ := hvb
      have hvn' : v < n := by omega
      obtain ⟨y, hy⟩ : ∃ y, y = (seenL L n j).getD v 0 := ⟨_, rfl⟩
      have hyb : 0 ≤ y ∧ y ≤ 200 := by
        rw [hy, seenL_get _ _ _ _ hvn']
        have := List.count_le_length (a := (v : Int)) (l := L.take j)
        rw [List.length_take] at this; omega
      obtain ⟨hy0, hy2⟩ := hyb
      have c1 : wr.cell? ⟨w.heap.size + 2, j, none⟩ = some (.int .i64 (v : Int)) := by
        rw [int_get ho.rl hlt, goneL_get _ _ hjL, hv]
      have c2 : wr.cell? ⟨g, v, none⟩ = some (.int .i64 y) := by rw [int_get ho.rc hvn', hy]
      have f2 : wr.frozen? ⟨g, v, none⟩ = false := ho.rc.frozenAt v
      have c3 : (wr.setCell ⟨g, v, none⟩ (.int .i64 (y + 1))).cell? ⟨w.heap.size + 2, j, none⟩ = some (.int .i64 (v : Int)) := by
        rw [World.cell?_setCell_other _ _ _ _ (by intro e; injection e; omega)]; exact c1
      have f3 : (wr.setCell ⟨g, v, none⟩ (.int .i64 (y + 1))).frozen? ⟨w.heap.size + 2, j, none⟩ = false := (setCell_frozen _ _ _ _).trans (ho.rl.frozenAt j)
      have ho2 := (ho.setC v (y + 1)).setL j (-1)
      rw [goneL_step _ _ hjL, hy, seenL_step _ _ _ _ hjL hv hvn', ← hy] at ho2
      have HO2 := Lib.hid ho2
      clear ho ho2 hy hv hjL
      go_wp2_with fail
      go_roundw
      case rel => exact ⟨j + 1, by omega, by go_num, HO2.out⟩
      case measure => simp [intOf]; omega
    · obtain rfl : j = n := by omega
      have HO := Lib.hid ho
      clear ho hlt hj
      obtain ⟨wp, rfl⟩ : ∃ wp : World, wp = wr := ⟨_, rfl⟩
      go_wp2_with fail
      go_loop [17] (fun i => ∃ v : Nat, v ≤ j ∧ i = .int .i64 v) (fun i => j - (intOf i).toNat)
      case atStart => exact ⟨0, Nat.zero_le _, rfl⟩
      case round =>
        obtain ⟨v, hv, rfl⟩ := hrel
        by_cases hlt : v < j
        · have hvi : (v : Int) < (j : Int) := by omega
          have c2 : wp.cell? ⟨g, v, none⟩ = some (.int .i64 1) := by rw [int_get HO.out.rc hlt, FB.out v hlt]
          go_wp2_with fail
          go_round
          case rel => exact ⟨v + 1, by omega, by go_num⟩
          case measure => simp [intOf]; omega
        · obtain rfl : v = j := by omega
          clear hlt hv
          go_wp2_with fail
          go_loopw [18] (fun i wr => ∃ u : Nat, u ≤ q ∧ i = .int .i64 u ∧ Qw wp wr) (fun i _ => q - (intOf i).toNat)
          case atStart => exact ⟨0, Nat.zero_le _, rfl, Qw.refl _⟩
          case round =>
            obtain ⟨u, hu, rfl, hqw⟩ := hrel
            have HQ := Lib.hid hqw; clear hqw
            by_cases hlt : u < q
            · have hui : (u : Int) < (q : Int) := by omega
              obtain ⟨gm, hA⟩ : ∃ gm, A4 = some ⟨gm, 0, none⟩ := by
                obtain ⟨g1, cap, hv⟩ := own_head HO.out.rm (by omega)
                injection hv with h1 _ _; exact ⟨g1, h1⟩
              have hmb := MB.out u hlt
              obtain ⟨hm0, hm1⟩ := hmb
              have c1 : wr.cell? ⟨gm, u, none⟩ = some (.int .i64 (M.getD u 0)) := by
                rw [HQ.out.cell]; have := HO.out.rm; rw [hA] at this; exact int_get this hlt
              by_cases hu0 : u = 0
              · subst hu0
                subst hA
                generalize M.getD 0 0 = x at hm0 hm1 c1
                have hx : ¬ ((v : Int) ≤ x) := by omega
                go_wp2_with fail
                -- <REGION first
                refine wp_region_noPanic ?_
                refine wp_region_held_drew (S := fun w' => w'.cell? ⟨gm, 0, none⟩ = some (.int .i64 x)) (by kernel_rfl) ?_ (fun hHeld => ?_)
                · (try dsimp only); first | exact ⟨c0, c1⟩ | exact c1
                refine wpAnyH_take (i := 0) (oi := ⟨some 95, _, _, _, _, _⟩) (v := ?_) rfl (by kernel_rfl) (by kernel_rfl) (by kernel_rfl) (fun _ _ _ h => h) (Or.inl ⟨by rfl, ?_⟩) (by assumption) ?_
                rotate_left
                · (intro w hSw; (try dsimp only at hSw); go_simp; try with_reducible rfl)
                try simp only [Act.put, List.setIfInBounds_toArray, List.set_cons_zero, List.set_cons_succ]
                refine wpAnyH_take (i := 1) (oi := ⟨some 96, _, _, _, _, _⟩) (v := ?_) rfl (by kernel_rfl) (by kernel_rfl) (by kernel_rfl) (fun _ _ _ h => h) (Or.inl ⟨by rfl, ?_⟩) (by assumption) ?_
                rotate_left
                · (intro w hSw; (try dsimp only at hSw); go_simp; try with_reducible rfl)
                try simp only [Act.put, List.setIfInBounds_toArray, List.set_cons_zero, List.set_cons_succ]
                refine wpAnyH_take (i := 2) (oi := ⟨some 97, _, _, _, _, _⟩) (v := .pointer (some ⟨gm, 0, none⟩)) rfl (by kernel_rfl) (by kernel_rfl) (by kernel_rfl) (fun _ _ _ h => h) (Or.inl ⟨by rfl, ?_⟩) (by assumption) ?_
                · (intro w hSw; (try dsimp only at hSw); exact exec_idx Try.underlying54 Try.sizeOf3 rfl rfl (by omega) w)
                try simp only [Act.put, List.setIfInBounds_toArray, List.set_cons_zero, List.set_cons_succ]
                refine wpAnyH_take (i := 3) (oi := ⟨some 98, _, _, _, _, _⟩) (v := ?_) rfl (by kernel_rfl) (by kernel_rfl) (by kernel_rfl) (fun _ _ _ h => h) (Or.inl ⟨by rfl, ?_⟩) (by assumption) ?_
                rotate_left
                · (intro w hSw; (try dsimp only at hSw); go_simp; try with_reducible rfl)
                try simp only [Act.put, List.setIfInBounds_toArray, List.set_cons_zero, List.set_cons_succ]
                refine wpAnyH_take (i := 4) (oi := ⟨some 99, _, _, _, _, _⟩) (v := .bool false) rfl (by kernel_rfl) (by kernel_rfl) (by kernel_rfl) (fun _ _ _ h => h) (Or.inl ⟨by rfl, ?_⟩) (by assumption) ?_
                · (intro w hSw; (try dsimp only at hSw); first | (go_simp; done) | (go_simp; (try simp only [decide_eq_false_iff_not, decide_eq_true_eq, Value.bool.injEq, Next.value.injEq, Result.ok.injEq, and_true]); omega))
                try simp only [Act.put, List.setIfInBounds_toArray, List.set_cons_zero, List.set_cons_succ]
                refine wpAnyH_take (i := 5) (oi := ⟨some 100, _, _, _, _, _⟩) (v := ?_) rfl (by kernel_rfl) (by kernel_rfl) (by kernel_rfl) (fun _ _ _ h => h) (Or.inl ⟨by rfl, ?_⟩) (by assumption) ?_
                rotate_left
                · (intro w hSw; (try dsimp only at hSw); go_simp; try with_reducible rfl)
                try simp only [Act.put, List.setIfInBounds_toArray, List.set_cons_zero, List.set_cons_succ]
                refine wpAnyH_take (i := 6) (oi := ⟨some 101, _, _, _, _, _⟩) (v := ?_) rfl (by kernel_rfl) (by kernel_rfl) (by kernel_rfl) (fun _ _ _ h => h) (Or.inl ⟨by rfl, ?_⟩) (by assumption) ?_
                rotate_left
                · (intro w hSw; (try dsimp only at hSw); go_simp; try with_reducible rfl)
                try simp only [Act.put, List.setIfInBounds_toArray, List.set_cons_zero, List.set_cons_succ]
                refine wpAnyH_take (i := 7) (oi := ⟨some 102, _, _, _, _, _⟩) (v := ?_) rfl (by kernel_rfl) (by kernel_rfl) (by kernel_rfl) (fun _ _ _ h => h) (Or.inl ⟨by rfl, ?_⟩) (by assumption) ?_
                rotate_left
                · (intro w hSw; (try dsimp only at hSw); go_simp; try with_reducible rfl)
                try simp only [Act.put, List.setIfInBounds_toArray, List.set_cons_zero, List.set_cons_succ]
                refine wpAnyH_take (i := 8) (oi := ⟨some 103, _, _, _, _, _⟩) (v := .pointer (some ⟨gm, 0, none⟩)) rfl (by kernel_rfl) (by kernel_rfl) (by kernel_rfl) (fun _ _ _ h => h) (Or.inl ⟨by rfl, ?_⟩) (by assumption) ?_
                · (intro w hSw; (try dsimp only at hSw); exact exec_idx Try.underlying54 Try.sizeOf3 rfl rfl (by omega) w)
                try simp only [Act.put, List.setIfInBounds_toArray, List.set_cons_zero, List.set_cons_succ]
                refine wpAnyH_take (i := 9) (oi := ⟨some 104, _, _, _, _, _⟩) (v := ?_) rfl (by kernel_rfl) (by kernel_rfl) (by kernel_rfl) (fun _ _ _ h => h) (Or.inl ⟨by rfl, ?_⟩) (by assumption) ?_
                rotate_left
                · (intro w hSw; (try dsimp only at hSw); go_simp; try with_reducible rfl)
                try simp only [Act.put, List.setIfInBounds_toArray, List.set_cons_zero, List.set_cons_succ]
                refine wpAnyH_take (i := 10) (oi := ⟨some 105, _, _, _, _, _⟩) (v := ?_) rfl (by kernel_rfl) (by kernel_rfl) (by kernel_rfl) (fun _ _ _ h => h) (Or.inl ⟨by rfl, ?_⟩) (by assumption) ?_
                rotate_left
                · (intro w hSw; (try dsimp only at hSw); go_simp; try with_reducible rfl)
                try simp only [Act.put, List.setIfInBounds_toArray, List.set_cons_zero, List.set_cons_succ]
                refine wpAnyH_take (i := 11) (oi := ⟨some 106, _, _, _, _, _⟩) (v := .bool false) rfl (by kernel_rfl) (by kernel_rfl) (by kernel_rfl) (fun _ _ _ h => h) (Or.inl ⟨by rfl, ?_⟩) (by assumption) ?_
                · (intro w hSw; (try dsimp only at hSw); first | (go_simp; done) | (go_simp; (try simp only [decide_eq_false_iff_not, decide_eq_true_eq, Value.bool.injEq, Next.value.injEq, Result.ok.injEq, and_true]); omega))
                try simp only [Act.put, List.setIfInBounds_toArray, List.set_cons_zero, List.set_cons_succ]
                refine wpAnyH_take (i := 12) (oi := ⟨some 107, _, _, _, _, _⟩) (v := ?_) rfl (by kernel_rfl) (by kernel_rfl) (by kernel_rfl) (fun _ _ _ h => h) (Or.inl ⟨by rfl, ?_⟩) (by assumption) ?_
                rotate_left
                · (intro w hSw; (try dsimp only at hSw); go_simp; try with_reducible rfl)
                try simp only [Act.put, List.setIfInBounds_toArray, List.set_cons_zero, List.set_cons_succ]
                refine wpAnyH_take (i := 13) (oi := ⟨some 108, _, _, _, _, _⟩) (v := ?_) rfl (by kernel_rfl) (by kernel_rfl) (by kernel_rfl) (fun _ _ _ h => h) (Or.inl ⟨by rfl, ?_⟩) (by assumption) ?_
                rotate_left
                · (intro w hSw; (try dsimp only at hSw); go_simp; try with_reducible rfl)
                try simp only [Act.put, List.setIfInBounds_toArray, List.set_cons_zero, List.set_cons_succ]
                refine wpAnyH_take (i := 14) (oi := ⟨some 109, _, _, _, _, _⟩) (v := ?_) rfl (by kernel_rfl) (by kernel_rfl) (by kernel_rfl) (fun _ _ _ h => h) (Or.inl ⟨by rfl, ?_⟩) (by assumption) ?_
                rotate_left
                · (intro w hSw; (try dsimp only at hSw); go_simp; try with_reducible rfl)
                try simp only [Act.put, List.setIfInBounds_toArray, List.set_cons_zero, List.set_cons_succ]
                refine wpAnyH_take (i := 15) (oi := ⟨some 110, _, _, _, _, _⟩) (v := .bool false) rfl (by kernel_rfl) (by kernel_rfl) (by kernel_rfl) (fun _ _ _ h => h) (Or.inl ⟨by rfl, ?_⟩) (by assumption) ?_
                · (intro w hSw; (try dsimp only at hSw); first | (go_simp; done) | (go_simp; (try simp only [decide_eq_false_iff_not, decide_eq_true_eq, Value.bool.injEq, Next.value.injEq, Result.ok.injEq, and_true]); omega))
                try simp only [Act.put, List.setIfInBounds_toArray, List.set_cons_zero, List.set_cons_succ]
                refine wpAnyH_take (i := 16) (oi := ⟨some 111, _, _, _, _, _⟩) (v := ?_) rfl (by kernel_rfl) (by kernel_rfl) (by kernel_rfl) (fun _ _ _ h => h) (Or.inl ⟨by rfl, ?_⟩) (by assumption) ?_
                rotate_left
                · (intro w hSw; (try dsimp only at hSw); go_simp; try with_reducible rfl)
                try simp only [Act.put, List.setIfInBounds_toArray, List.set_cons_zero, List.set_cons_succ]
                refine wpAnyH_take (i := 17) (oi := ⟨some 112, _, _, _, _, _⟩) (v := undef) rfl (by kernel_rfl) (by kernel_rfl) (by kernel_rfl) (fun _ _ _ h => h) (Or.inr ⟨by rfl, rfl⟩) (by assumption) ?_
                try simp only [Act.put, List.setIfInBounds_toArray, List.set_cons_zero, List.set_cons_succ]
                refine wpAnyH_take (i := 18) (oi := ⟨some 113, _, _, _, _, _⟩) (v := undef) rfl (by kernel_rfl) (by kernel_rfl) (by kernel_rfl) (fun _ _ _ h => h) (Or.inr ⟨by rfl, rfl⟩) (by assumption) ?_
                try simp only [Act.put, List.setIfInBounds_toArray, List.set_cons_zero, List.set_cons_succ]
                refine wpAnyH_take (i := 19) (oi := ⟨some 114, _, _, _, _, _⟩) (v := undef) rfl (by kernel_rfl) (by kernel_rfl) (by kernel_rfl) (fun _ _ _ h => h) (Or.inr ⟨by rfl, rfl⟩) (by assumption) ?_
                try simp only [Act.put, List.setIfInBounds_toArray, List.set_cons_zero, List.set_cons_succ]
                refine wpAnyH_take (i := 20) (oi := ⟨some 115, _, _, _, _, _⟩) (v := undef) rfl (by kernel_rfl) (by kernel_rfl) (by kernel_rfl) (fun _ _ _ h => h) (Or.inr ⟨by rfl, rfl⟩) (by assumption) ?_
                try simp only [Act.put, List.setIfInBounds_toArray, List.set_cons_zero, List.set_cons_succ]
                refine wpAnyH_take (i := 21) (oi := ⟨some 116, _, _, _, _, _⟩) (v := undef) rfl (by kernel_rfl) (by kernel_rfl) (by kernel_rfl) (fun _ _ _ h => h) (Or.inr ⟨by rfl, rfl⟩) (by assumption) ?_
                try simp only [Act.put, List.setIfInBounds_toArray, List.set_cons_zero, List.set_cons_succ]
                refine wpAnyH_take (i := 22) (oi := ⟨some 117, _, _, _, _, _⟩) (v := undef) rfl (by kernel_rfl) (by kernel_rfl) (by kernel_rfl) (fun _ _ _ h => h) (Or.inr ⟨by rfl, rfl⟩) (by assumption) ?_
                try simp only [Act.put, List.setIfInBounds_toArray, List.set_cons_zero, List.set_cons_succ]
                refine wpAnyH_take (i := 23) (oi := ⟨some 118, _, _, _, _, _⟩) (v := undef) rfl (by kernel_rfl) (by kernel_rfl) (by kernel_rfl) (fun _ _ _ h => h) (Or.inr ⟨by rfl, rfl⟩) (by assumption) ?_
                try simp only [Act.put, List.setIfInBounds_toArray, List.set_cons_zero, List.set_cons_succ]
                refine wpAnyH_take (i := 24) (oi := ⟨some 119, _, _, _, _, _⟩) (v := undef) rfl (by kernel_rfl) (by kernel_rfl) (by kernel_rfl) (fun _ _ _ h => h) (Or.inr ⟨by rfl, rfl⟩) (by assumption) ?_
                try simp only [Act.put, List.setIfInBounds_toArray, List.set_cons_zero, List.set_cons_succ]
                refine wpAnyH_take (i := 25) (oi := ⟨some 120, _, _, _, _, _⟩) (v := undef) rfl (by kernel_rfl) (by kernel_rfl) (by kernel_rfl) (fun _ _ _ h => h) (Or.inr ⟨by rfl, rfl⟩) (by assumption) ?_
                try simp only [Act.put, List.setIfInBounds_toArray, List.set_cons_zero, List.set_cons_succ]
                refine wpAnyH_take (i := 26) (oi := ⟨some 121, _, _, _, _, _⟩) (v := undef) rfl (by kernel_rfl) (by kernel_rfl) (by kernel_rfl) (fun _ _ _ h => h) (Or.inr ⟨by rfl, rfl⟩) (by assumption) ?_
                try simp only [Act.put, List.setIfInBounds_toArray, List.set_cons_zero, List.set_cons_succ]
                refine wpAnyH_take (i := 27) (oi := ⟨some 122, _, _, _, _, _⟩) (v := ?_) rfl (by kernel_rfl) (by kernel_rfl) (by kernel_rfl) (fun _ _ _ h => h) (Or.inl ⟨by rfl, ?_⟩) (by assumption) ?_
                rotate_left
                · (intro w hSw; (try dsimp only at hSw); go_simp; try with_reducible rfl)
                try simp only [Act.put, List.setIfInBounds_toArray, List.set_cons_zero, List.set_cons_succ]
                refine wpAnyH_take (i := 28) (oi := ⟨some 123, _, _, _, _, _⟩) (v := ?_) rfl (by kernel_rfl) (by kernel_rfl) (by kernel_rfl) (fun _ _ _ h => h) (Or.inl ⟨by rfl, ?_⟩) (by assumption) ?_
                rotate_left
                · (intro w hSw; (try dsimp only at hSw); go_simp; try with_reducible rfl)
                try simp only [Act.put, List.setIfInBounds_toArray, List.set_cons_zero, List.set_cons_succ]
                refine wpAnyH_done (by kernel_rfl) ?_ _
                refine NoPanic.normal ?_
                go_wp2_with fail
                go_roundw
                case rel => exact ⟨1, by omega, by simp, HQ.out.drew⟩
                case measure => simp [intOf]; omega
                -- REGION>
              · obtain ⟨u', rfl⟩ : ∃ u', u = u' + 1 := ⟨u - 1, by omega⟩
                have c0 : wr.cell? ⟨gm, u', none⟩ = some (.int .i64 (M.getD u' 0)) := by
                  rw [HQ.out.cell]; have := HO.out.rm; rw [hA] at this; exact int_get this (by omega)
                have hml := ML.out u' hlt
                subst hA
                generalize M.getD (u' + 1) 0 = x at hm0 hm1 c1 hml
                generalize M.getD u' 0 = x0 at c0 hml
                have hx : ¬ ((v : Int) ≤ x) := by omega
                have hxx : ¬ (x ≤ x0) := by omega
                have hu1 : (0 : Int) < (u' : Int) + 1 := by omega
                have hu2 : (u' : Int) < (q : Int) := by omega
                go_wp2_with fail
                -- <REGION next
                refine wp_region_noPanic ?_
                refine wp_region_held_drew (S := fun w' => w'.cell? ⟨gm, u', none⟩ = some (.int .i64 x0) ∧ w'.cell? ⟨gm, u' + 1, none⟩ = some (.int .i64 x)) (by kernel_rfl) ?_ (fun hHeld => ?_)
                · (try dsimp only); first | exact ⟨c0, c1⟩ | exact c1
                refine wpAnyH_take (i := 0) (oi := ⟨some 95, _, _, _, _, _⟩) (v := ?_) rfl (by kernel_rfl) (by kernel_rfl) (by kernel_rfl) (fun _ _ _ h => h) (Or.inl ⟨by rfl, ?_⟩) (by assumption) ?_
                rotate_left
                · (intro w hSw; (try dsimp only at hSw); go_simp; try with_reducible rfl)
                try simp only [Act.put, List.setIfInBounds_toArray, List.set_cons_zero, List.set_cons_succ]
                refine wpAnyH_take (i := 1) (oi := ⟨some 96, _, _, _, _, _⟩) (v := ?_) rfl (by kernel_rfl) (by kernel_rfl) (by kernel_rfl) (fun _ _ _ h => h) (Or.inl ⟨by rfl, ?_⟩) (by assumption) ?_
                rotate_left
                · (intro w hSw; (try dsimp only at hSw); go_simp; try with_reducible rfl)
                try simp only [Act.put, List.setIfInBounds_toArray, List.set_cons_zero, List.set_cons_succ]
                refine wpAnyH_take (i := 2) (oi := ⟨some 97, _, _, _, _, _⟩) (v := .pointer (some ⟨gm, u' + 1, none⟩)) rfl (by kernel_rfl) (by kernel_rfl) (by kernel_rfl) (fun _ _ _ h => h) (Or.inl ⟨by rfl, ?_⟩) (by assumption) ?_
                · (intro w hSw; (try dsimp only at hSw); exact exec_idx Try.underlying54 Try.sizeOf3 rfl rfl (by omega) w)
                try simp only [Act.put, List.setIfInBounds_toArray, List.set_cons_zero, List.set_cons_succ]
                refine wpAnyH_take (i := 3) (oi := ⟨some 98, _, _, _, _, _⟩) (v := ?_) rfl (by kernel_rfl) (by kernel_rfl) (by kernel_rfl) (fun _ _ _ h => h) (Or.inl ⟨by rfl, ?_⟩) (by assumption) ?_
                rotate_left
                · (intro w hSw; (try dsimp only at hSw); go_simp; try with_reducible rfl)
                try simp only [Act.put, List.setIfInBounds_toArray, List.set_cons_zero, List.set_cons_succ]
                refine wpAnyH_take (i := 4) (oi := ⟨some 99, _, _, _, _, _⟩) (v := .bool false) rfl (by kernel_rfl) (by kernel_rfl) (by kernel_rfl) (fun _ _ _ h => h) (Or.inl ⟨by rfl, ?_⟩) (by assumption) ?_
                · (intro w hSw; (try dsimp only at hSw); first | (go_simp; done) | (go_simp; (try simp only [decide_eq_false_iff_not, decide_eq_true_eq, Value.bool.injEq, Next.value.injEq, Result.ok.injEq, and_true]); omega))
                try simp only [Act.put, List.setIfInBounds_toArray, List.set_cons_zero, List.set_cons_succ]
                refine wpAnyH_take (i := 5) (oi := ⟨some 100, _, _, _, _, _⟩) (v := ?_) rfl (by kernel_rfl) (by kernel_rfl) (by kernel_rfl) (fun _ _ _ h => h) (Or.inl ⟨by rfl, ?_⟩) (by assumption) ?_
                rotate_left
                · (intro w hSw; (try dsimp only at hSw); go_simp; try with_reducible rfl)
                try simp only [Act.put, List.setIfInBounds_toArray, List.set_cons_zero, List.set_cons_succ]
                refine wpAnyH_take (i := 6) (oi := ⟨some 101, _, _, _, _, _⟩) (v := ?_) rfl (by kernel_rfl) (by kernel_rfl) (by kernel_rfl) (fun _ _ _ h => h) (Or.inl ⟨by rfl, ?_⟩) (by assumption) ?_
                rotate_left
                · (intro w hSw; (try dsimp only at hSw); go_simp; try with_reducible rfl)
                try simp only [Act.put, List.setIfInBounds_toArray, List.set_cons_zero, List.set_cons_succ]
                refine wpAnyH_take (i := 7) (oi := ⟨some 102, _, _, _, _, _⟩) (v := ?_) rfl (by kernel_rfl) (by kernel_rfl) (by kernel_rfl) (fun _ _ _ h => h) (Or.inl ⟨by rfl, ?_⟩) (by assumption) ?_
                rotate_left
                · (intro w hSw; (try dsimp only at hSw); go_simp; try with_reducible rfl)
                try simp only [Act.put, List.setIfInBounds_toArray, List.set_cons_zero, List.set_cons_succ]
                refine wpAnyH_take (i := 8) (oi := ⟨some 103, _, _, _, _, _⟩) (v := .pointer (some ⟨gm, u' + 1, none⟩)) rfl (by kernel_rfl) (by kernel_rfl) (by kernel_rfl) (fun _ _ _ h => h) (Or.inl ⟨by rfl, ?_⟩) (by assumption) ?_
                · (intro w hSw; (try dsimp only at hSw); exact exec_idx Try.underlying54 Try.sizeOf3 rfl rfl (by omega) w)
                try simp only [Act.put, List.setIfInBounds_toArray, List.set_cons_zero, List.set_cons_succ]
                refine wpAnyH_take (i := 9) (oi := ⟨some 104, _, _, _, _, _⟩) (v := ?_) rfl (by kernel_rfl) (by kernel_rfl) (by kernel_rfl) (fun _ _ _ h => h) (Or.inl ⟨by rfl, ?_⟩) (by assumption) ?_
                rotate_left
                · (intro w hSw; (try dsimp only at hSw); go_simp; try with_reducible rfl)
                try simp only [Act.put, List.setIfInBounds_toArray, List.set_cons_zero, List.set_cons_succ]
                refine wpAnyH_take (i := 10) (oi := ⟨some 105, _, _, _, _, _⟩) (v := ?_) rfl (by kernel_rfl) (by kernel_rfl) (by kernel_rfl) (fun _ _ _ h => h) (Or.inl ⟨by rfl, ?_⟩) (by assumption) ?_
                rotate_left
                · (intro w hSw; (try dsimp only at hSw); go_simp; try with_reducible rfl)
                try simp only [Act.put, List.setIfInBounds_toArray, List.set_cons_zero, List.set_cons_succ]
                refine wpAnyH_take (i := 11) (oi := ⟨some 106, _, _, _, _, _⟩) (v := .bool false) rfl (by kernel_rfl) (by kernel_rfl) (by kernel_rfl) (fun _ _ _ h => h) (Or.inl ⟨by rfl, ?_⟩) (by assumption) ?_
                · (intro w hSw; (try dsimp only at hSw); first | (go_simp; done) | (go_simp; (try simp only [decide_eq_false_iff_not, decide_eq_true_eq, Value.bool.injEq, Next.value.injEq, Result.ok.injEq, and_true]); omega))
                try simp only [Act.put, List.setIfInBounds_toArray, List.set_cons_zero, List.set_cons_succ]
                refine wpAnyH_take (i := 12) (oi := ⟨some 107, _, _, _, _, _⟩) (v := ?_) rfl (by kernel_rfl) (by kernel_rfl) (by kernel_rfl) (fun _ _ _ h => h) (Or.inl ⟨by rfl, ?_⟩) (by assumption) ?_
                rotate_left
                · (intro w hSw; (try dsimp only at hSw); go_simp; try with_reducible rfl)
                try simp only [Act.put, List.setIfInBounds_toArray, List.set_cons_zero, List.set_cons_succ]
                refine wpAnyH_take (i := 13) (oi := ⟨some 108, _, _, _, _, _⟩) (v := ?_) rfl (by kernel_rfl) (by kernel_rfl) (by kernel_rfl) (fun _ _ _ h => h) (Or.inl ⟨by rfl, ?_⟩) (by assumption) ?_
                rotate_left
                · (intro w hSw; (try dsimp only at hSw); go_simp; try with_reducible rfl)
                try simp only [Act.put, List.setIfInBounds_toArray, List.set_cons_zero, List.set_cons_succ]
                refine wpAnyH_take (i := 14) (oi := ⟨some 109, _, _, _, _, _⟩) (v := ?_) rfl (by kernel_rfl) (by kernel_rfl) (by kernel_rfl) (fun _ _ _ h => h) (Or.inl ⟨by rfl, ?_⟩) (by assumption) ?_
                rotate_left
                · (intro w hSw; (try dsimp only at hSw); go_simp; try with_reducible rfl)
                try simp only [Act.put, List.setIfInBounds_toArray, List.set_cons_zero, List.set_cons_succ]
                refine wpAnyH_take (i := 15) (oi := ⟨some 110, _, _, _, _, _⟩) (v := .bool true) rfl (by kernel_rfl) (by kernel_rfl) (by kernel_rfl) (fun _ _ _ h => h) (Or.inl ⟨by rfl, ?_⟩) (by assumption) ?_
                · (intro w hSw; (try dsimp only at hSw); first | (go_simp; done) | (go_simp; (try simp only [decide_eq_false_iff_not, decide_eq_true_eq, Value.bool.injEq, Next.value.injEq, Result.ok.injEq, and_true]); omega))
                try simp only [Act.put, List.setIfInBounds_toArray, List.set_cons_zero, List.set_cons_succ]
                refine wpAnyH_take (i := 16) (oi := ⟨some 111, _, _, _, _, _⟩) (v := ?_) rfl (by kernel_rfl) (by kernel_rfl) (by kernel_rfl) (fun _ _ _ h => h) (Or.inl ⟨by rfl, ?_⟩) (by assumption) ?_
                rotate_left
                · (intro w hSw; (try dsimp only at hSw); go_simp; try with_reducible rfl)
                try simp only [Act.put, List.setIfInBounds_toArray, List.set_cons_zero, List.set_cons_succ]
                refine wpAnyH_take (i := 17) (oi := ⟨some 112, _, _, _, _, _⟩) (v := ?_) rfl (by kernel_rfl) (by kernel_rfl) (by kernel_rfl) (fun _ _ _ h => h) (Or.inl ⟨by rfl, ?_⟩) (by assumption) ?_
                rotate_left
                · (intro w hSw; (try dsimp only at hSw); go_simp; try with_reducible rfl)
                try simp only [Act.put, List.setIfInBounds_toArray, List.set_cons_zero, List.set_cons_succ]
                refine wpAnyH_take (i := 18) (oi := ⟨some 113, _, _, _, _, _⟩) (v := ?_) rfl (by kernel_rfl) (by kernel_rfl) (by kernel_rfl) (fun _ _ _ h => h) (Or.inl ⟨by rfl, ?_⟩) (by assumption) ?_
                rotate_left
                · (intro w hSw; (try dsimp only at hSw); go_simp; try with_reducible rfl)
                try simp only [Act.put, List.setIfInBounds_toArray, List.set_cons_zero, List.set_cons_succ]
                refine wpAnyH_take (i := 19) (oi := ⟨some 114, _, _, _, _, _⟩) (v := .int .i64 (u' : Int)) rfl (by kernel_rfl) (by kernel_rfl) (by kernel_rfl) (fun _ _ _ h => h) (Or.inl ⟨by rfl, ?_⟩) (by assumption) ?_
                · (intro w hSw; (try dsimp only at hSw); first | (go_simp; done) | (go_simp; exact i64_small u' (by omega)))
                try simp only [Act.put, List.setIfInBounds_toArray, List.set_cons_zero, List.set_cons_succ]
                refine wpAnyH_take (i := 20) (oi := ⟨some 115, _, _, _, _, _⟩) (v := .pointer (some ⟨gm, u', none⟩)) rfl (by kernel_rfl) (by kernel_rfl) (by kernel_rfl) (fun _ _ _ h => h) (Or.inl ⟨by rfl, ?_⟩) (by assumption) ?_
                · (intro w hSw; (try dsimp only at hSw); exact exec_idx Try.underlying54 Try.sizeOf3 rfl rfl (by omega) w)
                try simp only [Act.put, List.setIfInBounds_toArray, List.set_cons_zero, List.set_cons_succ]
                refine wpAnyH_take (i := 21) (oi := ⟨some 116, _, _, _, _, _⟩) (v := ?_) rfl (by kernel_rfl) (by kernel_rfl) (by kernel_rfl) (fun _ _ _ h => h) (Or.inl ⟨by rfl, ?_⟩) (by assumption) ?_
                rotate_left
                · (intro w hSw; (try dsimp only at hSw); go_simp; try with_reducible rfl)
                try simp only [Act.put, List.setIfInBounds_toArray, List.set_cons_zero, List.set_cons_succ]
                refine wpAnyH_take (i := 22) (oi := ⟨some 117, _, _, _, _, _⟩) (v := ?_) rfl (by kernel_rfl) (by kernel_rfl) (by kernel_rfl) (fun _ _ _ h => h) (Or.inl ⟨by rfl, ?_⟩) (by assumption) ?_
                rotate_left
                · (intro w hSw; (try dsimp only at hSw); go_simp; try with_reducible rfl)
                try simp only [Act.put, List.setIfInBounds_toArray, List.set_cons_zero, List.set_cons_succ]
                refine wpAnyH_take (i := 23) (oi := ⟨some 118, _, _, _, _, _⟩) (v := ?_) rfl (by kernel_rfl) (by kernel_rfl) (by kernel_rfl) (fun _ _ _ h => h) (Or.inl ⟨by rfl, ?_⟩) (by assumption) ?_
                rotate_left
                · (intro w hSw; (try dsimp only at hSw); go_simp; try with_reducible rfl)
                try simp only [Act.put, List.setIfInBounds_toArray, List.set_cons_zero, List.set_cons_succ]
                refine wpAnyH_take (i := 24) (oi := ⟨some 119, _, _, _, _, _⟩) (v := .pointer (some ⟨gm, u' + 1, none⟩)) rfl (by kernel_rfl) (by kernel_rfl) (by kernel_rfl) (fun _ _ _ h => h) (Or.inl ⟨by rfl, ?_⟩) (by assumption) ?_
                · (intro w hSw; (try dsimp only at hSw); exact exec_idx Try.underlying54 Try.sizeOf3 rfl rfl (by omega) w)
                try simp only [Act.put, List.setIfInBounds_toArray, List.set_cons_zero, List.set_cons_succ]
                refine wpAnyH_take (i := 25) (oi := ⟨some 120, _, _, _, _, _⟩) (v := ?_) rfl (by kernel_rfl) (by kernel_rfl) (by kernel_rfl) (fun _ _ _ h => h) (Or.inl ⟨by rfl, ?_⟩) (by assumption) ?_
                rotate_left
                · (intro w hSw; (try dsimp only at hSw); go_simp; try with_reducible rfl)
                try simp only [Act.put, List.setIfInBounds_toArray, List.set_cons_zero, List.set_cons_succ]
                refine wpAnyH_take (i := 26) (oi := ⟨some 121, _, _, _, _, _⟩) (v := .bool false) rfl (by kernel_rfl) (by kernel_rfl) (by kernel_rfl) (fun _ _ _ h => h) (Or.inl ⟨by rfl, ?_⟩) (by assumption) ?_
                · (intro w hSw; (try dsimp only at hSw); first | (go_simp; done) | (go_simp; (try simp only [decide_eq_false_iff_not, decide_eq_true_eq, Value.bool.injEq, Next.value.injEq, Result.ok.injEq, and_true]); omega))
                try simp only [Act.put, List.setIfInBounds_toArray, List.set_cons_zero, List.set_cons_succ]
                refine wpAnyH_take (i := 27) (oi := ⟨some 122, _, _, _, _, _⟩) (v := ?_) rfl (by kernel_rfl) (by kernel_rfl) (by kernel_rfl) (fun _ _ _ h => h) (Or.inl ⟨by rfl, ?_⟩) (by assumption) ?_
                rotate_left
                · (intro w hSw; (try dsimp only at hSw); go_simp; try with_reducible rfl)
                try simp only [Act.put, List.setIfInBounds_toArray, List.set_cons_zero, List.set_cons_succ]
                refine wpAnyH_take (i := 28) (oi := ⟨some 123, _, _, _, _, _⟩) (v := ?_) rfl (by kernel_rfl) (by kernel_rfl) (by kernel_rfl) (fun _ _ _ h => h) (Or.inl ⟨by rfl, ?_⟩) (by assumption) ?_
                rotate_left
                · (intro w hSw; (try dsimp only at hSw); go_simp; try with_reducible rfl)
                try simp only [Act.put, List.setIfInBounds_toArray, List.set_cons_zero, List.set_cons_succ]
                refine wpAnyH_done (by kernel_rfl) ?_ _
                refine NoPanic.normal ?_
                go_wp2_with fail
                go_roundw
                case rel => exact ⟨u' + 2, by omega, by simp; omega, HQ.out.drew⟩
                case measure => simp [intOf]; omega
                -- REGION>
            · obtain rfl : u = q := by omega
              clear hlt hu
              have HO5 : Hid (OrdW w wr v u S g (.slice A4 u c4) (goneL L v) M (seenL L v v)) := Lib.hid (by obtain ⟨d, hd⟩ := HQ.out; rw [hd]; exact HO.out.drewN d)
              clear HO HQ
              have hsr : g < wr.heap.size := (HO5.out.rc.lt g rfl).2
              go_wp2_with fail
              refine (New_ex s _).mono ?_
              rintro e w5 ⟨rfl, d5, s5, b5⟩
              have D5 := Lib.hid d5; have HB5 := Lib.hid b5; have S5 := Lib.hid s5; clear d5 b5
              go_wp2_with fail
              refine (Sample_any wr.heap.size s v u _ D5.out (by omega) hq2).mono ?_
              rintro e w6 ⟨A6, c6, rfl, r6, u6⟩
              rw [← HM.out] at r6
              have hs6 := u6.size
              have HB6 := Lib.hid (HB5.out.trans (u6.to (Nat.le_refl _) (by omega)))
              have R6 := Lib.hid (Rd.own r6)
              have M6 := Lib.hid (Rd.own (ownsRow_bel HO5.out.rm HB6.out (fun kk hk => by have := (HO5.out.rm.lt kk hk).2; exact this)))
              have E0 := Lib.hid (HO5.out.d0.below HB6.out (by omega)); have E1 := Lib.hid (HO5.out.d1.below HB6.out (by omega))
              have HB7 := Lib.hid (HO5.out.bw.trans (HB6.out.mono (by omega)))
              clear r6 u6 s5
              go_wp2_with fail
              refine (sameInts_self _ _ _ _ _ M _ _ (by omega) M6.out R6.out).mono ?_
              rintro e w7 ⟨rfl, hq7⟩
              have F0 := Lib.hid (E0.out.q hq7); have F1 := Lib.hid (E1.out.q hq7); have HB8 := Lib.hid (HB7.out.trans (hq7.below w.heap.size))
              clear hq7
              go_wp2_with fail
              refine (Next_ex w.heap.size S (w.heap.size + 2) _ F0.out (by omega)).mono ?_
              rintro e w8 ⟨y, hy, rfl, u8, _⟩
              have G1 := Lib.hid (F1.out.upd u8 (by omega) (by omega)); have HB9 := Lib.hid (HB8.out.trans (u8.to (Nat.le_refl _) (by omega))); have HY := Lib.hid hy
              clear hy u8
              go_wp2_with fail
              refine (Next_ex (w.heap.size + 1) S (w.heap.size + 2) _ G1.out (by omega)).mono ?_
              rintro e w9 ⟨y', hy', rfl, u9, _⟩
              obtain rfl : y' = y := by rw [hy', HY.out]
              have HB10 := Lib.hid (HB9.out.trans (u9.to (by omega) (by omega)))
              clear hy' u9 HY
              go_wp2_with fail
              refine (known_any _).mono ?_
              rintro e w10 ⟨rfl, hb10⟩
              have hs10 := HB10.out.size
              have HB11 := HB10.out.trans (hb10.mono hs10)
              go_wp2_with fail
              go_ret
              exact ⟨rfl, HB11⟩
theorem AlgebraOrders_walk (s a k : Nat) (w : World) (hs : s < 18446744073709551616) (ha : a < 256) (hk : k < 256) :
    Calls Try.prog 8 #[.int .u64 s, .int .u8 a, .int .u8 k] w fun e w' => e = .returned (.bool true) ∧ Below w.heap.size w w' := Orders_try s a k w hs ha hk
end Go.Proofs.Ythmooplhhkafcaa
