/- slices.Grow and slices.Concat at holds. Conditions: as each statement says. -/
import Derived.Test.YtblilfbhohnbgaaGreatNet44
import Derived.Lib.AppendZeros
namespace Go.Proofs.YtblilfbhohnbgaaGreat
open Go.RowKit
set_option linter.unusedVariables false
theorem zeroCells_len (z : Array Value) (n : Nat) : (Builtin.zeroCells z n).size = n * z.size := by
  unfold Builtin.zeroCells
  simp
def RowP (n : Nat) (xs : List Value) (w : World) (e : Ending) (w' : World) : Prop := (∃ A c, e = .returned (.slice A n c) ∧ n ≤ c ∧ w'.ownsRow w.heap.size 79 4 (.slice A n c) n xs) ∧ Below w.heap.size w w'
set_option maxRecDepth 100000 in
set_option maxHeartbeats 1000000 in
theorem growH_any (n : Nat) (w : World) (hn : n ≤ 1000) : Calls Tryz.prog 91 #[.slice none 0 0, .int .i64 n] w (RowP 0 [] w) := by
  obtain ⟨i0, hi0, hz0, hz1, hz2⟩ := info_parts info_hold
  have HI0 := Lib.hid hi0; have HZ0 := Lib.hid hz0; have HZ1 := Lib.hid hz1; have HZ2 := Lib.hid hz2
  clear hi0 hz0 hz1 hz2
  rcases Nat.eq_zero_or_pos n with h0 | h0
  · subst h0
    go_enter Tryz.func91, Tryz.ntmps91
    go_wp2_with fail
    go_ret
    exact ⟨⟨none, 0, rfl, Nat.le_refl _, World.ownsRow_nil _ _ _ _⟩, Below.refl _ _⟩
  · have hni : 0 < (n : Int) := by omega
    have hr := fun ty => Lib.run_append_nil_zeros (P := Tryz.prog) w 53 3 ty 79 i0 _ .i64 _ Tryz.underlying53 Tryz.underlying3 HI0.out HZ0.out n h0 (by rw [HZ1.out]; decide) (by omega) (by rw [HZ2.out]; omega)
    have HRUN := Lib.hid hr
    obtain ⟨cp, hcp⟩ : ∃ cp, cp = grownCap w n 0 79 := ⟨_, rfl⟩
    have hge : n ≤ cp := by rw [hcp]; exact grownCap_ge _ _ _ _
    have hle : cp ≤ maxLen := by rw [hcp]; exact grownCap_le_maxLen _ _ _ _ (by unfold maxLen; omega)
    rw [← hcp] at HRUN
    have HLE := Lib.hid hle
    clear hr hcp hle
    have hgi : (0 : Int) ≤ (cp : Int) := by omega
    go_enter Tryz.func91, Tryz.ntmps91
    go_wp2_with (at_builtin; refine Lib.wpList_append_run _ rfl (.tmp 20) (.tmp 21) _ _ rfl _ _ rfl rfl _ _ (HRUN.out _) ?_)
    go_ret
    refine ⟨⟨_, cp, rfl, Nat.zero_le _, ⟨by simp, .inr ⟨w.heap.size, cp, _, rfl, Nat.le_refl _, heap_alloc_new w.drew _, Nat.zero_le _, HLE.out, ?_, by simp⟩⟩⟩, bnextK (Qw.below ⟨1, rfl⟩ _) (below_alloc _ _)⟩
    rw [Array.size_append, zeroCells_len, zeroCells_len]
    show n * 4 + (cp - n) * 4 = cp * 4
    omega
def accC (xs ys : List Value) : Nat → List Value
  | 0 => []
  | 1 => xs
  | _ => xs ++ ys
def lenC (a b : Nat) : Nat → Nat
  | 0 => 0
  | 1 => a
  | _ => a + b
set_option maxRecDepth 100000 in
set_option maxHeartbeats 2000000 in
theorem concatH_any (g : Nat) (A1 A2 : Option Addr) (n1 c1 n2 c2 : Nat) (xs ys : List Value) (w : World) (h1 : n1 ≤ 100) (h2 : n2 ≤ 100) (hr1 : Rd w w.heap.size 4 A1 n1 xs) (hr2 : Rd w w.heap.size 4 A2 n2 ys) (ho1 : ∀ u ∈ xs, u.oneCell' = true) (ho2 : ∀ u ∈ ys, u.oneCell' = true)
    (hg : Bk w g #[.slice A1 n1 c1, .slice A2 n2 c2] 53) :
    Calls Tryz.prog 71 #[.slice (some ⟨g, 0, none⟩) 2 2] w (RowP (n1 + n2) (xs ++ ys) w) := by
  have HR1 := Lib.hid hr1; have HR2 := Lib.hid hr2; have HO1 := Lib.hid ho1; have HO2 := Lib.hid ho2; have HG := Lib.hid hg
  have g0 := hg.cell 0; have g1 := hg.cell 1
  simp only [List.getElem?_toArray, List.getElem?_cons_succ, List.getElem?_cons_zero] at g0 g1
  clear hr1 hr2 ho1 ho2 hg
  go_enter Tryz.func71, Tryz.ntmps71
  go_wp2_with fail
  go_loopw [3, 5, 11] (fun z _ i wr => ∃ k : Nat, k ≤ 2 ∧ i = .int .i64 k ∧ z = .int .i64 (lenC n1 n2 k : Nat) ∧ w = wr) (fun _ _ i _ => 2 - (intOf i).toNat)
  case atStart => exact ⟨0, by omega, rfl, rfl, rfl⟩
  case round =>
    obtain ⟨k, hk, rfl, rfl, rfl⟩ := hrel
    match k, hk with
    | 0, _ =>
      dsimp only [lenC]
      go_wp2_with fail
      go_roundw
      case rel => exact ⟨1, by omega, by go_num, by simp [lenC], trivial⟩
      case measure => simp [intOf]
    | 1, _ =>
      dsimp only [lenC]
      go_wp2_with fail
      go_roundw
      case rel => exact ⟨2, by omega, by go_num, by simp [lenC], trivial⟩
      case measure => simp [intOf]
    | 2, _ =>
      rw [show lenC n1 n2 2 = n1 + n2 from rfl]
      have HGR := Lib.hid (growH_any (n1 + n2) w (by omega))
      have hcast : ((n1 + n2 : Nat) : Int) = (n1 : Int) + (n2 : Int) := by simp
      rw [hcast] at HGR ⊢
      clear hcast
      go_wp2_with fail
      refine HGR.out.mono ?_
      clear HGR
      rintro e w1 ⟨⟨gA, gc, rfl, hgc, hgo⟩, hb1⟩
      have hgl := HG.out.lt
      have HI0 : Hid (w1.ownsRow w.heap.size 79 4 (.slice gA 0 gc) (lenC n1 n2 0) (accC xs ys 0) ∧ Below w.heap.size w w1) := Lib.hid ⟨hgo, hb1⟩
      clear hgo hb1 g0 g1
      go_wp2_with fail
      go_loopw [6, 8, 27] (fun v _ i wr => ∃ k : Nat, k ≤ 2 ∧ i = .int .i64 k ∧ wr.ownsRow w.heap.size 79 4 v (lenC n1 n2 k) (accC xs ys k) ∧ Below w.heap.size w wr) (fun _ _ i _ => 2 - (intOf i).toNat)
      case atStart => exact ⟨0, by omega, rfl, HI0.out⟩
      case round =>
        obtain ⟨j, hj, rfl, ho, hb⟩ := hrel
        obtain ⟨wi, rfl⟩ : ∃ z : World, z = wr := ⟨_, rfl⟩
        have HO := Lib.hid ho; have HB := Lib.hid hb
        have hgk := HG.out.past hb hgl
        have g0 := hgk.cell 0; have g1 := hgk.cell 1
        have hsz := hb.size
        simp only [List.getElem?_toArray, List.getElem?_cons_succ, List.getElem?_cons_zero] at g0 g1
        obtain ⟨oA, oc, rfl, hoc⟩ := own_form ho
        clear ho hb hgk HI0
        match j, hj with
        | 0, _ =>
          dsimp only [lenC, accC] at HO ⊢
          go_wp2_with (at_builtin; refine wpList_put elB_hold (.tmp 31) (.tmp 32) rfl rfl w.heap.size 0 [] rfl HO.out rfl (HR1.out.below HB.out) HO1.out (by omega) (by decide) hsz ?_; intro v1 w2 hown2 hb2 hg2; have HO2' := Lib.hid hown2; have HB2 := Lib.hid (HB.out.trans hb2); clear hown2 hb2 hg2)
          go_roundw
          case rel => exact ⟨1, by omega, by go_num, by simpa [lenC, accC] using HO2'.out, HB2.out⟩
          case measure => simp [intOf]
        | 1, _ =>
          dsimp only [lenC, accC] at HO ⊢
          go_wp2_with (at_builtin; refine wpList_put elB_hold (.tmp 31) (.tmp 32) rfl rfl w.heap.size n1 xs rfl HO.out rfl (HR2.out.below HB.out) HO2.out (by omega) (by decide) hsz ?_; intro v1 w2 hown2 hb2 hg2; have HO2' := Lib.hid hown2; have HB2 := Lib.hid (HB.out.trans hb2); clear hown2 hb2 hg2)
          go_roundw
          case rel => exact ⟨2, by omega, by go_num, by first | exact HO2'.out, HB2.out⟩
          case measure => simp [intOf]
        | 2, _ =>
          rw [show lenC n1 n2 2 = n1 + n2 from rfl] at HO hoc ⊢
          rw [show accC xs ys 2 = xs ++ ys from rfl] at HO
          go_wp2_with fail
          go_ret
          exact ⟨⟨oA, oc, rfl, hoc, HO.out⟩, HB.out⟩
theorem take1_any (h : HoldM) (pv : Value) (hpv : ∃ A n c, pv = .slice A n c) (tid : Int) (p : Nat) (w : World) (hp : w.cell? ⟨p, 0, none⟩ = some (.int .i64 tid)) :
    Calls Tryz.prog 70 #[holdV h pv, .pointer (some ⟨p, 0, none⟩)] w fun e w' => e = .returned (.bool (decide (h.id = tid))) ∧ Below w.heap.size w w' := by
  obtain ⟨A, n, c, rfl⟩ := hpv
  have hlt := cell_lt hp
  have e0 : (h.id == tid) = decide (h.id = tid) := by by_cases e : h.id = tid <;> simp [e]
  unfold holdV
  go_enter Tryz.func70, Tryz.ntmps70
  go_wp2_with fail
  go_ret
  exact ⟨by rw [← e0]; rfl, below_alloc _ _⟩
def IdxH (l : List HoldM) (tid : Int) (w : World) (e : Ending) (w' : World) : Prop := (∃ r : Int, e = .returned (.int .i64 r) ∧ ((r = -1 ∧ ∀ x ∈ l, x.id ≠ tid) ∨ ∃ i : Nat, r = (i : Int) ∧ i < l.length ∧ ∃ x, l[i]? = some x ∧ x.id = tid)) ∧ Below w.heap.size w w'
set_option maxRecDepth 100000 in
set_option maxHeartbeats 2000000 in
theorem indexH_any (v : Value) (l : List HoldM) (tid : Int) (p : Nat) (w : World) (hl : HoldsAt w v l) (hn : l.length ≤ 64) (hp : w.cell? ⟨p, 0, none⟩ = some (.int .i64 tid)) :
    Calls Tryz.prog 69 #[v, .func (.func 70) #[] #[.pointer (some ⟨p, 0, none⟩)]] w (IdxH l tid w) := by
  have H := Lib.hid hl
  have HP := Lib.hid hp
  have hlt := cell_lt hp
  obtain ⟨A, c, rfl, _⟩ := hl.form
  have hen : ∀ (v : Value) (W : World), (callFunc 70 #[v, .pointer (some ⟨p, 0, none⟩)]).run Tryz.prog W = .ok (.enter 70 #[v, .pointer (some ⟨p, 0, none⟩)]) W := fun v W => enters_of Tryz.func70 (by kernel_rfl) rfl _ W
  obtain ⟨ln, hln⟩ : ∃ ln, ln = l.length := ⟨_, rfl⟩
  have HLN := Lib.hid hln
  rw [← hln] at hn ⊢
  clear hl hp hln
  go_enter Tryz.func69, Tryz.ntmps69
  go_wp2_with fail
  go_loopw [5, 8] (fun _ i wr => ∃ k : Nat, k ≤ ln ∧ i = .int .i64 k ∧ Below w.heap.size w wr ∧ ∀ j x, j < k → l[j]? = some x → x.id ≠ tid) (fun _ i _ => ln - (intOf i).toNat)
  case atStart => exact ⟨0, Nat.zero_le _, rfl, Below.refl _ _, fun j x hj => absurd hj (Nat.not_lt_zero _)⟩
  case round =>
    obtain ⟨k, hk, rfl, hb, hne⟩ := hrel
    obtain ⟨wi, rfl⟩ : ∃ z : World, z = wr := ⟨_, rfl⟩
    have HNE := Lib.hid hne; have HB := Lib.hid hb
    clear hne hb
    by_cases hkl : k < ln
    · have hki : (k : Int) < (ln : Int) := by omega
      obtain ⟨x, hx⟩ : ∃ x, l[k]? = some x := ⟨_, List.getElem?_eq_getElem (by rw [← HLN.out]; exact hkl)⟩
      have hat := H.out.ck (T := fun _ => True) (CK.of_below HB.out) trivial trivial
      obtain ⟨g, c', pv, he, _, c0, c1, c2, c3, hrow⟩ := hat.at hx
      injection he with he1 he2 he3
      subst he1
      obtain ⟨pb, pc, pcs, rfl, _⟩ := id hrow
      have HC := Lib.hid (take1_any x (.slice (some ⟨pb, 0, none⟩) x.path.length pc) ⟨_, _, _, rfl⟩ tid p wi ((HB.out.cell (p := ⟨p, 0, none⟩) hlt).trans HP.out))
      have hen6 := hen (holdV x (.slice (some ⟨pb, 0, none⟩) x.path.length pc)) wi
      have HX := Lib.hid hx
      unfold holdV at HC hen6
      obtain ⟨b, hb⟩ : ∃ b, b = decide (x.id = tid) := ⟨_, rfl⟩
      have HBE := Lib.hid hb
      rw [← hb] at HC
      clear hen he2 he3 hat hrow hx hb
      generalize x.path.length = pl at *
      go_wp2_with fail
      refine HC.out.mono ?_
      clear HC hen6
      rintro e w3 ⟨rfl, hb3⟩
      have HB3 := Lib.hid (bnextK HB.out hb3)
      clear hb3 c0 c1 c2 c3
      cases b with
      | true =>
        have hid : x.id = tid := by simpa using HBE.out.symm
        have HID := Lib.hid hid
        clear hid
        go_wp2_with fail
        go_ret
        exact ⟨⟨_, rfl, .inr ⟨k, rfl, by rw [← HLN.out]; exact hkl, x, HX.out, HID.out⟩⟩, HB3.out⟩
      | false =>
        have hid : x.id ≠ tid := by simpa using HBE.out.symm
        have HN : Hid (∀ j y, j < k + 1 → l[j]? = some y → y.id ≠ tid) := Lib.hid fun j y hj hy => by
          rcases Nat.lt_or_ge j k with h2 | h2
          · exact HNE.out j y h2 hy
          · obtain rfl : j = k := by omega
            rw [HX.out] at hy
            injection hy with hy
            subst hy
            exact hid
        clear hid
        go_wp2_with fail
        go_roundw
        case rel => exact ⟨k + 1, by omega, by go_num, HB3.out, HN.out⟩
        case measure => simp [intOf]; omega
    · have hki : ¬ (k : Int) < (ln : Int) := by omega
      obtain rfl : k = ln := by omega
      clear hen
      go_wp2_with fail
      go_ret
      exact ⟨⟨_, rfl, .inl ⟨rfl, fun x hx => by
        obtain ⟨j, hj, rfl⟩ := List.getElem_of_mem hx
        exact HNE.out j _ (by rw [HLN.out]; exact hj) (List.getElem?_eq_getElem hj)⟩⟩, HB.out⟩
end Go.Proofs.YtblilfbhohnbgaaGreat
