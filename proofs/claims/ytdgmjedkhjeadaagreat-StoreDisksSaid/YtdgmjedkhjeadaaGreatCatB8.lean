/- slices.Grow and slices.Concat at rows of bytes. Conditions: as each statement says. -/
import Derived.Test.YtdgmjedkhjeadaaGreatKeepL
import Derived.Lib.AppendZeros
namespace Go.Proofs.YtdgmjedkhjeadaaGreat
open Go.RowKit
set_option linter.unusedVariables false
set_option linter.unusedSimpArgs false
theorem elB8 : ElemB Tryz.prog 31 5 1 1 := ElemB.of Tryz.underlying31 infoB8 rfl (by decide)
theorem balloc8 (w : World) (o : Obj) : Below w.heap.size w (w.alloc o) := (Below.refl _ _).alloc (Nat.le_refl _) _
theorem zeroCells_len8 (z : Array Value) (n : Nat) : (Builtin.zeroCells z n).size = n * z.size := by
  unfold Builtin.zeroCells
  simp
def RowB8 (n : Nat) (xs : List Value) (w : World) (e : Ending) (w' : World) : Prop := (∃ A c, e = .returned (.slice A n c) ∧ n ≤ c ∧ w'.ownsRow w.heap.size 5 1 (.slice A n c) n xs) ∧ Below w.heap.size w w'
set_option maxRecDepth 100000 in
set_option maxHeartbeats 1000000 in
theorem growB8_any (n : Nat) (w : World) (hn : n ≤ 1000) : Calls Tryz.prog 137 #[.slice none 0 0, .int .i64 n] w (RowB8 0 [] w) := by
  obtain ⟨i0, hi0, hz0, hz1, hz2⟩ := info_parts infoB8
  have HI0 := Lib.hid hi0; have HZ0 := Lib.hid hz0; have HZ1 := Lib.hid hz1; have HZ2 := Lib.hid hz2
  clear hi0 hz0 hz1 hz2
  rcases Nat.eq_zero_or_pos n with h0 | h0
  · subst h0
    go_enter Tryz.func137, Tryz.ntmps137
    go_wp2_with fail
    go_ret
    exact ⟨⟨none, 0, rfl, Nat.le_refl _, World.ownsRow_nil _ _ _ _⟩, Below.refl _ _⟩
  · have hni : 0 < (n : Int) := by omega
    have hr := fun ty => Lib.run_append_nil_zeros (P := Tryz.prog) w 31 3 ty 5 i0 _ .i64 _ Tryz.underlying31 Tryz.underlying3 HI0.out HZ0.out n h0 (by rw [HZ1.out]; decide) (by omega) (by rw [HZ2.out]; omega)
    have HRUN := Lib.hid hr
    obtain ⟨cp, hcp⟩ : ∃ cp, cp = grownCap w n 0 5 := ⟨_, rfl⟩
    have hge : n ≤ cp := by rw [hcp]; exact grownCap_ge _ _ _ _
    have hle : cp ≤ maxLen := by rw [hcp]; exact grownCap_le_maxLen _ _ _ _ (by unfold maxLen; omega)
    rw [← hcp] at HRUN
    have HLE := Lib.hid hle
    clear hr hcp hle
    have hgi : (0 : Int) ≤ (cp : Int) := by omega
    go_enter Tryz.func137, Tryz.ntmps137
    go_wp2_with (at_builtin; refine Lib.wpList_append_run _ rfl (.tmp 20) (.tmp 21) _ _ rfl _ _ rfl rfl _ _ (HRUN.out _) ?_)
    go_ret
    refine ⟨⟨_, cp, rfl, Nat.zero_le _, ⟨by simp, .inr ⟨w.heap.size, cp, _, rfl, Nat.le_refl _, heap_alloc_new w.drew _, Nat.zero_le _, HLE.out, ?_, by simp⟩⟩⟩, bnextK (Qw.below ⟨1, rfl⟩ _) (balloc8 _ _)⟩
    rw [Array.size_append, zeroCells_len8, zeroCells_len8]
    show n * 1 + (cp - n) * 1 = cp * 1
    omega
def accB8 (xs ys : List Value) : Nat → List Value
  | 0 => []
  | 1 => xs
  | _ => xs ++ ys
def lenB8 (a b : Nat) : Nat → Nat
  | 0 => 0
  | 1 => a
  | _ => a + b
set_option maxRecDepth 100000 in
set_option maxHeartbeats 2000000 in
theorem concatB8_any (g : Nat) (A1 A2 : Option Addr) (n1 c1 n2 c2 : Nat) (xs ys : List Value) (w : World) (h1 : n1 ≤ 100) (h2 : n2 ≤ 100) (hr1 : Rd w w.heap.size 1 A1 n1 xs) (hr2 : Rd w w.heap.size 1 A2 n2 ys) (ho1 : ∀ u ∈ xs, u.oneCell' = true) (ho2 : ∀ u ∈ ys, u.oneCell' = true)
    (hg : Bk w g #[.slice A1 n1 c1, .slice A2 n2 c2] 31) :
    Calls Tryz.prog 128 #[.slice (some ⟨g, 0, none⟩) 2 2] w (RowB8 (n1 + n2) (xs ++ ys) w) := by
  have HR1 := Lib.hid hr1; have HR2 := Lib.hid hr2; have HO1 := Lib.hid ho1; have HO2 := Lib.hid ho2; have HG := Lib.hid hg
  have g0 := hg.cell 0; have g1 := hg.cell 1
  simp only [List.getElem?_toArray, List.getElem?_cons_succ, List.getElem?_cons_zero] at g0 g1
  clear hr1 hr2 ho1 ho2 hg
  go_enter Tryz.func128, Tryz.ntmps128
  go_wp2_with fail
  go_loopw [3, 5, 11] (fun z _ i wr => ∃ k : Nat, k ≤ 2 ∧ i = .int .i64 k ∧ z = .int .i64 (lenB8 n1 n2 k : Nat) ∧ w = wr) (fun _ _ i _ => 2 - (intOf i).toNat)
  case atStart => exact ⟨0, by omega, rfl, rfl, rfl⟩
  case round =>
    obtain ⟨k, hk, rfl, rfl, rfl⟩ := hrel
    match k, hk with
    | 0, _ =>
      dsimp only [lenB8]
      go_wp2_with fail
      go_roundw
      case rel => exact ⟨1, by omega, by go_num, by simp [lenB8], trivial⟩
      case measure => simp [intOf]
    | 1, _ =>
      dsimp only [lenB8]
      go_wp2_with fail
      go_roundw
      case rel => exact ⟨2, by omega, by go_num, by simp [lenB8], trivial⟩
      case measure => simp [intOf]
    | 2, _ =>
      rw [show lenB8 n1 n2 2 = n1 + n2 from rfl]
      have HGR := Lib.hid (growB8_any (n1 + n2) w (by omega))
      have hcast : ((n1 + n2 : Nat) : Int) = (n1 : Int) + (n2 : Int) := by simp
      rw [hcast] at HGR ⊢
      clear hcast
      go_wp2_with fail
      refine HGR.out.mono ?_
      clear HGR
      rintro e w1 ⟨⟨gA, gc, rfl, hgc, hgo⟩, hb1⟩
      have hgl := HG.out.lt
      have HI0 : Hid (w1.ownsRow w.heap.size 5 1 (.slice gA 0 gc) (lenB8 n1 n2 0) (accB8 xs ys 0) ∧ Below w.heap.size w w1) := Lib.hid ⟨hgo, hb1⟩
      clear hgo hb1 g0 g1
      go_wp2_with fail
      go_loopw [6, 8, 27] (fun v _ i wr => ∃ k : Nat, k ≤ 2 ∧ i = .int .i64 k ∧ wr.ownsRow w.heap.size 5 1 v (lenB8 n1 n2 k) (accB8 xs ys k) ∧ Below w.heap.size w wr) (fun _ _ i _ => 2 - (intOf i).toNat)
      case atStart => exact ⟨0, by omega, rfl, HI0.out⟩
      case round =>
        obtain ⟨j, hj, rfl, ho, hb⟩ := hrel
        obtain ⟨wi, rfl⟩ : ∃ z : World, z = wr := ⟨_, rfl⟩
        have HO := Lib.hid ho; have HB := Lib.hid hb
        have hgk := HG.out.past hb hgl
        have g0 := hgk.cell 0; have g1 := hgk.cell 1
        have hsz := hb.size
        simp only [List.getElem?_toArray, List.getElem?_cons_succ, List.getElem?_cons_zero] at g0 g1
        obtain ⟨oA, oc, rfl, hoc⟩ := own_form ho
        clear ho hb hgk HI0
        match j, hj with
        | 0, _ =>
          dsimp only [lenB8, accB8] at HO ⊢
          go_wp2_with (at_builtin; refine wpList_put elB8 (.tmp 31) (.tmp 32) rfl rfl w.heap.size 0 [] rfl HO.out rfl (HR1.out.below HB.out) HO1.out (by omega) (by decide) hsz ?_; intro v1 w2 hown2 hb2 hg2; have HO2' := Lib.hid hown2; have HB2 := Lib.hid (HB.out.trans hb2); clear hown2 hb2 hg2)
          go_roundw
          case rel => exact ⟨1, by omega, by go_num, by simpa [lenB8, accB8] using HO2'.out, HB2.out⟩
          case measure => simp [intOf]
        | 1, _ =>
          dsimp only [lenB8, accB8] at HO ⊢
          go_wp2_with (at_builtin; refine wpList_put elB8 (.tmp 31) (.tmp 32) rfl rfl w.heap.size n1 xs rfl HO.out rfl (HR2.out.below HB.out) HO2.out (by omega) (by decide) hsz ?_; intro v1 w2 hown2 hb2 hg2; have HO2' := Lib.hid hown2; have HB2 := Lib.hid (HB.out.trans hb2); clear hown2 hb2 hg2)
          go_roundw
          case rel => exact ⟨2, by omega, by go_num, by first | exact HO2'.out, HB2.out⟩
          case measure => simp [intOf]
        | 2, _ =>
          rw [show lenB8 n1 n2 2 = n1 + n2 from rfl] at HO hoc ⊢
          rw [show accB8 xs ys 2 = xs ++ ys from rfl] at HO
          go_wp2_with fail
          go_ret
          exact ⟨⟨oA, oc, rfl, hoc, HO.out⟩, HB.out⟩
end Go.Proofs.YtdgmjedkhjeadaaGreat
