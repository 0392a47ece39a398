/- The contract of padded. Conditions: as the statement says. -/
import Derived.Test.YtdgmjedkhjeadaaGreatPack
import Derived.Test.YtdgmjedkhjeadaaGreatToepWalk
import Derived.Test.YtdgmjedkhjeadaaGreatKeepL
namespace Go.Proofs.YtdgmjedkhjeadaaGreat
open Go.RowKit
set_option linter.unusedVariables false
/-- What Unpack answers. -/
def UnpB (p : List Nat) (n : Nat) (w : World) (e : Ending) (w' : World) : Prop :=
  (∃ bs A c, unpB p n = some bs ∧ bs.length = n ∧ e = .returned (.tuple #[.slice A n c, .int .i64 0]) ∧ w'.ownsRow w.heap.size 4 1 (.slice A n c) n (bs.map Value.bool) ∧ Below w.heap.size w w') ∨
  (unpB p n = none ∧ (∃ z : Int, z ≠ 0 ∧ e = .returned (.tuple #[.slice none 0 0, .int .i64 z])) ∧ Below w.heap.size w w')
theorem UnpB_any (A : Option Addr) (m c n : Nat) (p : List Nat) (w : World) (hm : m ≤ 1000) (hn : n ≤ 1000) (hp : ∀ x ∈ p, x < 256) (h : Rd w w.heap.size 1 A m (p.map fun x : Nat => Value.int .u8 x)) :
    Calls Tryz.prog 130 #[.slice A m c, .int .i64 (n : Int)] w (UnpB p n w) := by
  have hl : p.length = m := by have := h.1; simpa using this
  by_cases h1 : (n + 7) / 8 = m
  · refine (Unpack_any A m c n p w (by omega) (by omega) h1 hp h).mono ?_
    rintro e w' (⟨h2, h3⟩ | ⟨h2, rfl, h3⟩)
    · obtain ⟨A', c', h4, _, h5, h6⟩ := h3
      refine .inl ⟨unL p n, A', c', by unfold unpB; rw [hl, if_pos ⟨h1, h2⟩], by simp [unL], h4, h5, h6⟩
    · exact .inr ⟨by unfold unpB; rw [hl, if_neg (by rw [h2]; simp)], ⟨6, by omega, rfl⟩, h3⟩
  · refine (Unpack_range A m c (n : Int) w (by omega) (by omega) (.inr (.inr (by omega)))).mono ?_
    rintro e w' ⟨rfl, rfl⟩
    exact .inr ⟨by unfold unpB; rw [hl, if_neg (fun h => h1 h.1)], ⟨3, by omega, rfl⟩, Below.refl _ _⟩
set_option maxRecDepth 100000 in
theorem padded_any (A : Option Addr) (m c n : Nat) (p : List Nat) (w : World) (hm : m ≤ 1000) (hn : n ≤ 1000) (hp : ∀ x ∈ p, x < 256) (h : Rd w w.heap.size 1 A m (p.map fun x : Nat => Value.int .u8 x)) :
    Calls Tryz.prog 113 #[.slice A m c, .int .i64 (n : Int)] w fun e w' => e = .returned (.bool (unpB p n).isSome) ∧ Below w.heap.size w w' := by
  have HU := Lib.hid (UnpB_any A m c n p w hm hn hp h)
  clear h
  go_enter Tryz.func113, Tryz.ntmps113
  go_wp2_with fail
  refine HU.out.mono ?_
  rintro e w' (⟨bs, A', c', h1, _, rfl, _, hb⟩ | ⟨h1, ⟨z, hz, rfl⟩, hb⟩)
  · have HB := Lib.hid hb; have H1 := Lib.hid h1
    clear hb h1
    go_wp2_with fail
    go_ret
    exact ⟨by rw [H1.out]; rfl, HB.out⟩
  · have HB := Lib.hid hb; have H1 := Lib.hid h1
    have hz1 : (z == 0) = false := by simpa using hz
    clear hb h1
    go_wp2_with fail
    go_ret
    exact ⟨by rw [H1.out]; rfl, HB.out⟩
end Go.Proofs.YtdgmjedkhjeadaaGreat
