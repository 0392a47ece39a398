/- Maps in memory as partial functions, whatever their keys and elements. Conditions: as each statement says. -/
import Derived.Test.YtdgmjedkhjeadaaGreatProg
import Derived.Test.YtdgmjedkhjeadaaGreatBase
import Derived.DeepKeys4
import Derived.Maps.OwnSet
namespace Go.Proofs.YtdgmjedkhjeadaaGreat
open Go.RowKit
open Go.Maps (Keyed)
set_option linter.unusedVariables false
/-- Keys of a type, in the program. -/
structure KeyT (k : TypeId) (κ : Type) where
  kv : κ → Value
  ok : κ → Prop
  law : Keyed Tryz.prog k
  key : ∀ x, ok x → ∃ kl, keyOf Tryz.prog k (kv x) = some kl
  inj : ∀ x y, kv x = kv y → x = y
/-- Every element reads as itself. -/
def rawR (v : Value) : Option (DataW Value × List MemPlace) := some (.held v, [])
/-- Block b is a map of at most n entries that holds what f says. -/
def MapAt {k : TypeId} {κ : Type} (K : KeyT k κ) (w : World) (b n : Nat) (f : κ → Option Value) : Prop :=
  ∃ D : DataW Value, w.ownsMap Tryz.prog k rawR b n D ∧ Maps.IsMap D ∧ ∀ x, K.ok x → ∀ kl, keyOf Tryz.prog k (K.kv x) = some kl → Maps.has D kl = (f x).isSome ∧ ∀ z, D.atKey kl (.held z) = .held ((f x).getD z)
section
variable {k : TypeId} {κ : Type} {K : KeyT k κ} {w w' : World} {b n : Nat} {f : κ → Option Value}
theorem MapAt.made (K : KeyT k κ) (w : World) : MapAt K (w.alloc (.map #[] 0)) w.heap.size 0 (fun _ => none) :=
  ⟨.map [], World.ownsMap_made w _ _ _, ⟨[], rfl⟩, fun x hx kl hk => ⟨rfl, fun z => rfl⟩⟩
theorem MapAt.keep (h : MapAt K w b n f) (hk : w'.heap[b]? = w.heap[b]?) : MapAt K w' b n f := by
  obtain ⟨D, ⟨es, clock, hb, r⟩, hm, hq⟩ := h
  exact ⟨D, ⟨es, clock, hk.trans hb, r⟩, hm, hq⟩
theorem MapAt.lt (h : MapAt K w b n f) : b < w.heap.size := by
  obtain ⟨D, h, _⟩ := h; exact h.lt
theorem MapAt.below {B : Nat} (h : MapAt K w b n f) (hb : Below B w w') (hB : b < B) : MapAt K w' b n f := h.keep (hb.block b hB)
theorem MapAt.mono (h : MapAt K w b n f) {m : Nat} (hm : n ≤ m) : MapAt K w b m f := by
  obtain ⟨D, h1, h2⟩ := h; exact ⟨D, h1.mono hm, h2⟩
theorem MapAt.same {g : κ → Option Value} (h : MapAt K w b n f) (hg : ∀ x, K.ok x → f x = g x) : MapAt K w b n g := by
  obtain ⟨D, h1, h2, h3⟩ := h
  exact ⟨D, h1, h2, fun x hx kl hk => by rw [← hg x hx]; exact h3 x hx kl hk⟩
theorem MapAt.isMap (h : MapAt K w b n f) : ∃ es cl, w.heap[b]? = some (.map es cl) := by
  obtain ⟨D, ⟨es, cl, h, _⟩, _⟩ := h; exact ⟨es, cl, h⟩
theorem MapAt.look {t e : TypeId} (h : MapAt K w b n f) (ht : Tryz.prog.underlying t = some (.map k e)) {z : Value} (hz : ∀ w, (zeroValue e).run Tryz.prog w = .ok z w) {x : κ} (hx : K.ok x) :
    (Instr.lookup t (.map (some b)) (K.kv x) false).run Tryz.prog w = .ok ((f x).getD z) w := by
  obtain ⟨D, ho, hm, hD⟩ := h
  obtain ⟨kl, hkl⟩ := K.key x hx
  obtain ⟨v, ps, hrun, hv⟩ := ho.lookup K.law ht (hz w) (zd := .held z) (zp := []) rfl hkl
  rw [(hD x hx kl hkl).2 z] at hv
  simp only [rawR, Option.some.injEq, Prod.mk.injEq, DataW.held.injEq] at hv
  rw [hrun, hv.1]
theorem MapAt.look_ok {t e : TypeId} (h : MapAt K w b n f) (ht : Tryz.prog.underlying t = some (.map k e)) {z : Value} (hz : ∀ w, (zeroValue e).run Tryz.prog w = .ok z w) {x : κ} (hx : K.ok x) :
    (Instr.lookup t (.map (some b)) (K.kv x) true).run Tryz.prog w = .ok (.tuple #[(f x).getD z, .bool (f x).isSome]) w := by
  obtain ⟨D, ho, hm, hD⟩ := h
  obtain ⟨kl, hkl⟩ := K.key x hx
  obtain ⟨v, ps, hrun, hv⟩ := ho.look_ok K.law ht (hz w) (zd := .held z) (zp := []) rfl hkl
  rw [(hD x hx kl hkl).2 z] at hv
  simp only [rawR, Option.some.injEq, Prod.mk.injEq, DataW.held.injEq] at hv
  rw [(hD x hx kl hkl).1, hv.1] at hrun
  exact hrun
theorem MapAt.store [DecidableEq κ] {t e : TypeId} (h : MapAt K w b n f) (ht : Tryz.prog.underlying t = some (.map k e)) {x : κ} (hx : K.ok x) (v : Value) (hn : n < 1000000000) :
    ∃ w', (Instr.mapUpdate t (.map (some b)) (K.kv x) v).run Tryz.prog w = .ok () w' ∧ MapAt K w' b (n + 1) (fun y => if y = x then some v else f y) ∧ w.grownBy w' (some b) := by
  obtain ⟨D, ho, hm, hD⟩ := h
  obtain ⟨kl, hkl⟩ := K.key x hx
  obtain ⟨w', hrun, ho', hg⟩ := ho.update K.law ht (by unfold maxLen; omega) hkl (d := .held v) (ps := []) rfl
  refine ⟨w', hrun, ⟨_, ho', hm.put _ _, fun y hy ky hky => ?_⟩, hg⟩
  obtain ⟨h1, h2⟩ := hD y hy ky hky
  by_cases hxy : y = x
  · subst hxy
    obtain rfl : kl = ky := Option.some.inj (hkl.symm.trans hky)
    dsimp only
    rw [if_pos rfl, Maps.has_put_same hm (K.law.key hkl)]
    exact ⟨rfl, fun z => by rw [Maps.atKey_put_same hm (K.law.key hkl)]; rfl⟩
  · have hne : ky ≠ kl := fun e => hxy (K.inj y x (K.law.inj hky (e ▸ hkl)))
    dsimp only
    rw [if_neg hxy, Maps.has_put_other hne, h1]
    exact ⟨rfl, fun z => by rw [Maps.atKey_put_other hne]; exact h2 z⟩
end
end Go.Proofs.YtdgmjedkhjeadaaGreat
