/- How arguments that came in are opened: what each reads as. Conditions: none beyond those in each statement. -/
import Derived.Test.YtdgmjedkhjeadaaGreatRows
import Derived.Test.YtdgmjedkhjeadaaGreatBase
import Derived.ProofKit
import Derived.OpenShut
import Derived.ShutString
import Derived.ChangeOld
import Derived.Lib.SmallJoins
import Derived.Deep.Slices
namespace Go.Proofs.YtdgmjedkhjeadaaGreat
open Go.ChangeShapes Go.WideShapes Go.ChangeAt Go.RowKit
theorem wf_i64 {a : Int} (h : (Lit.int .i64 a).wf = true) : -9223372036854775808 ≤ a ∧ a ≤ 9223372036854775807 := by
  simpa [Lit.wf, IntKind.min, IntKind.max, IntKind.signed, IntKind.bits] using h
theorem spot_none {W : World} {a : Addr} {j : Nat} {v : Value} (h : W.cell? (a.add j) = some v) (hj : j = 0) : a.spot = none := by
  subst hj
  have : a.add 0 = a := by simp [Addr.add]
  rw [this] at h
  exact World.cell?_spot h
theorem add_spot {a : Addr} (h : a.spot = none) (j : Nat) : a.add j = ⟨a.block, a.off + j, none⟩ := by
  obtain ⟨b, o, s⟩ := a
  subst h
  exact addr_add b o j
theorem Rd.of_cells {W : World} {a : Addr} {n : Nat} {xs : List Value} (hl : xs.length = n) (h : ∀ i u, xs[i]? = some u → W.cell? (a.add i) = some u) : Rd W W.heap.size 1 (some a) n xs := by
  refine ⟨by omega, fun hn => ?_⟩
  obtain ⟨x, hx⟩ : ∃ x, xs[0]? = some x := ⟨xs[0], by simp⟩
  have h0 := h 0 x hx
  have hs := spot_none h0 rfl
  have hb : a.block < W.heap.size := by
    have : a.add 0 = a := by simp [Addr.add]
    rw [this] at h0
    exact World.block_lt_of_cell? W a h0
  refine ⟨a.block, a.off, by rw [← hs], hb, fun j u hu => ?_⟩
  rw [← add_spot hs]
  exact h j u hu

/-- A byte string that came in. -/
structure BytesArg where
  A : Option Addr
  n : Nat
  c : Nat
  l : List Nat
def IsBytes (w : World) (v : Value) (i : BytesArg) : Prop := v = .slice i.A i.n i.c ∧ i.n ≤ i.c ∧ i.c ≤ 9223372036854775807 ∧ i.l.length = i.n ∧ (∀ x ∈ i.l, x < 256) ∧ Rd w w.heap.size 1 i.A i.n (i.l.map fun x : Nat => Value.int .u8 x)
section
variable {H : Type} {enc : TypeId × Value → H} {W : World} {v : Value} {d : DataW H} {p : List MemPlace}
theorem wf_u8 {a : Int} (h : (Lit.int .u8 a).wf = true) : 0 ≤ a ∧ a ≤ 255 := by
  simpa [Lit.wf, IntKind.min, IntKind.max, IntKind.signed, IntKind.bits] using h
theorem open_bytes_cells {fuel : Nat} {cs : List Value} {x : DataW H × List MemPlace} (h : DataW.trod enc Tryz.prog W 0 (fun _ => true) true fuel 31 cs = some x) :
    ∃ i, cs = [.slice i.A i.n i.c] ∧ IsBytes W (.slice i.A i.n i.c) i := by
  rcases open_ints Tryz.underlying31 Tryz.underlying5 (by kernel_rfl) h with ⟨hc, _⟩ | ⟨a, len, cap, zs, hc, _, hl, hm, hz, _, hcell, hwz⟩
  · exact ⟨⟨none, 0, 0, []⟩, hc, rfl, Nat.le_refl _, by decide, rfl, by simp, Rd.nil _ _ _ _⟩
  · have hzl : zs.length = cap := by rw [hz, if_pos rfl]
    refine ⟨⟨some a, len, cap, (zs.take len).map Int.toNat⟩, hc, rfl, hl, by simp [maxLen] at hm; omega, by simp; omega, ?_, ?_⟩
    · intro y hy
      simp only [List.mem_map] at hy
      obtain ⟨z, hz, rfl⟩ := hy
      have := wf_u8 (hwz z (List.mem_of_mem_take hz))
      omega
    · refine Rd.of_cells (by simp; omega) fun i u hu => ?_
      simp only [List.map_map, List.getElem?_map, Option.map_eq_some_iff, Function.comp] at hu
      obtain ⟨z, hz, rfl⟩ := hu
      rw [List.getElem?_take] at hz
      split at hz
      · have hlt : i < zs.length := (List.getElem?_eq_some_iff.1 hz).1
        have h1 := hcell i hlt
        have h2 : zs.getD i 0 = z := by simp [List.getD, hz]
        have h3 := wf_u8 (hwz z (List.mem_of_getElem? hz))
        rw [h1, h2, toNat_cast_eq h3.1]
      · cases hz
end
end Go.Proofs.YtdgmjedkhjeadaaGreat
namespace Go.Proofs.YtdgmjedkhjeadaaGreat
open Go.ChangeShapes Go.WideShapes Go.ChangeAt Go.RowKit
/-- A list of integers that came in. -/
structure IntsArg where
  A : Option Addr
  n : Nat
  c : Nat
  l : List Int
def IsInts (w : World) (v : Value) (i : IntsArg) : Prop := v = .slice i.A i.n i.c ∧ i.n ≤ i.c ∧ i.c ≤ 9223372036854775807 ∧ i.l.length = i.n ∧ (∀ x ∈ i.l, -9223372036854775808 ≤ x ∧ x ≤ 9223372036854775807) ∧ Rd w w.heap.size 1 i.A i.n (i.l.map (Value.int .i64))
section
variable {H : Type} {enc : TypeId × Value → H} {W : World} {v : Value} {d : DataW H} {p : List MemPlace}
theorem open_ints_cells {fuel : Nat} {cs : List Value} {x : DataW H × List MemPlace} (h : DataW.trod enc Tryz.prog W 0 (fun _ => true) true fuel 32 cs = some x) :
    ∃ i, cs = [.slice i.A i.n i.c] ∧ IsInts W (.slice i.A i.n i.c) i := by
  rcases Go.ChangeShapes.open_ints Tryz.underlying32 Tryz.underlying3 (by kernel_rfl) h with ⟨hc, _⟩ | ⟨a, len, cap, zs, hc, _, hl, hm, hz, _, hcell, hwz⟩
  · exact ⟨⟨none, 0, 0, []⟩, hc, rfl, Nat.le_refl _, by decide, rfl, by simp, Rd.nil _ _ _ _⟩
  · have hzl : zs.length = cap := by rw [hz, if_pos rfl]
    refine ⟨⟨some a, len, cap, zs.take len⟩, hc, rfl, hl, by simp [maxLen] at hm; omega, by simp; omega, ?_, ?_⟩
    · intro y hy
      exact wf_i64 (hwz y (List.mem_of_mem_take hy))
    · refine Rd.of_cells (by simp; omega) fun i u hu => ?_
      simp only [List.getElem?_map, Option.map_eq_some_iff] at hu
      obtain ⟨z, hz, rfl⟩ := hu
      rw [List.getElem?_take] at hz
      split at hz
      · have hlt : i < zs.length := (List.getElem?_eq_some_iff.1 hz).1
        have h1 := hcell i hlt
        have h2 : zs.getD i 0 = z := by simp [List.getD, hz]
        rw [h1, h2]
      · cases hz
end
end Go.Proofs.YtdgmjedkhjeadaaGreat
