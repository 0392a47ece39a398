/- How arguments that came in are opened: what each reads as. Conditions: none beyond those in each statement. -/
import Derived.Test.YtdgmjedkhjeadaaRows
import Derived.Test.YtdgmjedkhjeadaaBase
import Derived.ProofKit
import Derived.OpenShut
import Derived.ShutString
import Derived.ChangeOld
import Derived.Lib.SmallJoins
import Derived.Deep.Slices
namespace Go.Proofs.Ytdgmjedkhjeadaa
open Go.ChangeShapes Go.WideShapes Go.ChangeAt Go.RowKit
theorem wf_i64 {a : Int} (h : (Lit.int .i64 a).wf = true) : -9223372036854775808 ≤ a ∧ a ≤ 9223372036854775807 := by
  simpa [Lit.wf, IntKind.min, IntKind.max, IntKind.signed, IntKind.bits] using h
theorem open_nat_u64 {a : Int} (h : (Lit.int .u64 a).wf = true) : ∃ n : Nat, a = (n : Int) ∧ n < 18446744073709551616 := by
  have : 0 ≤ a ∧ a ≤ 18446744073709551615 := by simpa [Lit.wf, IntKind.min, IntKind.max, IntKind.signed, IntKind.bits] using h
  exact ⟨a.toNat, by omega, by omega⟩
theorem open_nat_u16 {a : Int} (h : (Lit.int .u16 a).wf = true) : ∃ n : Nat, a = (n : Int) ∧ n < 65536 := by
  have : 0 ≤ a ∧ a ≤ 65535 := by simpa [Lit.wf, IntKind.min, IntKind.max, IntKind.signed, IntKind.bits] using h
  exact ⟨a.toNat, by omega, by omega⟩
theorem open_nat_u8 {a : Int} (h : (Lit.int .u8 a).wf = true) : ∃ n : Nat, a = (n : Int) ∧ n < 256 := by
  have : 0 ≤ a ∧ a ≤ 255 := by simpa [Lit.wf, IntKind.min, IntKind.max, IntKind.signed, IntKind.bits] using h
  exact ⟨a.toNat, by omega, by omega⟩
theorem spot_none {W : World} {a : Addr} {j : Nat} {v : Value} (h : W.cell? (a.add j) = some v) (hj : j = 0) : a.spot = none := by
  subst hj
  have : a.add 0 = a := by simp [Addr.add]
  rw [this] at h
  exact World.cell?_spot h
theorem add_spot {a : Addr} (h : a.spot = none) (j : Nat) : a.add j = ⟨a.block, a.off + j, none⟩ := by
  obtain ⟨b, o, s⟩ := a
  subst h
  exact addr_add b o j
theorem Rd.of_cells {W : World} {a : Addr} {n : Nat} {xs : List Value} (hl : xs.length = n) (h : ∀ i u, xs[i]? = some u → W.cell? (a.add i) = some u) : Rd W W.heap.size 1 (some a) n xs := by
  refine ⟨by omega, fun hn => ?_⟩
  obtain ⟨x, hx⟩ : ∃ x, xs[0]? = some x := ⟨xs[0], by simp⟩
  have h0 := h 0 x hx
  have hs := spot_none h0 rfl
  have hb : a.block < W.heap.size := by
    have : a.add 0 = a := by simp [Addr.add]
    rw [this] at h0
    exact World.block_lt_of_cell? W a h0
  refine ⟨a.block, a.off, by rw [← hs], hb, fun j u hu => ?_⟩
  rw [← add_spot hs]
  exact h j u hu

/-- A bit string that came in. -/
structure BitsArg where
  A : Option Addr
  n : Nat
  c : Nat
  bs : List Bool
def IsBits (w : World) (v : Value) (i : BitsArg) : Prop := v = .slice i.A i.n i.c ∧ i.n ≤ i.c ∧ i.c ≤ 9223372036854775807 ∧ i.bs.length = i.n ∧ Rd w w.heap.size 1 i.A i.n (i.bs.map Value.bool)
/-- A byte string that came in. -/
structure BytesArg where
  A : Option Addr
  n : Nat
  c : Nat
  l : List Nat
def IsBytes (w : World) (v : Value) (i : BytesArg) : Prop := v = .slice i.A i.n i.c ∧ i.n ≤ i.c ∧ i.c ≤ 9223372036854775807 ∧ i.l.length = i.n ∧ (∀ x ∈ i.l, x < 256) ∧ Rd w w.heap.size 1 i.A i.n (i.l.map fun x : Nat => Value.int .u8 x)
section
variable {H : Type} {enc : TypeId × Value → H} {W : World} {v : Value} {d : DataW H} {p : List MemPlace}
def bitAt (W : World) (a : Addr) : Bool := match W.cell? a with | some (.bool b) => b | _ => false
theorem open_bools_cells {fuel : Nat} {cs : List Value} {x : DataW H × List MemPlace} (h : DataW.trod enc Try.prog W 0 (fun _ => true) true fuel 33 cs = some x) :
    ∃ i, cs = [.slice i.A i.n i.c] ∧ IsBits W (.slice i.A i.n i.c) i := by
  rcases Deep.open_slice Try.underlying33 h with ⟨hc, _⟩ | ⟨a, len, cap, m, n, D, Pl, hc, _, hl, hm, hm2, _, hel⟩
  · exact ⟨⟨none, 0, 0, []⟩, hc, rfl, Nat.le_refl _, by decide, rfl, Rd.nil _ _ _ _⟩
  · refine ⟨⟨some a, len, cap, (List.range len).map fun i => bitAt W (a.add i)⟩, hc, rfl, hl, by simp [maxLen] at hm; omega, by simp, ?_⟩
    refine Rd.of_cells (by simp) fun i u hu => ?_
    simp only [List.map_map, List.getElem?_map, Option.map_eq_some_iff, Function.comp] at hu
    obtain ⟨j, hj, rfl⟩ := hu
    have hj' : j = i ∧ i < len := by
      obtain ⟨h1, h2⟩ := List.getElem?_eq_some_iff.1 hj
      simp at h1 h2
      omega
    obtain ⟨rfl, hlt⟩ := hj'
    have hml : j < m := by rw [hm2, if_pos rfl]; omega
    obtain ⟨cs', hcs', ht⟩ := hel j hml
    have c1 : Try.prog.cellsOf 4 = 1 := by kernel_rfl
    rw [c1, Nat.mul_one] at hcs'
    obtain ⟨b, rfl, _⟩ := DataW.trod_bool Try.underlying4 ht
    obtain ⟨_, _, hcell⟩ := World.cells?_some hcs'
    have h0 := hcell 0 (by omega)
    have e : (a.add j).add 0 = a.add j := by simp [Addr.add]
    rw [e] at h0
    have h0' : W.cell? (a.add j) = some (.bool b) := by simpa using h0
    rw [h0']
    simp [bitAt, h0']
set_option maxRecDepth 100000 in
theorem open_bools {base : Nat} (hv : Value.okWide Try.prog W .any base 33 v) (h : DataW.Trod enc Try.prog W 0 (fun _ => true) true 33 v d p) : ∃ i, IsBits W v i := by
  obtain ⟨a, n, c, rfl⟩ := okWide_slice Try.underlying33 hv
  obtain ⟨fuel, hf⟩ := h
  obtain ⟨i, hc, hi⟩ := open_bools_cells hf
  simp only [Value.cells] at hc
  exact ⟨i, by rw [show (Value.slice a n c) = .slice i.A i.n i.c by simpa using hc]; exact hi⟩
theorem wf_u8 {a : Int} (h : (Lit.int .u8 a).wf = true) : 0 ≤ a ∧ a ≤ 255 := by
  simpa [Lit.wf, IntKind.min, IntKind.max, IntKind.signed, IntKind.bits] using h
theorem open_bytes_cells {fuel : Nat} {cs : List Value} {x : DataW H × List MemPlace} (h : DataW.trod enc Try.prog W 0 (fun _ => true) true fuel 58 cs = some x) :
    ∃ i, cs = [.slice i.A i.n i.c] ∧ IsBytes W (.slice i.A i.n i.c) i := by
  rcases open_ints Try.underlying58 Try.underlying5 (by kernel_rfl) h with ⟨hc, _⟩ | ⟨a, len, cap, zs, hc, _, hl, hm, hz, _, hcell, hwz⟩
  · exact ⟨⟨none, 0, 0, []⟩, hc, rfl, Nat.le_refl _, by decide, rfl, by simp, Rd.nil _ _ _ _⟩
  · have hzl : zs.length = cap := by rw [hz, if_pos rfl]
    refine ⟨⟨some a, len, cap, (zs.take len).map Int.toNat⟩, hc, rfl, hl, by simp [maxLen] at hm; omega, by simp; omega, ?_, ?_⟩
    · intro y hy
      simp only [List.mem_map] at hy
      obtain ⟨z, hz, rfl⟩ := hy
      have := wf_u8 (hwz z (List.mem_of_mem_take hz))
      omega
    · refine Rd.of_cells (by simp; omega) fun i u hu => ?_
      simp only [List.map_map, List.getElem?_map, Option.map_eq_some_iff, Function.comp] at hu
      obtain ⟨z, hz, rfl⟩ := hu
      rw [List.getElem?_take] at hz
      split at hz
      · have hlt : i < zs.length := (List.getElem?_eq_some_iff.1 hz).1
        have h1 := hcell i hlt
        have h2 : zs.getD i 0 = z := by simp [List.getD, hz]
        have h3 := wf_u8 (hwz z (List.mem_of_getElem? hz))
        rw [h1, h2, toNat_cast_eq h3.1]
      · cases hz
set_option maxRecDepth 100000 in
theorem open_bytes {base : Nat} (hv : Value.okWide Try.prog W .any base 58 v) (h : DataW.Trod enc Try.prog W 0 (fun _ => true) true 58 v d p) : ∃ i, IsBytes W v i := by
  obtain ⟨a, n, c, rfl⟩ := okWide_slice Try.underlying58 hv
  obtain ⟨fuel, hf⟩ := h
  obtain ⟨i, hc, hi⟩ := open_bytes_cells hf
  simp only [Value.cells] at hc
  exact ⟨i, by rw [show (Value.slice a n c) = .slice i.A i.n i.c by simpa using hc]; exact hi⟩
end
end Go.Proofs.Ytdgmjedkhjeadaa
