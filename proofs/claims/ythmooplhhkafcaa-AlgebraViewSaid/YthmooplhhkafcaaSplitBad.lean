/- Split of the program, refused; and what its shares read as. Conditions: as each statement says. -/
import Derived.Test.YthmooplhhkafcaaShareV
import Derived.Test.YthmooplhhkafcaaSplitRef
namespace Go.Proofs.Ythmooplhhkafcaa
open Go.RowKit
set_option linter.unusedVariables false
/-- Why a call is refused. -/
def SplitNo (n m : Nat) (N K E : Int) : Prop :=
  (256 < n ∧ E = 4) ∨ (n ≤ 256 ∧ N < 1 ∧ E = 3) ∨ (n ≤ 256 ∧ 1 ≤ N ∧ 16 < N ∧ E = 3) ∨ (n ≤ 256 ∧ 1 ≤ N ∧ N ≤ 16 ∧ K < 1 ∧ E = 3) ∨ (n ≤ 256 ∧ 1 ≤ N ∧ N ≤ 16 ∧ 1 ≤ K ∧ N < K ∧ E = 3) ∨
  (n ≤ 256 ∧ 1 ≤ N ∧ N ≤ 16 ∧ 1 ≤ K ∧ K ≤ N ∧ ((m : Int) != (n : Int) * (K - 1)) = true ∧ E = 22)
theorem mul_small {n : Nat} {K N : Int} (hn : n ≤ 256) (h1 : 1 ≤ K) (h2 : K ≤ N) (h3 : N ≤ 16) : IntKind.i64.wrap ((n : Int) * (K - 1)) = (n : Int) * (K - 1) ∧ wrap64 ((n : Int) * (K - 1)) = (n : Int) * (K - 1) := by
  obtain ⟨q, hq⟩ := Int.eq_ofNat_of_zero_le (show 0 ≤ K - 1 by omega)
  have hq2 : q ≤ 15 := by omega
  have h : n * q ≤ 256 * 15 := Nat.mul_le_mul hn hq2
  rw [hq, show (n : Int) * (q : Int) = ((n * q : Nat) : Int) by simp]
  exact ⟨i64_small _ (by omega), IntWalk.wrap64_in _ ⟨by omega, by omega⟩⟩
theorem Split_no (A A' : Option Addr) (n c m c' : Nat) (N K E : Int) (w : World) (hE : SplitNo n m N K E) :
    Calls Try.prog 25 #[.slice A n c, .int .i64 N, .int .i64 K, .slice A' m c'] w fun e w' => e = .returned (.tuple #[.slice none 0 0, .int .i64 E]) ∧ w = w' := by
  rcases hE with ⟨g1, rfl⟩ | ⟨g1, g2, rfl⟩ | ⟨g1, g2, g3, rfl⟩ | ⟨g1, g2, g3, g4, rfl⟩ | ⟨g1, g2, g3, g4, g5, rfl⟩ | ⟨g1, g2, g3, g4, g5, g6, rfl⟩
  · have g1' : (256 : Int) < (n : Int) := by omega
    go_enter Try.func25, Try.ntmps25
    go_wp2
    go_ret2
    exact ⟨rfl, rfl⟩
  · have g1' : (n : Int) ≤ 256 := by omega
    go_enter Try.func25, Try.ntmps25
    go_wp2
    go_ret2
    exact ⟨rfl, rfl⟩
  · have g1' : (n : Int) ≤ 256 := by omega
    go_enter Try.func25, Try.ntmps25
    go_wp2
    go_ret2
    exact ⟨rfl, rfl⟩
  · have g1' : (n : Int) ≤ 256 := by omega
    go_enter Try.func25, Try.ntmps25
    go_wp2
    go_ret2
    exact ⟨rfl, rfl⟩
  · have g1' : (n : Int) ≤ 256 := by omega
    go_enter Try.func25, Try.ntmps25
    go_wp2
    go_ret2
    exact ⟨rfl, rfl⟩
  · have g1' : (n : Int) ≤ 256 := by omega
    obtain ⟨h1, h2⟩ := mul_small g1 g4 g5 g3
    rw [← h2] at g6
    clear h1 h2
    go_enter Try.func25, Try.ntmps25
    go_wp2
    go_ret2
    exact ⟨rfl, rfl⟩
/-- The program's shares as they lie in memory. -/
def progV (B n N q : Nat) (sec co : List Nat) : List ShareV := (List.range N).map fun t => ⟨t + 1, some ⟨B + 1 + t, 0, none⟩, n, n, shareY sec co q (t + 1) n⟩
theorem progV_len (B n N q : Nat) (sec co : List Nat) : (progV B n N q sec co).length = N := by simp [progV]
theorem progV_view (B n N q : Nat) (sec co : List Nat) : (progV B n N q sec co).map ShareV.view = sharesV sec co q n N := by
  unfold progV sharesV
  rw [List.map_map]
  rfl
theorem progV_get (B n N q : Nat) (sec co : List Nat) (t : Nat) (h : t < (progV B n N q sec co).length) : (progV B n N q sec co)[t] = ⟨t + 1, some ⟨B + 1 + t, 0, none⟩, n, n, shareY sec co q (t + 1) n⟩ := by simp [progV]
theorem SharesW.shr {w : World} {B n N q : Nat} {sec co : List Nat} (h : SharesW w B n N q sec co N) (hn : n ≤ 256) (hN : N ≤ 16) (hs : Bytes sec) (hc : Bytes co) : ShR w (B + 1 + N) (some ⟨B, 0, none⟩) N (progV B n N q sec co) := by
  obtain ⟨hsz, cs, hB, hcs, hat⟩ := h
  refine ⟨progV_len _ _ _ _ _ _, ⟨by rw [shCells_len, progV_len], fun _ => ⟨B, 0, rfl, by omega, fun j u hu => ?_⟩⟩, fun s hs' => ?_⟩
  · have hj : j < N * 2 := by
      have := (List.getElem?_eq_some_iff.1 hu).1
      rwa [shCells_len, progV_len] at this
    have hl : j / 2 < (progV B n N q sec co).length := by rw [progV_len]; omega
    rw [Nat.zero_add, cell_of_row _ _ _ _ _ _ hB]
    obtain ⟨h0, h1, _⟩ := hat (j / 2) (by omega)
    rcases Nat.mod_two_eq_zero_or_one j with hm | hm
    · have e : j = j / 2 * 2 := by omega
      rw [e] at hu ⊢
      rw [shCells_0 _ _ hl, progV_get] at hu
      rw [h0]; simpa using hu
    · have e : j = j / 2 * 2 + 1 := by omega
      rw [e] at hu ⊢
      rw [shCells_1 _ _ hl, progV_get] at hu
      rw [h1]; simpa using hu
  · obtain ⟨t, ht, rfl⟩ := List.getElem_of_mem hs'
    rw [progV_len] at ht
    rw [progV_get]
    obtain ⟨_, _, h2⟩ := hat t ht
    refine ⟨by simp only; omega, shareY_bytes hs hc, Nat.le_refl _, by simp only; omega, shareY_len _ _ _ _ _, by simp [u8s, shareY_len], fun _ => ⟨B + 1 + t, 0, rfl, by omega, fun j u hu => ?_⟩⟩
    rw [Nat.zero_add, cell_of_row _ _ _ _ _ _ h2]
    simpa using hu
/-- What stays of the shares while the first i of them are written. -/
structure Chg (B i : Nat) (w0 w : World) : Prop where
  size : w.heap.size = w0.heap.size
  bel : Below (B + 1) w0 w
  far : ∀ b, B + 1 + i ≤ b → w.heap[b]? = w0.heap[b]?
theorem Chg.refl (B i : Nat) (w : World) : Chg B i w w := ⟨rfl, Below.refl _ _, fun _ _ => rfl⟩
theorem Chg.mono {B i : Nat} {w0 w : World} (h : Chg B i w0 w) : Chg B (i + 1) w0 w := ⟨h.size, h.bel, fun b hb => h.far b (by omega)⟩
theorem Chg.set {B i : Nat} {w0 w : World} (h : Chg B (i + 1) w0 w) (j : Nat) (u : Value) : Chg B (i + 1) w0 (w.setCell ⟨B + 1 + i, j, none⟩ u) :=
  ⟨by simpa [World.setCell] using h.size, h.bel.setCell (by simp only; omega) _, fun b hb => (Below.heap_setCell _ _ _ _ (by simp only; omega)).trans (h.far b hb)⟩
theorem Chg.q {B i : Nat} {w0 w w' : World} (h : Chg B i w0 w) (hq : Qw w w') : Chg B i w0 w' := by
  obtain ⟨d, rfl⟩ := hq
  exact ⟨h.size, h.bel.trans ((Qw.refl w).drewN d |>.below _), h.far⟩
theorem bytes_set {l : List Nat} (h : Bytes l) (j : Nat) {x : Nat} (hx : x < 256) : Bytes (l.set j x) := fun y hy => by
  rcases List.mem_or_eq_of_mem_set hy with h1 | rfl
  · exact h y h1
  · exact hx
theorem row_set {w : World} {b : Nat} {ys : List Nat} {t : TypeId} (h : w.heap[b]? = some (.cells (u8s ys).toArray t (0, 0))) (j z : Nat) (u : Value) (hu : u = .int .u8 (z : Int)) :
    (w.setCell ⟨b, j, none⟩ u).heap[b]? = some (.cells (u8s (ys.set j z)).toArray t (0, 0)) := by
  subst hu
  simp only [World.setCell, Array.getElem?_modify, h, if_true, Option.map_some, Option.isSome_none, Bool.false_eq_true, if_false]
  congr 2
  apply Array.ext'
  simp [u8s, List.map_set]
theorem ShOwn.keepFrom {w w' : World} {base n : Nat} {v : Value} {l : List ShareV} (h : ShOwn w base v n l) (hk : ∀ b, base ≤ b → w'.heap[b]? = w.heap[b]?) : ShOwn w' base v n l := by
  have key : ∀ {t sz n : Nat} {v : Value} {xs : List Value}, w.ownsRow base t sz v n xs → w'.ownsRow base t sz v n xs := fun {t sz n v xs} h => by
    refine ⟨h.1, ?_⟩
    rcases h.2 with h1 | ⟨g, cap, cur, hv, hg, hh, rest⟩
    · exact .inl h1
    · exact .inr ⟨g, cap, cur, hv, hg, (hk g hg).trans hh, rest⟩
  exact ⟨h.1, key h.2.1, fun s hs => by obtain ⟨h1, h2, h3, h4, h5, h6⟩ := h.2.2 s hs; exact ⟨h1, h2, h3, h4, h5, fun h0 => key (h6 h0)⟩⟩
end Go.Proofs.Ythmooplhhkafcaa
