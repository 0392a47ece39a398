/- Explain of the program and of the reference in one form; the shares that the coins give. Conditions: as each statement says. -/
import Derived.Test.YthmooplhhkafcaaExplRef
import Derived.Test.YthmooplhhkafcaaJoinAll
import Derived.Test.YthmooplhhkafcaaSplitBad
namespace Go.Proofs.Ythmooplhhkafcaa
open Go.RowKit
set_option linter.unusedVariables false
theorem ptsX_canon (l : List ShareV) (b j : Nat) : ptsX (l.map canon) b j = ptsX l b j := by unfold ptsX; rw [List.length_map, ptsJ_canon]
theorem coinB_canon (l : List ShareV) (b j q : Nat) : coinB (l.map canon) b j q = coinB l b j q := by unfold coinB polyX; rw [ptsX_canon, List.length_map]
theorem coinsX_canon (l : List ShareV) (sec : List Nat) (q : Nat) : ∀ m, coinsX (l.map canon) sec q m = coinsX l sec q m
  | 0 => rfl
  | m + 1 => by rw [coinsX, coinsX, coinsX_canon l sec q m, coinB_canon]
theorem explE_canon (l : List ShareV) (k : Int) (n : Nat) (h : ShLen l) : explE (l.map canon) k n = explE l k n := by unfold explE; rw [chkE_canon n l [] h, List.length_map]
theorem explS_canon (l : List ShareV) (k : Int) (sec : List Nat) (h : ShLen l) : explS (l.map canon) k sec = explS l k sec := by unfold explS; rw [explE_canon l k _ h, coinsX_canon]
theorem expl_view {l m : List ShareV} (hl : ShLen l) (hm : ShLen m) (h : l.map ShareV.view = m.map ShareV.view) (k : Int) (sec : List Nat) : explE l k sec.length = explE m k sec.length ∧ explS l k sec = explS m k sec := by
  rw [← explE_canon l k _ hl, ← explE_canon m k _ hm, ← explS_canon l k sec hl, ← explS_canon m k sec hm, canon_view h]
  exact ⟨rfl, rfl⟩
theorem expl_main {A A' : Option Addr} {n c m c' : Nat} {k : Int} {l : List ShareV} {sec : List Nat} {w : World} {f : FuncId} (hl : ShR w w.heap.size A n l) (hs : Bytes sec) (hrd : Rd w w.heap.size 1 A' m (u8s sec)) (hn : n ≤ 1000000)
    (h4 : 256 < m → Calls Try.prog f #[.slice A n c, .int .i64 k, .slice A' m c'] w (RetES w 4 []))
    (h3 : m ≤ 256 → (k < 1 ∨ 16 < k) → Calls Try.prog f #[.slice A n c, .int .i64 k, .slice A' m c'] w (RetES w 3 []))
    (h5 : ∀ q : Nat, m ≤ 256 → q ≤ 15 → q < n → Calls Try.prog f #[.slice A n c, .int .i64 ((q : Int) + 1), .slice A' m c'] w (RetES w 5 []))
    (hchk : ∀ q : Nat, m ≤ 256 → q ≤ 15 → n ≤ q → chkE m [] l ≠ 0 → Calls Try.prog f #[.slice A n c, .int .i64 ((q : Int) + 1), .slice A' m c'] w (RetES w (chkE m [] l) []))
    (hok : ∀ q : Nat, m ≤ 256 → q ≤ 15 → n ≤ q → chkE m [] l = 0 → Calls Try.prog f #[.slice A n c, .int .i64 ((q : Int) + 1), .slice A' m c'] w (RetES w 0 (coinsX l sec q m))) :
    Calls Try.prog f #[.slice A n c, .int .i64 k, .slice A' m c'] w (RetES w (explE l k sec.length) (explS l k sec)) := by
  have hsl : sec.length = m := by have := hrd.1; simpa [u8s] using this
  rw [hsl]
  have hS : explS l k sec = if explE l k m = 0 then coinsX l sec (k - 1).toNat m else [] := by unfold explS; rw [hsl]
  by_cases g4 : 256 < m
  · have e : explE l k m = 4 := by unfold explE; rw [if_pos g4]
    rw [hS, e, if_neg (by decide)]; exact h4 g4
  · by_cases g3 : k < 1 ∨ 16 < k
    · have e : explE l k m = 3 := by unfold explE; rw [if_neg g4, if_pos g3]
      rw [hS, e, if_neg (by decide)]; exact h3 (by omega) g3
    · obtain ⟨q, hq⟩ := Int.eq_ofNat_of_zero_le (show 0 ≤ k - 1 by omega)
      obtain rfl : k = (q : Int) + 1 := by omega
      by_cases g5 : q < n
      · have e : explE l ((q : Int) + 1) m = 5 := by unfold explE; rw [if_neg g4, if_neg g3, if_pos (by rw [hl.1]; omega)]
        rw [hS, e, if_neg (by decide)]; exact h5 q (by omega) (by omega) g5
      · have e : explE l ((q : Int) + 1) m = chkE m [] l := by unfold explE; rw [if_neg g4, if_neg g3, if_neg (by rw [hl.1]; omega)]
        rw [hS, e]
        by_cases g6 : chkE m [] l = 0
        · rw [g6, if_pos rfl, show ((q : Int) + 1 - 1).toNat = q by omega]
          exact hok q (by omega) (by omega) (by omega) g6
        · rw [if_neg g6]; exact hchk q (by omega) (by omega) (by omega) g6
theorem Expl_any (A A' : Option Addr) (n c m c' : Nat) (k : Int) (l : List ShareV) (sec : List Nat) (w : World) (hn : n ≤ 1000000) (hl : ShR w w.heap.size A n l) (hs : Bytes sec) (hrd : Rd w w.heap.size 1 A' m (u8s sec)) :
    Calls Try.prog 22 #[.slice A n c, .int .i64 k, .slice A' m c'] w (RetES w (explE l k sec.length) (explS l k sec)) :=
  expl_main hl hs hrd hn (fun h => Expl_4 A A' n c m c' k w h) (fun h1 h2 => Expl_3 A A' n c m c' k w h1 h2) (fun q h1 h2 h3 => Expl_5 A A' n c m c' q w h1 h2 h3) (fun q h1 h2 h3 h4 => Expl_chk A A' n c m c' q l w h1 h2 h3 hl h4) (fun q h1 h2 h3 h4 => Expl_ok A A' n c m c' q l sec w h1 h2 h3 hl hs hrd h4)
theorem refExpl_any (A A' : Option Addr) (n c m c' : Nat) (k : Int) (l : List ShareV) (sec : List Nat) (w : World) (hn : n ≤ 1000000) (hl : ShR w w.heap.size A n l) (hs : Bytes sec) (hrd : Rd w w.heap.size 1 A' m (u8s sec)) :
    Calls Try.prog 23 #[.slice A n c, .int .i64 k, .slice A' m c'] w (RetES w (explE l k sec.length) (explS l k sec)) :=
  expl_main hl hs hrd hn (fun h => refExpl_4 A A' n c m c' k w h) (fun h1 h2 => refExpl_3 A A' n c m c' k w h1 h2) (fun q h1 h2 h3 => refExpl_5 A A' n c m c' q w h1 h2 h3) (fun q h1 h2 h3 h4 => refExpl_chk A A' n c m c' q l w h1 h2 h3 hl h4) (fun q h1 h2 h3 h4 => refExpl_ok A A' n c m c' q l sec w h1 h2 h3 hl hs hrd h4)
/-- The coins of byte j. -/
theorem coinsX_at {len : Nat} {l : List ShareV} (g : ShGood len l) (hb : ShBytes l) {sec : List Nat} (hs : Bytes sec) {q : Nat} (hq : l.length ≤ q) (j : Nat) : ∀ m, j < m → ((coinsX l sec q m).drop (j * q)).take q = coinB l (sec.getD j 0) j q
  | 0, h => absurd h (by omega)
  | m + 1, h => by
    have hl := coinsX_len g hb hs hq m
    rw [coinsX]
    rcases Nat.lt_or_ge j m with h1 | h1
    · have h2 : (j + 1) * q ≤ m * q := Nat.mul_le_mul_right _ h1
      rw [Nat.add_mul, Nat.one_mul] at h2
      rw [List.drop_append_of_le_length (by omega), List.take_append_of_le_length (by rw [List.length_drop]; omega)]
      exact coinsX_at g hb hs hq j m h1
    · obtain rfl : j = m := by omega
      rw [List.drop_append, List.drop_of_length_le (by omega), hl, Nat.sub_self, List.drop_zero, List.nil_append]
      exact List.take_of_length_le (by rw [coinB_len g hb (getD_byte hs j) j hq]; exact Nat.le_refl _)
theorem polyX_split {len : Nat} {l : List ShareV} (g : ShGood len l) (hb : ShBytes l) {b : Nat} (h : b < 256) (j : Nat) : polyX l b j = b :: (polyX l b j).drop 1 := by
  have h1 := polyX_len g hb h j
  have h2 := (throughN_hits (ptsX_b hb h j) (ptsX_d g b j)).2.2 (0, b) (by simp [ptsX])
  have h3 : valF (polyX l b j) 0 = b := h2
  cases hp : polyX l b j with
  | nil => rw [hp] at h1; simp at h1
  | cons a p =>
    rw [hp, valF_at0] at h3
    rw [h3]; rfl
/-- With the coins the secret has the shares. -/
theorem expl_share {len : Nat} {l : List ShareV} (g : ShGood len l) (hb : ShBytes l) (hy : ShLen l) {sec : List Nat} (hs : Bytes sec) (hsl : sec.length = len) {q : Nat} (hq : l.length ≤ q) {s : ShareV} (hm : s ∈ l) : shareY sec (coinsX l sec q len) q s.X len = s.Y := by
  apply List.ext_getElem
  · rw [shareY_len, hy s hm, g.n s hm]
  · intro j h1 h2
    rw [shareY_len] at h1
    have hbj := getD_byte hs j
    simp only [shareY, List.getElem_map, List.getElem_range]
    rw [← polyL_val]
    unfold polyL
    rw [coinsX_at g hb hs hq j len h1]
    unfold coinB
    rw [← List.cons_append, ← polyX_split g hb hbj j, valF_pad]
    have hh := (throughN_hits (ptsX_b hb hbj j) (ptsX_d g (sec.getD j 0) j)).2.2 (s.X, s.Y.getD j 0) (by
      unfold ptsX ptsJ
      rw [List.take_length]
      exact List.mem_cons_of_mem _ (List.mem_map.2 ⟨s, hm, rfl⟩))
    show valF (throughN (ptsX l (sec.getD j 0) j)) s.X = _
    rw [hh]
    simp [List.getD, List.getElem?_eq_getElem h2]
end Go.Proofs.Ythmooplhhkafcaa
