/- The contract of Explain of the reference. Conditions: as each statement says. -/
import Derived.Test.YtecndceekgaglaaGreatExpl
import Derived.Test.YtecndceekgaglaaGreatThruRef
import Derived.Deep.DeepCutAuto
import Derived.Test.YtecndceekgaglaaGreatShareV
namespace Go.Proofs.YtecndceekgaglaaGreat
open Go.RowKit
set_option linter.unusedVariables false
theorem apart_new {w w' : World} {base t1 t2 s1 s2 n1 n2 : Nat} {v1 v2 : Value} {x1 x2 : List Value} (h1 : w.ownsRow base t1 s1 v1 n1 x1) (h2 : w'.ownsRow w.heap.size t2 s2 v2 n2 x2) : Apart v1 v2 := fun k e1 e2 => by
  have h8 := (h1.lt k e1).2
  have h9 := (h2.lt k e2).1
  omega
/-- What stands behind the statement with Through. -/
def ThruP (wa : World) (n : Nat) (P : List Nat) (v : Value) (wx : World) : Prop := ∃ A c, v = .slice A (1 + n) c ∧ 1 + n ≤ c ∧ wx.ownsRow wa.heap.size 5 1 (.slice A (1 + n) c) (1 + n) (u8s P) ∧ Below wa.heap.size wa wx
theorem atX_all (l : List ShareV) (b j : Nat) : 0 :: atX l = (ptsX l b j).map (·.1) := by unfold ptsX; rw [List.map_cons, ← atX_take, List.take_of_length_le (by simp [atX])]
theorem atY_all (l : List ShareV) (b j : Nat) : b :: atY l j = (ptsX l b j).map (·.2) := by unfold ptsX; rw [List.map_cons, ← atY_take, List.take_of_length_le (by simp [atY])]
end Go.Proofs.YtecndceekgaglaaGreat
/- Explain of the program and of the reference in one form; the shares that the coins give. Conditions: as each statement says. -/
namespace Go.Proofs.YtecndceekgaglaaGreat
open Go.RowKit
set_option linter.unusedVariables false
theorem ptsX_canon (l : List ShareV) (b j : Nat) : ptsX (l.map canon) b j = ptsX l b j := by unfold ptsX; rw [List.length_map, ptsJ_canon]
theorem coinB_canon (l : List ShareV) (b j q : Nat) : coinB (l.map canon) b j q = coinB l b j q := by unfold coinB polyX; rw [ptsX_canon, List.length_map]
theorem coinsX_canon (l : List ShareV) (sec : List Nat) (q : Nat) : ∀ m, coinsX (l.map canon) sec q m = coinsX l sec q m
  | 0 => rfl
  | m + 1 => by rw [coinsX, coinsX, coinsX_canon l sec q m, coinB_canon]
theorem explE_canon (l : List ShareV) (k : Int) (n : Nat) (h : ShLen l) : explE (l.map canon) k n = explE l k n := by unfold explE; rw [chkE_canon n l [] h, List.length_map]
theorem explS_canon (l : List ShareV) (k : Int) (sec : List Nat) (h : ShLen l) : explS (l.map canon) k sec = explS l k sec := by unfold explS; rw [explE_canon l k _ h, coinsX_canon]
theorem expl_view {l m : List ShareV} (hl : ShLen l) (hm : ShLen m) (h : l.map ShareV.view = m.map ShareV.view) (k : Int) (sec : List Nat) : explE l k sec.length = explE m k sec.length ∧ explS l k sec = explS m k sec := by
  rw [← explE_canon l k _ hl, ← explE_canon m k _ hm, ← explS_canon l k sec hl, ← explS_canon m k sec hm, canon_view h]
  exact ⟨rfl, rfl⟩
theorem expl_main {A A' : Option Addr} {n c m c' : Nat} {k : Int} {l : List ShareV} {sec : List Nat} {w : World} {f : FuncId} (hl : ShR w w.heap.size A n l) (hs : Bytes sec) (hrd : Rd w w.heap.size 1 A' m (u8s sec)) (hn : n ≤ 1000000)
    (h4 : 256 < m → Calls Tryz.prog f #[.slice A n c, .int .i64 k, .slice A' m c'] w (RetES w 4 []))
    (h3 : m ≤ 256 → (k < 1 ∨ 16 < k) → Calls Tryz.prog f #[.slice A n c, .int .i64 k, .slice A' m c'] w (RetES w 3 []))
    (h5 : ∀ q : Nat, m ≤ 256 → q ≤ 15 → q < n → Calls Tryz.prog f #[.slice A n c, .int .i64 ((q : Int) + 1), .slice A' m c'] w (RetES w 5 []))
    (hchk : ∀ q : Nat, m ≤ 256 → q ≤ 15 → n ≤ q → chkE m [] l ≠ 0 → Calls Tryz.prog f #[.slice A n c, .int .i64 ((q : Int) + 1), .slice A' m c'] w (RetES w (chkE m [] l) []))
    (hok : ∀ q : Nat, m ≤ 256 → q ≤ 15 → n ≤ q → chkE m [] l = 0 → Calls Tryz.prog f #[.slice A n c, .int .i64 ((q : Int) + 1), .slice A' m c'] w (RetES w 0 (coinsX l sec q m))) :
    Calls Tryz.prog f #[.slice A n c, .int .i64 k, .slice A' m c'] w (RetES w (explE l k sec.length) (explS l k sec)) := by
  have hsl : sec.length = m := by have := hrd.1; simpa [u8s] using this
  rw [hsl]
  have hS : explS l k sec = if explE l k m = 0 then coinsX l sec (k - 1).toNat m else [] := by unfold explS; rw [hsl]
  by_cases g4 : 256 < m
  · have e : explE l k m = 4 := by unfold explE; rw [if_pos g4]
    rw [hS, e, if_neg (by decide)]; exact h4 g4
  · by_cases g3 : k < 1 ∨ 16 < k
    · have e : explE l k m = 3 := by unfold explE; rw [if_neg g4, if_pos g3]
      rw [hS, e, if_neg (by decide)]; exact h3 (by omega) g3
    · obtain ⟨q, hq⟩ := Int.eq_ofNat_of_zero_le (show 0 ≤ k - 1 by omega)
      obtain rfl : k = (q : Int) + 1 := by omega
      by_cases g5 : q < n
      · have e : explE l ((q : Int) + 1) m = 5 := by unfold explE; rw [if_neg g4, if_neg g3, if_pos (by rw [hl.1]; omega)]
        rw [hS, e, if_neg (by decide)]; exact h5 q (by omega) (by omega) g5
      · have e : explE l ((q : Int) + 1) m = chkE m [] l := by unfold explE; rw [if_neg g4, if_neg g3, if_neg (by rw [hl.1]; omega)]
        rw [hS, e]
        by_cases g6 : chkE m [] l = 0
        · rw [g6, if_pos rfl, show ((q : Int) + 1 - 1).toNat = q by omega]
          exact hok q (by omega) (by omega) (by omega) g6
        · rw [if_neg g6]; exact hchk q (by omega) (by omega) (by omega) g6
theorem Expl_any (A A' : Option Addr) (n c m c' : Nat) (k : Int) (l : List ShareV) (sec : List Nat) (w : World) (hn : n ≤ 1000000) (hl : ShR w w.heap.size A n l) (hs : Bytes sec) (hrd : Rd w w.heap.size 1 A' m (u8s sec)) :
    Calls Tryz.prog 17 #[.slice A n c, .int .i64 k, .slice A' m c'] w (RetES w (explE l k sec.length) (explS l k sec)) :=
  expl_main hl hs hrd hn (fun h => Expl_4 A A' n c m c' k w h) (fun h1 h2 => Expl_3 A A' n c m c' k w h1 h2) (fun q h1 h2 h3 => Expl_5 A A' n c m c' q w h1 h2 h3) (fun q h1 h2 h3 h4 => Expl_chk A A' n c m c' q l w h1 h2 h3 hl h4) (fun q h1 h2 h3 h4 => Expl_ok A A' n c m c' q l sec w h1 h2 h3 hl hs hrd h4)
/-- The coins of byte j. -/
theorem coinsX_at {len : Nat} {l : List ShareV} (g : ShGood len l) (hb : ShBytes l) {sec : List Nat} (hs : Bytes sec) {q : Nat} (hq : l.length ≤ q) (j : Nat) : ∀ m, j < m → ((coinsX l sec q m).drop (j * q)).take q = coinB l (sec.getD j 0) j q
  | 0, h => absurd h (by omega)
  | m + 1, h => by
    have hl := coinsX_len g hb hs hq m
    rw [coinsX]
    rcases Nat.lt_or_ge j m with h1 | h1
    · have h2 : (j + 1) * q ≤ m * q := Nat.mul_le_mul_right _ h1
      rw [Nat.add_mul, Nat.one_mul] at h2
      rw [List.drop_append_of_le_length (by omega), List.take_append_of_le_length (by rw [List.length_drop]; omega)]
      exact coinsX_at g hb hs hq j m h1
    · obtain rfl : j = m := by omega
      rw [List.drop_append, List.drop_of_length_le (by omega), hl, Nat.sub_self, List.drop_zero, List.nil_append]
      exact List.take_of_length_le (by rw [coinB_len g hb (getD_byte hs j) j hq]; exact Nat.le_refl _)
theorem polyX_split {len : Nat} {l : List ShareV} (g : ShGood len l) (hb : ShBytes l) {b : Nat} (h : b < 256) (j : Nat) : polyX l b j = b :: (polyX l b j).drop 1 := by
  have h1 := polyX_len g hb h j
  have h2 := (throughN_hits (ptsX_b hb h j) (ptsX_d g b j)).2.2 (0, b) (by simp [ptsX])
  have h3 : valF (polyX l b j) 0 = b := h2
  cases hp : polyX l b j with
  | nil => rw [hp] at h1; simp at h1
  | cons a p =>
    rw [hp, valF_at0] at h3
    rw [h3]; rfl
/-- With the coins the secret has the shares. -/
theorem expl_share {len : Nat} {l : List ShareV} (g : ShGood len l) (hb : ShBytes l) (hy : ShLen l) {sec : List Nat} (hs : Bytes sec) (hsl : sec.length = len) {q : Nat} (hq : l.length ≤ q) {s : ShareV} (hm : s ∈ l) : shareY sec (coinsX l sec q len) q s.X len = s.Y := by
  apply List.ext_getElem
  · rw [shareY_len, hy s hm, g.n s hm]
  · intro j h1 h2
    rw [shareY_len] at h1
    have hbj := getD_byte hs j
    simp only [shareY, List.getElem_map, List.getElem_range]
    rw [← polyL_val]
    unfold polyL
    rw [coinsX_at g hb hs hq j len h1]
    unfold coinB
    rw [← List.cons_append, ← polyX_split g hb hbj j, valF_pad]
    have hh := (throughN_hits (ptsX_b hb hbj j) (ptsX_d g (sec.getD j 0) j)).2.2 (s.X, s.Y.getD j 0) (by
      unfold ptsX ptsJ
      rw [List.take_length]
      exact List.mem_cons_of_mem _ (List.mem_map.2 ⟨s, hm, rfl⟩))
    show valF (throughN (ptsX l (sec.getD j 0) j)) s.X = _
    rw [hh]
    simp [List.getD, List.getElem?_eq_getElem h2]
end Go.Proofs.YtecndceekgaglaaGreat
/- Plain laws on places that are chosen, on shares that are gathered, and on what a coalition sees. Conditions: as each statement says. -/
namespace Go.Proofs.YtecndceekgaglaaGreat
open Go.RowKit
set_option linter.unusedVariables false
/-- Places that bytes name, each once. -/
def pickStep (n : Nat) (out : List Nat) (p : Nat) : List Nat := if p % n ∈ out then out else out ++ [p % n]
def chosenL (pick : List Nat) (n : Nat) : List Nat := pick.foldl (pickStep n) []
theorem chosenL_snoc (pick : List Nat) (p n : Nat) : chosenL (pick ++ [p]) n = pickStep n (chosenL pick n) p := by simp [chosenL]
theorem chosenL_all (n : Nat) (hn : 0 < n) (pick : List Nat) : (chosenL pick n).Nodup ∧ (∀ a ∈ chosenL pick n, a < n) ∧ (chosenL pick n).length ≤ pick.length := by
  induction pick using snoc_ind with
  | h0 => simp [chosenL]
  | h1 l p ih =>
    obtain ⟨h1, h2, h3⟩ := ih
    rw [chosenL_snoc]
    unfold pickStep
    split
    · exact ⟨h1, h2, by simp; omega⟩
    · rename_i hm
      refine ⟨?_, ?_, by simp; omega⟩
      · rw [List.nodup_append]
        exact ⟨h1, by simp, fun a ha b hb => by simp at hb; subst hb; intro e; subst e; exact hm ha⟩
      · intro a ha
        rcases List.mem_append.1 ha with h | h
        · exact h2 a h
        · rw [List.mem_singleton.1 h]; exact Nat.mod_lt _ hn
/-- Shares of a split at some places. -/
def somesL (B n q : Nat) (sec co at' : List Nat) : List ShareV := at'.map fun a => ⟨a + 1, some ⟨B + 1 + a, 0, none⟩, n, n, shareY sec co q (a + 1) n⟩
theorem somesL_len (B n q : Nat) (sec co at' : List Nat) : (somesL B n q sec co at').length = at'.length := by simp [somesL]
theorem somesL_snoc (B n q : Nat) (sec co at' : List Nat) (a : Nat) : somesL B n q sec co (at' ++ [a]) = somesL B n q sec co at' ++ [⟨a + 1, some ⟨B + 1 + a, 0, none⟩, n, n, shareY sec co q (a + 1) n⟩] := by simp [somesL]
theorem somesL_get {B n q : Nat} {sec co at' : List Nat} {i : Nat} (h : i < at'.length) : (somesL B n q sec co at')[i]? = some ⟨at'[i] + 1, some ⟨B + 1 + at'[i], 0, none⟩, n, n, shareY sec co q (at'[i] + 1) n⟩ := by simp [somesL, h]
theorem chk_zero {len : Nat} (hlen : len ≤ 256) : ∀ (l : List ShareV) (seen : List Nat), (∀ s ∈ l, 1 ≤ s.X ∧ s.X ≤ 16 ∧ s.n = len ∧ s.X ∉ seen) → (l.map ShareV.X).Nodup → chkE len seen l = 0
  | [], _, _, _ => rfl
  | s :: r, seen, h, hd => by
    obtain ⟨h1, h2, h3, h4⟩ := h s (by simp)
    rw [chkE_cons, if_neg (by omega), if_neg h4, if_neg (by simpa using h3), if_neg (by omega)]
    rw [List.map_cons, List.nodup_cons] at hd
    refine chk_zero hlen r _ (fun t ht => ?_) hd.2
    obtain ⟨k1, k2, k3, k4⟩ := h t (by simp [ht])
    refine ⟨k1, k2, k3, ?_⟩
    rw [List.mem_cons]
    rintro (e | e)
    · exact hd.1 (e ▸ List.mem_map.2 ⟨t, ht, rfl⟩)
    · exact k4 e
theorem map_nodup {α β : Type} {f : α → β} (hf : ∀ a b, f a = f b → a = b) : ∀ {l : List α}, l.Nodup → (l.map f).Nodup
  | [], _ => by simp
  | a :: l, h => by
    rw [List.nodup_cons] at h
    rw [List.map_cons, List.nodup_cons]
    refine ⟨fun hm => ?_, map_nodup hf h.2⟩
    obtain ⟨b, hb, e⟩ := List.mem_map.1 hm
    rw [hf _ _ e] at hb
    exact h.1 hb
theorem somesL_X (B n q : Nat) (sec co at' : List Nat) : (somesL B n q sec co at').map ShareV.X = at'.map (· + 1) := by simp [somesL, Function.comp_def]
theorem somesL_chk {B n q : Nat} {sec co at' : List Nat} (hn : n ≤ 256) (hd : at'.Nodup) (hlt : ∀ a ∈ at', a < 16) : chkE n [] (somesL B n q sec co at') = 0 := by
  refine chk_zero hn _ _ (fun s hs => ?_) ?_
  · obtain ⟨a, ha, rfl⟩ := List.mem_map.1 hs
    have := hlt a ha
    exact ⟨by simp, by simp; omega, rfl, by simp⟩
  · rw [somesL_X]; exact map_nodup (fun a b h => by omega) hd
theorem shareY_getD (sec co : List Nat) (q x n j : Nat) (h : j < n) : (shareY sec co q x n).getD j 0 = shareB sec co q x j := by simp [shareY, h]
theorem getD_of_get {l : List Nat} {j v : Nat} (h : l[j]? = some v) : l.getD j 0 = v := by simp [List.getD, h]
theorem somesL_bytes {B n q : Nat} {sec co at' : List Nat} (hs : Bytes sec) (hc : Bytes co) (hlt : ∀ a ∈ at', a < 16) : ShBytes (somesL B n q sec co at') := by
  intro s hm
  obtain ⟨a, ha, rfl⟩ := List.mem_map.1 hm
  have := hlt a ha
  exact ⟨by simp; omega, shareY_bytes hs hc⟩
/-- The polynomial of k shares is the one of the split. -/
theorem somesL_poly {B n q j : Nat} {sec co at' : List Nat} {l : List ShareV} (hs : Bytes sec) (hc : Bytes co) (hcl : co.length = n * q) (hn : n ≤ 256) (hd : at'.Nodup) (hlt : ∀ a ∈ at', a < 16) (hk : q + 1 ≤ at'.length) (hj : j < n)
    (hl : l.take (q + 1) = (somesL B n q sec co at').take (q + 1)) : polyJ l (q + 1) j = polyL sec co q j := by
  have hp : ptsJ l (q + 1) j = ptsJ (somesL B n q sec co at') (q + 1) j := by unfold ptsJ; rw [hl]
  unfold polyJ
  rw [hp]
  have hg := (chk_good n _ [] (somesL_chk (B := B) (q := q) (sec := sec) (co := co) hn hd hlt)).1
  refine (throughN_unique (ptsJ_b (somesL_bytes hs hc hlt) _ j) (ptsJ_d hg _ j) (polyL_bytes hs hc) ?_ ?_).symm
  · rw [ptsJ_len _ _ _ (by rw [somesL_len]; exact hk)]
    have h1 : j * q + q ≤ n * q := by rw [← Nat.succ_mul]; exact Nat.mul_le_mul_right _ hj
    simp only [polyL, List.length_cons, List.length_take, List.length_drop, hcl]
    omega
  · intro p hp
    obtain ⟨s, hs', rfl⟩ := List.mem_map.1 hp
    obtain ⟨a, ha, rfl⟩ := List.mem_map.1 (List.mem_of_mem_take hs')
    dsimp only
    rw [polyL_val, shareY_getD _ _ _ _ _ _ hj]
theorem okJ_split {B n q j : Nat} {sec co at' : List Nat} (hs : Bytes sec) (hc : Bytes co) (hcl : co.length = n * q) (hn : n ≤ 256) (hd : at'.Nodup) (hlt : ∀ a ∈ at', a < 16) (hk : q + 1 ≤ at'.length) (hj : j < n) :
    okJ (somesL B n q sec co at') (q + 1) j = true := by
  unfold okJ
  rw [somesL_poly hs hc hcl hn hd hlt hk hj rfl, List.all_eq_true]
  intro s hs'
  obtain ⟨a, ha, rfl⟩ := List.mem_map.1 (List.mem_of_mem_drop hs')
  dsimp only
  rw [polyL_val, shareY_getD _ _ _ _ _ _ hj, beq_self_eq_true]
theorem somesL_head {B n q : Nat} {sec co at' : List Nat} (h : 0 < at'.length) : ((somesL B n q sec co at').headD ⟨0, none, 0, 0, []⟩).n = n := by
  match at', h with
  | _ :: _, _ => rfl
/-- Any k shares or more give the secret. -/
theorem gather_ok {B n q : Nat} {sec co at' : List Nat} (hs : Bytes sec) (hc : Bytes co) (hsl : sec.length = n) (hcl : co.length = n * q) (hn : n ≤ 256) (hq : q ≤ 15) (hd : at'.Nodup) (hlt : ∀ a ∈ at', a < 16) (hk : q + 1 ≤ at'.length) :
    joinE (somesL B n q sec co at') ((q : Int) + 1) = 0 ∧ joinS (somesL B n q sec co at') ((q : Int) + 1) = sec := by
  have hall : allJ (somesL B n q sec co at') (q + 1) n = true := by
    unfold allJ
    rw [List.all_eq_true]
    intro j hj
    exact okJ_split hs hc hcl hn hd hlt hk (by simpa using hj)
  have hE : joinE (somesL B n q sec co at') ((q : Int) + 1) = 0 := by
    unfold joinE
    rw [if_neg (by omega), if_neg (by rw [somesL_len]; omega), somesL_head (by omega), somesL_chk hn hd hlt, if_neg (by simp), show ((q : Int) + 1).toNat = q + 1 by omega, hall, if_pos rfl]
  refine ⟨hE, ?_⟩
  unfold joinS
  rw [hE, if_pos rfl, somesL_head (by omega), show ((q : Int) + 1).toNat = q + 1 by omega]
  apply List.ext_getElem
  · rw [secJ_len, hsl]
  · intro j h1 h2
    simp only [secJ, List.getElem_map, List.getElem_range]
    rw [somesL_poly hs hc hcl hn hd hlt hk (by omega) rfl]
    simp [polyL, h2]
/-- Fewer are refused. -/
theorem gather_few {B n q : Nat} {sec co at' : List Nat} (hq : q ≤ 15) (hk : at'.length < q + 1) : joinE (somesL B n q sec co at') ((q : Int) + 1) = 14 ∧ joinS (somesL B n q sec co at') ((q : Int) + 1) = [] := by
  have hE : joinE (somesL B n q sec co at') ((q : Int) + 1) = 14 := by
    unfold joinE
    rw [if_neg (by omega), if_pos (by rw [somesL_len]; omega)]
  exact ⟨hE, by unfold joinS; rw [hE]; rfl⟩
/-- With a byte changed they are refused. -/
theorem gather_bad {B n q a z : Nat} {sec co at' : List Nat} {s : ShareV} (hs : Bytes sec) (hc : Bytes co) (hsl : sec.length = n) (hcl : co.length = n * q) (hn : n ≤ 256) (hq : q ≤ 15) (hd : at'.Nodup) (hlt : ∀ a ∈ at', a < 16) (hk : q + 1 < at'.length) (hn0 : 0 < n)
    (ha : at'[q + 1]? = some a) (hz : z ≠ shareB sec co q (a + 1) 0) (hX : s.X = a + 1) (hsn : s.n = n) (hY : s.Y.getD 0 0 = z) :
    joinE ((somesL B n q sec co at').set (q + 1) s) ((q : Int) + 1) = 19 := by
  have hlen : ((somesL B n q sec co at').set (q + 1) s).length = at'.length := by rw [List.length_set, somesL_len]
  have hpoly : polyJ ((somesL B n q sec co at').set (q + 1) s) (q + 1) 0 = polyL sec co q 0 := somesL_poly hs hc hcl hn hd hlt (by omega) hn0 (by rw [List.take_set_of_le (Nat.le_refl _)])
  have hbad : okJ ((somesL B n q sec co at').set (q + 1) s) (q + 1) 0 = false := by
    unfold okJ
    rw [hpoly, List.all_eq_false]
    refine ⟨s, ?_, ?_⟩
    · rw [List.mem_iff_getElem?]
      exact ⟨0, by rw [List.getElem?_drop, Nat.add_zero, List.getElem?_set_self (by rw [somesL_len]; exact hk)]⟩
    · rw [polyL_val, hX, hY]
      simp only [beq_iff_eq]
      exact fun e => hz e.symm
  have hXs : ((somesL B n q sec co at').set (q + 1) s).map ShareV.X = at'.map (· + 1) := by
    rw [List.map_set, somesL_X, hX]
    apply List.ext_getElem?
    intro i
    by_cases hi : q + 1 = i
    · subst hi
      rw [List.getElem?_set_self (by simpa using hk), List.getElem?_map, ha]; rfl
    · rw [List.getElem?_set_ne hi]
  have hchk : chkE n [] ((somesL B n q sec co at').set (q + 1) s) = 0 := by
    refine chk_zero hn _ _ (fun t ht => ?_) (by rw [hXs]; exact map_nodup (fun a b h => by omega) hd)
    rcases List.mem_or_eq_of_mem_set ht with h | h
    · obtain ⟨b, hb, rfl⟩ := List.mem_map.1 h
      have := hlt b hb
      exact ⟨by simp, by simp; omega, rfl, by simp⟩
    · subst h
      have := hlt a (List.mem_of_getElem? ha)
      exact ⟨by omega, by omega, hsn, by simp⟩
  have hhead : (((somesL B n q sec co at').set (q + 1) s).headD ⟨0, none, 0, 0, []⟩).n = n := by
    match at', hk with
    | b :: r, _ => rfl
  unfold joinE
  rw [if_neg (by omega), if_neg (by rw [hlen]; omega), hhead, hchk, if_neg (by simp), show ((q : Int) + 1).toNat = q + 1 by omega, allJ_false hn0 hbad, if_neg (by simp)]
/-- Two byte strings, xored: as long as the first one. -/
def xorP (a b : List Nat) : List Nat := (List.range a.length).map fun i => a.getD i 0 ^^^ b.getD i 0
theorem xorP_len (a b : List Nat) : (xorP a b).length = a.length := by simp [xorP]
theorem xorP_getD (a b : List Nat) {i : Nat} (h : i < a.length) : (xorP a b).getD i 0 = a.getD i 0 ^^^ b.getD i 0 := by simp [xorP, h]
theorem xorP_bytes {a b : List Nat} (ha : Bytes a) (hb : Bytes b) : Bytes (xorP a b) := by
  intro x hx
  obtain ⟨i, hi, rfl⟩ := List.mem_map.1 hx
  exact xor8_lt (getD_byte ha i) (getD_byte hb i)
theorem xorP_add {a b : List Nat} (h : a.length = b.length) : xorP a b = addP a b := by
  apply List.ext_getElem
  · rw [xorP_len, addP_len _ _ h]
  · intro i h1 h2
    have hb : i < b.length := by rw [← h]; simpa [xorP] using h1
    have ha : i < a.length := by omega
    simp [xorP, addP, ha, hb]
theorem getD_add {a b : List Nat} (h : a.length = b.length) (i : Nat) : (addP a b).getD i 0 = a.getD i 0 ^^^ b.getD i 0 := by
  by_cases hi : i < a.length
  · rw [← xorP_add h, xorP_getD _ _ hi]
  · have h1 : (addP a b).length ≤ i := by rw [addP_len _ _ h]; omega
    simp [List.getD, List.getElem?_eq_none h1, List.getElem?_eq_none (show a.length ≤ i by omega), List.getElem?_eq_none (show b.length ≤ i by omega)]
theorem shareB_add {s1 s2 c1 c2 : List Nat} {q x j : Nat} (h : s1.length = s2.length) (hc : c1.length = c2.length) (b1 : Bytes c1) (b2 : Bytes c2) :
    shareB (addP s1 s2) (addP c1 c2) q x j = shareB s1 c1 q x j ^^^ shareB s2 c2 q x j := by
  unfold shareB
  rw [getD_add h]
  have e : (((addP c1 c2).drop (j * q)).take q) = addP ((c1.drop (j * q)).take q) ((c2.drop (j * q)).take q) := by simp [addP, List.drop_zipWith, List.take_zipWith]
  rw [e, addP_val (p := (c1.drop (j * q)).take q) (q := (c2.drop (j * q)).take q) ((b1.drop _).take _) ((b2.drop _).take _) (by simp [hc]), gm_xor_left isW8 (valF_lt ((b1.drop _).take _) x) (valF_lt ((b2.drop _).take _) x), xor4]
theorem shareY_add {s1 s2 c1 c2 : List Nat} {q x n : Nat} (h : s1.length = s2.length) (hc : c1.length = c2.length) (b1 : Bytes c1) (b2 : Bytes c2) :
    shareY (addP s1 s2) (addP c1 c2) q x n = addP (shareY s1 c1 q x n) (shareY s2 c2 q x n) := by
  apply List.ext_getElem
  · rw [shareY_len, addP_len _ _ (by simp [shareY_len]), shareY_len]
  · intro j h1 h2
    simp only [shareY, List.getElem_map, List.getElem_range, addP, List.getElem_zipWith]
    exact shareB_add h hc b1 b2
theorem addP_zeros {a : List Nat} {n : Nat} (h : a.length = n) : addP a (List.replicate n 0) = a := by
  apply List.ext_getElem
  · rw [addP_len _ _ (by simp [h])]
  · intro i h1 h2; simp [addP]
theorem addP_back {a b : List Nat} (h : a.length = b.length) : addP a (addP a b) = b := by
  apply List.ext_getElem
  · rw [addP_len _ _ (by rw [addP_len _ _ h]), h]
  · intro i h1 h2
    simp [addP, ← Nat.xor_assoc]
/-- Empty shares at some places. -/
def nones (A : Nat → Option Addr) (n : Nat) (at' : List Nat) : List ShareV := at'.mapIdx fun i a => ⟨a + 1, A i, n, n, List.replicate n 0⟩
/-- What a coalition sees of a secret, it sees of another one with other coins. -/
theorem view_same {n q : Nat} {l : List ShareV} {at' : List Nat} {sec sec2 co : List Nat} (hv : l.map ShareV.view = at'.map fun a => (a + 1, List.replicate n 0)) (hsn : ∀ s ∈ l, s.n = n) (hs : Bytes sec) (hs2 : Bytes sec2) (hc : Bytes co)
    (hsl : sec.length = n) (hsl2 : sec2.length = n) (hcl : co.length = n * q) (hn : n ≤ 256) (hd : at'.Nodup) (hlt : ∀ a ∈ at', a < 16) (hk : at'.length ≤ q) :
    chkE n [] l = 0 ∧ ∀ a ∈ at', shareY sec2 (addP co (coinsX l (addP sec sec2) q n)) q (a + 1) n = shareY sec co q (a + 1) n := by
  have hlen : l.length = at'.length := by simpa using congrArg List.length hv
  have hX : l.map ShareV.X = at'.map (· + 1) := by
    have := congrArg (List.map Prod.fst) hv
    simpa [ShareV.view, Function.comp_def] using this
  have hmem : ∀ s ∈ l, ∃ a ∈ at', s.X = a + 1 ∧ s.Y = List.replicate n 0 := fun s hs => by
    have h1 : s.view ∈ l.map ShareV.view := List.mem_map.2 ⟨s, hs, rfl⟩
    rw [hv] at h1
    obtain ⟨a, ha, e⟩ := List.mem_map.1 h1
    simp only [ShareV.view, Prod.mk.injEq] at e
    exact ⟨a, ha, e.1.symm, e.2.symm⟩
  have hchk : chkE n [] l = 0 := by
    refine chk_zero hn _ _ (fun s hs => ?_) (by rw [hX]; exact map_nodup (fun a b h => by omega) hd)
    obtain ⟨a, ha, e, _⟩ := hmem s hs
    have := hlt a ha
    exact ⟨by omega, by omega, hsn s hs, by simp⟩
  refine ⟨hchk, fun a ha => ?_⟩
  have hg := (chk_good n _ [] hchk).1
  have hb : ShBytes l := fun s hs => by
    obtain ⟨a, ha, e, ey⟩ := hmem s hs
    have := hlt a ha
    exact ⟨by omega, by rw [ey]; exact Bytes.zeros n⟩
  have hy : ShLen l := fun s hs => by
    obtain ⟨a, ha, e, ey⟩ := hmem s hs
    rw [ey, hsn s hs]; simp
  have hbd : Bytes (addP sec sec2) := addP_bytes hs hs2
  have hld : (addP sec sec2).length = n := by rw [addP_len _ _ (by omega), hsl]
  obtain ⟨s, hm, hsX⟩ : ∃ s ∈ l, s.X = a + 1 := by
    have h1 : a + 1 ∈ l.map ShareV.X := by rw [hX]; exact List.mem_map.2 ⟨a, ha, rfl⟩
    obtain ⟨s, hm, e⟩ := List.mem_map.1 h1
    exact ⟨s, hm, e⟩
  have hE := expl_share hg hb hy hbd hld (by rw [hlen]; exact hk) hm
  obtain ⟨_, _, _, ey⟩ := hmem s hm
  rw [hsX, ey] at hE
  have hcx : co.length = (coinsX l (addP sec sec2) q n).length := by rw [coinsX_len hg hb hbd (by rw [hlen]; exact hk), hcl]
  have key := shareY_add (q := q) (x := a + 1) (n := n) (s1 := sec) (s2 := addP sec sec2) (c1 := co) (c2 := coinsX l (addP sec sec2) q n) (by omega) hcx hc (coinsX_bytes hg hb hbd n)
  rw [hE, addP_zeros (shareY_len _ _ _ _ _), addP_back (by omega)] at key
  exact key
end Go.Proofs.YtecndceekgaglaaGreat
