/- The contracts of at, times and Through of the reference. Conditions: as each statement says. -/
import Derived.Test.YtecndceekgaglaaGreatShareV
import Derived.Test.YtecndceekgaglaaGreatPush2
import Derived.Test.YtecndceekgaglaaGreatMath
import Derived.Test.YtecndceekgaglaaGreatField
import Derived.Test.YtecndceekgaglaaGreatTail
import Derived.Test.YtecndceekgaglaaGreatThru
namespace Go.Proofs.YtecndceekgaglaaGreat
open Go.RowKit
set_option linter.unusedVariables false
/-- The call returns two slices that read as xs and ys. -/
def RetTwo (w : World) (n : Nat) (xs ys : List Value) (e : Ending) (w' : World) : Prop :=
  ∃ A1 c1 A2 c2, e = .returned (.tuple #[.slice A1 n c1, .slice A2 n c2]) ∧ n ≤ c1 ∧ n ≤ c2 ∧ Rd w' w'.heap.size 1 A1 n xs ∧ Rd w' w'.heap.size 1 A2 n ys ∧ Below w.heap.size w w'
/-- The document's product after k rounds. -/
def timesK (p : List Nat) (x k : Nat) : List Nat := (List.range (p.length + 1)).map fun i => (if i = 0 then 0 else if i ≤ k then p.getD (i - 1) 0 else 0) ^^^ (if i < k then gm 8 (p.getD i 0) x else 0)
theorem timesK_zero (p : List Nat) (x : Nat) : timesK p x 0 = List.replicate (p.length + 1) 0 := by
  apply List.ext_getElem
  · simp [timesK]
  · intro i h1 h2
    by_cases h : i = 0 <;> simp [timesK, h]
theorem timesK_len (p : List Nat) (x k : Nat) : (timesK p x k).length = p.length + 1 := by simp [timesK]
theorem timesK_get (p : List Nat) (x k i : Nat) (h : i < (timesK p x k).length) : (timesK p x k)[i] = (if i = 0 then 0 else if i ≤ k then p.getD (i - 1) 0 else 0) ^^^ (if i < k then gm 8 (p.getD i 0) x else 0) := by simp [timesK]
theorem timesK_succ (p : List Nat) (x k : Nat) (h : k < p.length) :
    timesK p x (k + 1) = ((timesK p x k).set (k + 1) ((timesK p x k)[k + 1]'(by rw [timesK_len]; omega) ^^^ p[k])).set k ((timesK p x k)[k]'(by rw [timesK_len]; omega) ^^^ gm 8 p[k] x) := by
  have hg : p.getD k 0 = p[k] := by simp [List.getD, List.getElem?_eq_getElem h]
  apply List.ext_getElem
  · simp [timesK_len]
  · intro i h1 h2
    rw [timesK_len] at h1
    rw [timesK_get, List.getElem_set, List.getElem_set]
    by_cases e1 : k = i
    · subst e1
      rw [if_pos rfl, timesK_get, hg]
      by_cases e0 : k = 0
      · subst e0; simp
      · rw [if_neg e0, if_neg e0, if_pos (by omega), if_pos (by omega), if_pos (by omega), if_neg (by omega), Nat.xor_zero]
    · rw [if_neg e1]
      by_cases e2 : k + 1 = i
      · subst e2
        rw [if_pos rfl, timesK_get, if_neg (by omega), if_pos (by omega), if_neg (by omega), if_neg (by omega), if_neg (by omega), if_neg (by omega), Nat.add_sub_cancel, hg]
        simp
      · rw [if_neg e2, timesK_get]
        by_cases e0 : i = 0
        · subst e0; rw [if_pos rfl, if_pos rfl]
          by_cases e3 : 0 < k
          · rw [if_pos (by omega), if_pos e3]
          · rw [if_neg (by omega), if_neg e3]
        · rw [if_neg e0, if_neg e0]
          by_cases e3 : i < k
          · rw [if_pos (by omega), if_pos (by omega), if_pos (by omega), if_pos e3]
          · rw [if_neg (by omega), if_neg (by omega), if_neg (by omega), if_neg e3]
theorem timesK_bytes {p : List Nat} (hp : Bytes p) (x k : Nat) : Bytes (timesK p x k) := fun y hy => by
  obtain ⟨i, hi, rfl⟩ := List.getElem_of_mem hy
  rw [timesK_get]
  have hd : ∀ j, p.getD j 0 < 256 := fun j => by
    rcases Nat.lt_or_ge j p.length with h | h
    · simp only [List.getD, List.getElem?_eq_getElem h, Option.getD_some]; exact hp _ (List.getElem_mem h)
    · simp [List.getD, List.getElem?_eq_none h]
  refine xor8_lt ?_ ?_
  · split
    · decide
    · split
      · exact hd _
      · decide
  · split
    · exact gm8_lt (hd _)
    · decide
theorem timesK_all (p : List Nat) (x : Nat) : timesK p x p.length = timesP p x := by
  apply List.ext_getElem
  · rw [timesK_len, timesP_len]
  · intro i h1 h2
    have hi : i < p.length + 1 := by rwa [timesK_len] at h1
    simp only [timesK, List.getElem_map, List.getElem_range, timesP, addP, List.getElem_zipWith]
    rcases Nat.eq_zero_or_pos i with rfl | h0
    · rcases Nat.eq_zero_or_pos p.length with hz | hz
      · obtain rfl := List.eq_nil_of_length_eq_zero hz; simp [mulP]
      · rw [if_pos rfl, if_pos hz, List.getElem_append_left (by simpa [mulP] using hz)]
        simp [mulP, List.getD, List.getElem?_eq_getElem hz]
    · obtain ⟨q, rfl⟩ : ∃ q, i = q + 1 := ⟨i - 1, by omega⟩
      have hq : q < p.length := by omega
      rw [if_neg (by omega), if_pos (by omega), Nat.add_sub_cancel]
      rcases Nat.lt_or_ge (q + 1) p.length with h | h
      · rw [if_pos h, List.getElem_append_left (by simpa [mulP] using h)]
        simp [mulP, List.getD, List.getElem?_eq_getElem hq, List.getElem?_eq_getElem h]
      · rw [if_neg (by omega), List.getElem_append_right (by simpa [mulP] using h)]
        simp [List.getD, List.getElem?_eq_getElem hq]
def atX (l : List ShareV) : List Nat := l.map ShareV.X
def atY (l : List ShareV) (j : Nat) : List Nat := l.map fun s => s.Y.getD j 0
end Go.Proofs.YtecndceekgaglaaGreat
/- The contract of Through of the reference. Conditions: as the statement says. -/
namespace Go.Proofs.YtecndceekgaglaaGreat
open Go.RowKit
set_option linter.unusedVariables false
/-- The places but one among the first k. -/
def oth (ps : List (Nat × Nat)) (i k : Nat) : List Nat := ((ps.take k).eraseIdx i).map (·.1)
theorem oth_skip (ps : List (Nat × Nat)) (i : Nat) (h : i < ps.length) : oth ps i (i + 1) = oth ps i i := by
  unfold oth
  rw [take_snoc _ _ h, List.eraseIdx_append_of_length_le (by simp; omega), List.eraseIdx_of_length_le (l := ps.take i) (by simp; omega)]
  simp [Nat.min_eq_left (Nat.le_of_lt h)]
theorem oth_snoc (ps : List (Nat × Nat)) (i k : Nat) (h : k < ps.length) (hne : k ≠ i) : oth ps i (k + 1) = oth ps i k ++ [(ps[k]).1] := by
  unfold oth
  rw [take_snoc _ _ h]
  rcases Nat.lt_or_ge i k with h1 | h1
  · rw [List.eraseIdx_append_of_lt_length (by simp; omega), List.map_append]; rfl
  · rw [List.eraseIdx_of_length_le (l := ps.take k ++ [ps[k]]) (by simp; omega), List.eraseIdx_of_length_le (l := ps.take k) (by simp; omega), List.map_append]; rfl
theorem oth_all (ps : List (Nat × Nat)) (i : Nat) : oth ps i ps.length = others ps i := by unfold oth others; rw [List.take_length]
theorem oth_len (ps : List (Nat × Nat)) (i k : Nat) (hk : k ≤ ps.length) : (oth ps i k).length ≤ k := by
  unfold oth; rw [List.length_map]
  exact Nat.le_trans (List.length_eraseIdx_le _ _) (by simp; omega)
theorem oth_bytes {ps : List (Nat × Nat)} (hb : PtB ps) (i k : Nat) : Bytes (oth ps i k) := fun y hy => by
  obtain ⟨p, hp, rfl⟩ := List.mem_map.1 hy
  exact (hb p (List.mem_of_mem_take (List.mem_of_mem_eraseIdx hp))).1
/-- The sum, written to the first k places. -/
def mixK (o a : List Nat) (k : Nat) : List Nat := (addP o a).take k ++ o.drop k
theorem mixK_len (o a : List Nat) (k : Nat) (h : o.length = a.length) (hk : k ≤ o.length) : (mixK o a k).length = o.length := by simp [mixK, addP_len _ _ h]; omega
theorem mixK_get (o a : List Nat) (k : Nat) (h : o.length = a.length) (hk : k < o.length) : (mixK o a k)[k]? = some o[k] := by
  unfold mixK
  rw [List.getElem?_append_right (by simp [addP_len _ _ h]; omega)]
  simp [addP_len _ _ h, Nat.min_eq_left (Nat.le_of_lt hk), hk]
theorem mixK_set (o a : List Nat) (k : Nat) (h : o.length = a.length) (hk : k < o.length) : (mixK o a k).set k (o[k] ^^^ a[k]'(by omega)) = mixK o a (k + 1) := by
  unfold mixK
  rw [List.set_append_right _ _ (by simp [addP_len _ _ h]; omega)]
  have e : (addP o a).take (k + 1) = (addP o a).take k ++ [o[k] ^^^ a[k]'(by omega)] := by
    rw [take_snoc _ _ (by rw [addP_len _ _ h]; exact hk)]; simp [addP]
  rw [e, List.append_assoc]
  simp only [List.length_take, addP_len _ _ h, Nat.min_eq_left (Nat.le_of_lt hk), Nat.sub_self]
  rw [List.drop_eq_getElem_cons hk, List.set_cons_zero]
  rfl
theorem mixK_all (o a : List Nat) (h : o.length = a.length) : mixK o a o.length = addP o a := by
  unfold mixK
  rw [List.take_of_length_le (by rw [addP_len _ _ h]; exact Nat.le_refl _), List.drop_length, List.append_nil]
theorem mixK_zero (o a : List Nat) : mixK o a 0 = o := by simp [mixK]
end Go.Proofs.YtecndceekgaglaaGreat
/- The contract of Join of the reference. Conditions: as each statement says. -/
namespace Go.Proofs.YtecndceekgaglaaGreat
open Go.RowKit
set_option linter.unusedVariables false
theorem tail_e {e : Int} (h0 : 0 ≤ e) (hne : e ≠ 0) : 0 < e := by omega
end Go.Proofs.YtecndceekgaglaaGreat
/- The contract of Join of the reference, where it is not refused ahead. Conditions: as the statement says. -/
namespace Go.Proofs.YtecndceekgaglaaGreat
open Go.RowKit
set_option linter.unusedVariables false
theorem atX_take (l : List ShareV) (k j : Nat) : (atX l).take k = (ptsJ l k j).map (·.1) := by unfold atX ptsJ; rw [← List.map_take, List.map_map]; rfl
theorem atY_take (l : List ShareV) (k j : Nat) : (atY l j).take k = (ptsJ l k j).map (·.2) := by unfold atY ptsJ; rw [← List.map_take, List.map_map]; rfl
theorem atX_bytes {l : List ShareV} (h : ShBytes l) : Bytes (atX l) := fun y hy => by obtain ⟨s, hs, rfl⟩ := List.mem_map.1 hy; exact (h s hs).1
theorem atY_bytes {l : List ShareV} (h : ShBytes l) (j : Nat) : Bytes (atY l j) := fun y hy => by obtain ⟨s, hs, rfl⟩ := List.mem_map.1 hy; exact getD_byte (h s hs).2 j
end Go.Proofs.YtecndceekgaglaaGreat
/- Join of the program and of the reference in one form; both say the same of lists with the same views. Conditions: as each statement says. -/
namespace Go.Proofs.YtecndceekgaglaaGreat
open Go.RowKit
set_option linter.unusedVariables false
def canon (s : ShareV) : ShareV := ⟨s.X, none, s.Y.length, 0, s.Y⟩
def ShLen (l : List ShareV) : Prop := ∀ s ∈ l, s.Y.length = s.n
theorem chkE_canon (len : Nat) : ∀ (l : List ShareV) (seen : List Nat), ShLen l → chkE len seen (l.map canon) = chkE len seen l
  | [], _, _ => rfl
  | s :: r, seen, h => by
    rw [List.map_cons, chkE_cons, chkE_cons, chkE_canon len r _ (fun t ht => h t (by simp [ht]))]
    show (if s.X < 1 ∨ 16 < s.X then 2 else if s.X ∈ seen then 10 else if s.Y.length ≠ len then 22 else if 256 < len then 4 else chkE len (s.X :: seen) r) = _
    rw [h s (by simp)]
theorem ptsJ_canon (l : List ShareV) (k j : Nat) : ptsJ (l.map canon) k j = ptsJ l k j := by unfold ptsJ; rw [← List.map_take, List.map_map]; rfl
theorem polyJ_canon (l : List ShareV) (k j : Nat) : polyJ (l.map canon) k j = polyJ l k j := by unfold polyJ; rw [ptsJ_canon]
theorem okJ_canon (l : List ShareV) (k j : Nat) : okJ (l.map canon) k j = okJ l k j := by unfold okJ; rw [← List.map_drop, List.all_map, polyJ_canon]; rfl
theorem allJ_canon (l : List ShareV) (k m : Nat) : allJ (l.map canon) k m = allJ l k m := by
  unfold allJ; congr 1; funext j; exact okJ_canon l k j
theorem secJ_canon (l : List ShareV) (k m : Nat) : secJ (l.map canon) k m = secJ l k m := by
  unfold secJ; apply List.map_congr_left; intro j _; rw [polyJ_canon]
theorem head_canon (l : List ShareV) (h : ShLen l) : ((l.map canon).headD ⟨0, none, 0, 0, []⟩).n = (l.headD ⟨0, none, 0, 0, []⟩).n := by
  cases l with
  | nil => rfl
  | cons s r => exact h s (by simp)
theorem joinE_canon (l : List ShareV) (k : Int) (h : ShLen l) : joinE (l.map canon) k = joinE l k := by
  unfold joinE; rw [head_canon l h, chkE_canon _ l _ h, allJ_canon, List.length_map]
theorem joinS_canon (l : List ShareV) (k : Int) (h : ShLen l) : joinS (l.map canon) k = joinS l k := by
  unfold joinS; rw [joinE_canon l k h, head_canon l h, secJ_canon]
theorem canon_view {l m : List ShareV} (h : l.map ShareV.view = m.map ShareV.view) : l.map canon = m.map canon := by
  have e : ∀ l : List ShareV, l.map canon = (l.map ShareV.view).map (fun p => (⟨p.1, none, p.2.length, 0, p.2⟩ : ShareV)) := fun l => by rw [List.map_map]; rfl
  rw [e, e, h]
theorem join_view {l m : List ShareV} (hl : ShLen l) (hm : ShLen m) (h : l.map ShareV.view = m.map ShareV.view) (k : Int) : joinE l k = joinE m k ∧ joinS l k = joinS m k := by
  rw [← joinE_canon l k hl, ← joinE_canon m k hm, ← joinS_canon l k hl, ← joinS_canon m k hm, canon_view h]
  exact ⟨rfl, rfl⟩
theorem ShR.lens {w : World} {B n : Nat} {A : Option Addr} {l : List ShareV} (h : ShR w B A n l) : ShLen l := fun s hs => (h.2.2 s hs).2.2.2.2.1
theorem join_main {P : (A : Option Addr) → Int → Ending → World → Prop} {A : Option Addr} {n : Nat} {k : Int} {l : List ShareV} {w : World} {f : FuncId} {c : Nat} (hn : n ≤ 1000000) (hnc : n ≤ c) (hl : ShR w w.heap.size A n l)
    (h3 : k < 1 ∨ 16 < k → Calls Tryz.prog f #[.slice A n c, .int .i64 k] w (RetES w 3 []))
    (h14 : ∀ q : Nat, 1 ≤ q → q ≤ 16 → n < q → Calls Tryz.prog f #[.slice A n c, .int .i64 q] w (RetES w 14 []))
    (hchk : ∀ (b off q : Nat) (s : ShareV) (r : List ShareV), 1 ≤ q → q ≤ 16 → n ≤ 1073741824 → q ≤ n → ShR w w.heap.size (some ⟨b, off, none⟩) n (s :: r) → chkE s.n [] (s :: r) ≠ 0 → Calls Tryz.prog f #[.slice (some ⟨b, off, none⟩) n c, .int .i64 q] w (RetES w (chkE s.n [] (s :: r)) []))
    (hok : ∀ (b off q len : Nat) (l : List ShareV), 1 ≤ q → q ≤ 16 → n ≤ c → q ≤ n → ShR w w.heap.size (some ⟨b, off, none⟩) n l → chkE len [] l = 0 → Calls Tryz.prog f #[.slice (some ⟨b, off, none⟩) n c, .int .i64 q] w (RetES w (okE (allJ l q len)) (okS (allJ l q len) (secJ l q len)))) :
    Calls Tryz.prog f #[.slice A n c, .int .i64 k] w (RetES w (joinE l k) (joinS l k)) := by
  by_cases g1 : k < 1 ∨ 16 < k
  · have e : joinE l k = 3 := by unfold joinE; rw [if_pos g1]
    have e2 : joinS l k = [] := by unfold joinS; rw [e]; rfl
    rw [e, e2]; exact h3 g1
  · obtain ⟨q, rfl⟩ := Int.eq_ofNat_of_zero_le (show 0 ≤ k by omega)
    by_cases g2 : n < q
    · have e : joinE l q = 14 := by unfold joinE; rw [if_neg g1, if_pos (by rw [hl.1]; omega)]
      have e2 : joinS l q = [] := by unfold joinS; rw [e]; rfl
      rw [e, e2]; exact h14 q (by omega) (by omega) g2
    · obtain ⟨b, off, rfl, _, _⟩ := hl.2.1.2 (by omega)
      cases l with
      | nil => have := hl.1; simp at this; omega
      | cons s r =>
        have hll := hl.1
        by_cases g3 : chkE s.n [] (s :: r) = 0
        · have e : joinE (s :: r) q = okE (allJ (s :: r) q s.n) := by
            unfold joinE
            rw [if_neg g1, if_neg (by rw [hll]; omega)]
            show (if chkE s.n [] (s :: r) ≠ 0 then _ else if allJ (s :: r) (q : Int).toNat s.n then (0 : Int) else 19) = _
            rw [if_neg (by simpa using g3)]; rfl
          have e2 : joinS (s :: r) q = okS (allJ (s :: r) q s.n) (secJ (s :: r) q s.n) := by
            unfold joinS
            rw [e]
            show (if okE (allJ (s :: r) q s.n) = 0 then secJ (s :: r) (q : Int).toNat s.n else []) = _
            cases allJ (s :: r) q s.n <;> rfl
          rw [e, e2]; exact hok b off q s.n (s :: r) (by omega) (by omega) hnc (by omega) hl g3
        · have e : joinE (s :: r) q = chkE s.n [] (s :: r) := by
            unfold joinE
            rw [if_neg g1, if_neg (by rw [hll]; omega)]
            show (if chkE s.n [] (s :: r) ≠ 0 then _ else _) = _
            rw [if_pos g3]; rfl
          have e2 : joinS (s :: r) q = [] := by unfold joinS; rw [e, if_neg g3]
          rw [e, e2]; exact hchk b off q s r (by omega) (by omega) (by omega) (by omega) hl g3
theorem Join_any (A : Option Addr) (n c : Nat) (k : Int) (l : List ShareV) (w : World) (hn : n ≤ 1000000) (hnc : n ≤ c) (hl : ShR w w.heap.size A n l) :
    Calls Tryz.prog 16 #[.slice A n c, .int .i64 k] w (RetES w (joinE l k) (joinS l k)) :=
  join_main (P := fun _ _ _ _ => True) hn hnc hl (fun h => Join_3 A n c k w h) (fun q a b d => Join_14 A n c q w a b d) (fun b off q s r a1 a2 a3 a4 a5 a6 => Join_chk b off n c q s r w a1 a2 a3 a4 a5 a6) (fun b off q len l a1 a2 a3 a4 a5 a6 => Join_ok b off n c q len l w a1 a2 a3 a4 a5 a6)
end Go.Proofs.YtecndceekgaglaaGreat
