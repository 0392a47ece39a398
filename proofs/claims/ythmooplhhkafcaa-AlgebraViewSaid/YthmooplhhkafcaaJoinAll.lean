/- Join of the program and of the reference in one form; both say the same of lists with the same views. Conditions: as each statement says. -/
import Derived.Test.YthmooplhhkafcaaJoinRef2
namespace Go.Proofs.Ythmooplhhkafcaa
open Go.RowKit
set_option linter.unusedVariables false
def canon (s : ShareV) : ShareV := ⟨s.X, none, s.Y.length, 0, s.Y⟩
def ShLen (l : List ShareV) : Prop := ∀ s ∈ l, s.Y.length = s.n
theorem chkE_canon (len : Nat) : ∀ (l : List ShareV) (seen : List Nat), ShLen l → chkE len seen (l.map canon) = chkE len seen l
  | [], _, _ => rfl
  | s :: r, seen, h => by
    rw [List.map_cons, chkE_cons, chkE_cons, chkE_canon len r _ (fun t ht => h t (by simp [ht]))]
    show (if s.X < 1 ∨ 16 < s.X then 2 else if s.X ∈ seen then 10 else if s.Y.length ≠ len then 22 else if 256 < len then 4 else chkE len (s.X :: seen) r) = _
    rw [h s (by simp)]
theorem ptsJ_canon (l : List ShareV) (k j : Nat) : ptsJ (l.map canon) k j = ptsJ l k j := by unfold ptsJ; rw [← List.map_take, List.map_map]; rfl
theorem polyJ_canon (l : List ShareV) (k j : Nat) : polyJ (l.map canon) k j = polyJ l k j := by unfold polyJ; rw [ptsJ_canon]
theorem okJ_canon (l : List ShareV) (k j : Nat) : okJ (l.map canon) k j = okJ l k j := by unfold okJ; rw [← List.map_drop, List.all_map, polyJ_canon]; rfl
theorem allJ_canon (l : List ShareV) (k m : Nat) : allJ (l.map canon) k m = allJ l k m := by
  unfold allJ; congr 1; funext j; exact okJ_canon l k j
theorem secJ_canon (l : List ShareV) (k m : Nat) : secJ (l.map canon) k m = secJ l k m := by
  unfold secJ; apply List.map_congr_left; intro j _; rw [polyJ_canon]
theorem head_canon (l : List ShareV) (h : ShLen l) : ((l.map canon).headD ⟨0, none, 0, 0, []⟩).n = (l.headD ⟨0, none, 0, 0, []⟩).n := by
  cases l with
  | nil => rfl
  | cons s r => exact h s (by simp)
theorem joinE_canon (l : List ShareV) (k : Int) (h : ShLen l) : joinE (l.map canon) k = joinE l k := by
  unfold joinE; rw [head_canon l h, chkE_canon _ l _ h, allJ_canon, List.length_map]
theorem joinS_canon (l : List ShareV) (k : Int) (h : ShLen l) : joinS (l.map canon) k = joinS l k := by
  unfold joinS; rw [joinE_canon l k h, head_canon l h, secJ_canon]
theorem canon_view {l m : List ShareV} (h : l.map ShareV.view = m.map ShareV.view) : l.map canon = m.map canon := by
  have e : ∀ l : List ShareV, l.map canon = (l.map ShareV.view).map (fun p => (⟨p.1, none, p.2.length, 0, p.2⟩ : ShareV)) := fun l => by rw [List.map_map]; rfl
  rw [e, e, h]
theorem join_view {l m : List ShareV} (hl : ShLen l) (hm : ShLen m) (h : l.map ShareV.view = m.map ShareV.view) (k : Int) : joinE l k = joinE m k ∧ joinS l k = joinS m k := by
  rw [← joinE_canon l k hl, ← joinE_canon m k hm, ← joinS_canon l k hl, ← joinS_canon m k hm, canon_view h]
  exact ⟨rfl, rfl⟩
theorem ShR.lens {w : World} {B n : Nat} {A : Option Addr} {l : List ShareV} (h : ShR w B A n l) : ShLen l := fun s hs => (h.2.2 s hs).2.2.2.2.1
theorem join_main {P : (A : Option Addr) → Int → Ending → World → Prop} {A : Option Addr} {n : Nat} {k : Int} {l : List ShareV} {w : World} {f : FuncId} {c : Nat} (hn : n ≤ 1000000) (hnc : n ≤ c) (hl : ShR w w.heap.size A n l)
    (h3 : k < 1 ∨ 16 < k → Calls Try.prog f #[.slice A n c, .int .i64 k] w (RetES w 3 []))
    (h14 : ∀ q : Nat, 1 ≤ q → q ≤ 16 → n < q → Calls Try.prog f #[.slice A n c, .int .i64 q] w (RetES w 14 []))
    (hchk : ∀ (b off q : Nat) (s : ShareV) (r : List ShareV), 1 ≤ q → q ≤ 16 → n ≤ 1073741824 → q ≤ n → ShR w w.heap.size (some ⟨b, off, none⟩) n (s :: r) → chkE s.n [] (s :: r) ≠ 0 → Calls Try.prog f #[.slice (some ⟨b, off, none⟩) n c, .int .i64 q] w (RetES w (chkE s.n [] (s :: r)) []))
    (hok : ∀ (b off q len : Nat) (l : List ShareV), 1 ≤ q → q ≤ 16 → n ≤ c → q ≤ n → ShR w w.heap.size (some ⟨b, off, none⟩) n l → chkE len [] l = 0 → Calls Try.prog f #[.slice (some ⟨b, off, none⟩) n c, .int .i64 q] w (RetES w (okE (allJ l q len)) (okS (allJ l q len) (secJ l q len)))) :
    Calls Try.prog f #[.slice A n c, .int .i64 k] w (RetES w (joinE l k) (joinS l k)) := by
  by_cases g1 : k < 1 ∨ 16 < k
  · have e : joinE l k = 3 := by unfold joinE; rw [if_pos g1]
    have e2 : joinS l k = [] := by unfold joinS; rw [e]; rfl
    rw [e, e2]; exact h3 g1
  · obtain ⟨q, rfl⟩ := Int.eq_ofNat_of_zero_le (show 0 ≤ k by omega)
    by_cases g2 : n < q
    · have e : joinE l q = 14 := by unfold joinE; rw [if_neg g1, if_pos (by rw [hl.1]; omega)]
      have e2 : joinS l q = [] := by unfold joinS; rw [e]; rfl
      rw [e, e2]; exact h14 q (by omega) (by omega) g2
    · obtain ⟨b, off, rfl, _, _⟩ := hl.2.1.2 (by omega)
      cases l with
      | nil => have := hl.1; simp at this; omega
      | cons s r =>
        have hll := hl.1
        by_cases g3 : chkE s.n [] (s :: r) = 0
        · have e : joinE (s :: r) q = okE (allJ (s :: r) q s.n) := by
            unfold joinE
            rw [if_neg g1, if_neg (by rw [hll]; omega)]
            show (if chkE s.n [] (s :: r) ≠ 0 then _ else if allJ (s :: r) (q : Int).toNat s.n then (0 : Int) else 19) = _
            rw [if_neg (by simpa using g3)]; rfl
          have e2 : joinS (s :: r) q = okS (allJ (s :: r) q s.n) (secJ (s :: r) q s.n) := by
            unfold joinS
            rw [e]
            show (if okE (allJ (s :: r) q s.n) = 0 then secJ (s :: r) (q : Int).toNat s.n else []) = _
            cases allJ (s :: r) q s.n <;> rfl
          rw [e, e2]; exact hok b off q s.n (s :: r) (by omega) (by omega) hnc (by omega) hl g3
        · have e : joinE (s :: r) q = chkE s.n [] (s :: r) := by
            unfold joinE
            rw [if_neg g1, if_neg (by rw [hll]; omega)]
            show (if chkE s.n [] (s :: r) ≠ 0 then _ else _) = _
            rw [if_pos g3]; rfl
          have e2 : joinS (s :: r) q = [] := by unfold joinS; rw [e, if_neg g3]
          rw [e, e2]; exact hchk b off q s r (by omega) (by omega) (by omega) (by omega) hl g3
theorem Join_any (A : Option Addr) (n c : Nat) (k : Int) (l : List ShareV) (w : World) (hn : n ≤ 1000000) (hnc : n ≤ c) (hl : ShR w w.heap.size A n l) :
    Calls Try.prog 29 #[.slice A n c, .int .i64 k] w (RetES w (joinE l k) (joinS l k)) :=
  join_main (P := fun _ _ _ _ => True) hn hnc hl (fun h => Join_3 A n c k w h) (fun q a b d => Join_14 A n c q w a b d) (fun b off q s r a1 a2 a3 a4 a5 a6 => Join_chk b off n c q s r w a1 a2 a3 a4 a5 a6) (fun b off q len l a1 a2 a3 a4 a5 a6 => Join_ok b off n c q len l w a1 a2 a3 a4 a5 a6)
theorem refJoin_any (A : Option Addr) (n c : Nat) (k : Int) (l : List ShareV) (w : World) (hn : n ≤ 1000000) (hnc : n ≤ c) (hl : ShR w w.heap.size A n l) :
    Calls Try.prog 30 #[.slice A n c, .int .i64 k] w (RetES w (joinE l k) (joinS l k)) :=
  join_main (P := fun _ _ _ _ => True) hn hnc hl (fun h => refJoin_3 A n c k w h) (fun q a b d => refJoin_14 A n c q w a b d) (fun b off q s r a1 a2 a3 a4 a5 a6 => refJoin_chk b off n c q s r w a1 a2 a3 a4 a5 a6) (fun b off q len l a1 a2 a3 a4 a5 a6 => refJoin_ok b off n c q len l w a1 a2 a3 a4 a5 a6)
end Go.Proofs.Ythmooplhhkafcaa
