/- Deliver. Conditions: as each statement says. -/
import Derived.Test.YtblilfbhohnbgaaGreatNet44
import Derived.Test.YtblilfbhohnbgaaGreatThruRef
namespace Go.Proofs.YtblilfbhohnbgaaGreat
open Go.RowKit
set_option linter.unusedVariables false
theorem ByRow.rd {w : World} {v : Value} {l : List Nat} (h : ByRow w v l) : ∃ b c, v = .slice (some ⟨b, 0, none⟩) l.length c ∧ l.length ≤ c ∧ Rd w w.heap.size 1 (some ⟨b, 0, none⟩) l.length (u8s l) := by
  obtain ⟨b, c, cs, h1, h2, h3, h4⟩ := h
  refine ⟨b, c, h1, h2, by simp [u8s], fun _ => ⟨b, 0, rfl, h3.lt, fun j u hu => ?_⟩⟩
  have hj : j < l.length := by
    have := (List.getElem?_eq_some_iff.1 hu).1
    simpa [u8s] using this
  rw [Nat.zero_add, h3.cell, h4 j hj, ← hu]
  simp [u8s, hj, List.getD_eq_getElem?_getD]
/-- A transfer in memory. -/
theorem SentsAt.at {w : World} {v : Value} {l : List SentM} (h : SentsAt w v l) {i : Nat} {x : SentM} (hx : l[i]? = some x) : ∃ g c pv sv, v = .slice (some ⟨g, 0, none⟩) l.length c ∧ g < w.heap.size ∧
    w.cell? ⟨g, i * 5, none⟩ = some (.int .i64 x.id) ∧ w.cell? ⟨g, i * 5 + 1, none⟩ = some (.int .i64 x.need) ∧ w.cell? ⟨g, i * 5 + 2, none⟩ = some (.int .i64 x.len) ∧ w.cell? ⟨g, i * 5 + 3, none⟩ = some pv ∧ w.cell? ⟨g, i * 5 + 4, none⟩ = some sv ∧ NmRows w pv x.paths ∧ ShRows w sv x.shares := by
  obtain ⟨vals, h1, h2⟩ := h
  obtain ⟨pv, sv, q0, q1, q2, q3, q4, q5, q6⟩ := h2 i x hx
  have hi : i < l.length := (List.getElem?_eq_some_iff.1 hx).1
  rcases h1.2 with ⟨_, e⟩ | ⟨g, cap, cur, rfl, _, hh, hcap, _, _, htk⟩
  · omega
  · have hc : ∀ (j : Nat) (u : Value), vals[j]? = some u → w.cell? ⟨g, j, none⟩ = some u := fun j u hu => by
      have hj : j < l.length * 5 := by
        have := (List.getElem?_eq_some_iff.1 hu).1
        have := h1.1
        omega
      rw [Bk.cell (show Bk w g cur 102 from hh), ← hu, ← htk, List.getElem?_take, if_pos hj, Array.getElem?_toList]
    exact ⟨g, cap, pv, sv, rfl, (Array.getElem?_eq_some_iff.1 hh).1, hc _ _ q0, hc _ _ q1, hc _ _ q2, hc _ _ q3, hc _ _ q4, q5, q6⟩
theorem RetES.of {w0 w w' : World} {E : Int} {S : List Nat} {e : Ending} (h : RetES w E S e w') (hb : Below w0.heap.size w0 w) : RetES w0 E S e w' := by
  obtain ⟨A, n, c, h1, h2, h3, h4, h5⟩ := h
  exact ⟨A, n, c, h1, h2, h3, h4, bnextK hb h5⟩
theorem rdS_at {w : World} {B n : Nat} {A : Option Addr} {l : List Nm} (h : Rd w B 1 A n (l.map encS)) {k : Nat} (hk : k < n) : ∃ b off, A = some ⟨b, off, none⟩ ∧ b < B ∧ w.cell? ⟨b, off + k, none⟩ = some (encS (l.getD k [])) := by
  have hln : l.length = n := by have := h.1; simpa using this
  obtain ⟨b, off, e, hb, hc⟩ := h.2 (by omega)
  exact ⟨b, off, e, hb, hc k _ (by rw [List.getElem?_map, List.getElem?_eq_getElem (by omega), List.getD_eq_getElem?_getD, List.getElem?_eq_getElem (by omega)]; rfl)⟩
theorem mem_getD {l : List Nm} {x : Nm} (P : Nm → Bool) : (l.any P = true) ↔ ∃ k, k < l.length ∧ P (l.getD k []) = true := by
  rw [List.any_eq_true]
  constructor
  · rintro ⟨x, hx, hp⟩
    obtain ⟨k, hk, rfl⟩ := List.getElem_of_mem hx
    exact ⟨k, hk, by rw [List.getD_eq_getElem?_getD, List.getElem?_eq_getElem hk]; exact hp⟩
  · rintro ⟨k, hk, hp⟩
    refine ⟨l[k], List.getElem_mem hk, ?_⟩
    rw [List.getD_eq_getElem?_getD, List.getElem?_eq_getElem hk] at hp
    exact hp
theorem any_yes {l : List Nm} {P : Nm → Bool} {k : Nat} (hk : k < l.length) (h : P (l.getD k []) = true) : l.any P = true := (mem_getD (x := []) P).2 ⟨k, hk, h⟩
theorem any_no {l : List Nm} {P : Nm → Bool} (h : ∀ k, k < l.length → P (l.getD k []) = false) : l.any P = false := by
  rw [← Bool.not_eq_true, mem_getD (x := []) P]
  rintro ⟨k, hk, hp⟩
  rw [h k hk] at hp
  cases hp
def IdxS (q : Bool) (w : World) (e : Ending) (w' : World) : Prop := (∃ r : Int, e = .returned (.int .i64 r) ∧ decide (0 ≤ r) = q) ∧ w = w'
set_option maxHeartbeats 1000000 in
theorem index_nm (A : Option Addr) (n c : Nat) (l : List Nm) (x : Nm) (w : World) (B : Nat) (hn : n ≤ 1000000) (hr : Rd w B 1 A n (l.map encS)) :
    Calls Tryz.prog 75 #[.slice A n c, encS x] w (IdxS (l.any fun y => decide (x = y)) w) := by
  have hln : l.length = n := by have := hr.1; simpa using this
  have HR := Lib.hid hr
  have heq := fun y => eq_str x y
  clear hr
  go_enter Tryz.func75, Tryz.ntmps75
  go_wp2_with fail
  go_loopw [5, 8] (fun _ i wr => ∃ k : Nat, k ≤ n ∧ i = .int .i64 k ∧ w = wr ∧ ∀ j, j < k → decide (x = l.getD j []) = false) (fun _ i _ => n - (intOf i).toNat)
  case atStart => exact ⟨0, Nat.zero_le _, rfl, rfl, fun j hj => absurd hj (Nat.not_lt_zero _)⟩
  case round =>
    obtain ⟨k, hk, rfl, rfl, hne⟩ := hrel
    have HNE := Lib.hid hne; clear hne
    by_cases hlt : k < n
    · have hki : (k : Int) < (n : Int) := by omega
      obtain ⟨b, off, rfl, _, hcell⟩ := rdS_at HR.out hlt
      have HY : Hid (decide (x = l.getD k []) = true → (l.any fun y => decide (x = y)) = true) := Lib.hid (any_yes (P := fun y => decide (x = y)) (by omega))
      have HN : Hid (decide (x = l.getD k []) = false → ∀ j, j < k + 1 → decide (x = l.getD j []) = false) := Lib.hid (fun e j hj => by
        rcases Nat.lt_or_ge j k with h2 | h2
        · exact HNE.out j h2
        · obtain rfl : j = k := by omega
          exact e)
      generalize l.getD k [] = y at hcell HY HN
      have hq := heq y
      clear heq
      by_cases he : x = y
      · rw [decide_eq_true he] at HY HN
        have e1 : (x == y) = true := by simp [he]
        have HY2 := Lib.hid (HY.out rfl)
        clear HY HN he hq
        go_wp2_with fail
        go_ret
        exact ⟨⟨_, rfl, by rw [HY2.out]; simp⟩, rfl⟩
      · rw [decide_eq_false he] at HY HN
        have e1 : (x == y) = false := by simp [he]
        have HN2 := Lib.hid (HN.out rfl)
        clear HY HN he hq
        go_wp2_with fail
        go_roundw
        case rel => exact ⟨k + 1, by omega, by go_num, trivial, HN2.out⟩
        case measure => simp [intOf]; omega
    · have hki : ¬ (k : Int) < (n : Int) := by omega
      obtain rfl : k = n := by omega
      clear heq
      go_wp2_with fail
      go_ret
      exact ⟨⟨_, rfl, by rw [any_no (P := fun y => decide (x = y)) (fun j hj => HNE.out j (by omega))]; rfl⟩, rfl⟩
theorem any_mem (l : List Nm) (x : Nm) : (l.any fun y => decide (x = y)) = decide (x ∈ l) := by
  by_cases h : x ∈ l
  · rw [decide_eq_true h, List.any_eq_true]; exact ⟨x, h, by simp⟩
  · rw [decide_eq_false h, ← Bool.not_eq_true, List.any_eq_true]
    rintro ⟨y, hy, e⟩
    simp at e
    subst e
    exact h hy
theorem contains_nm (A : Option Addr) (n c : Nat) (l : List Nm) (x : Nm) (w : World) (B : Nat) (hn : n ≤ 1000000) (hr : Rd w B 1 A n (l.map encS)) :
    Calls Tryz.prog 54 #[.slice A n c, encS x] w fun e w' => e = .returned (.bool (decide (x ∈ l))) ∧ w = w' := by
  have H := Lib.hid (index_nm A n c l x w B hn hr)
  rw [any_mem] at H
  clear hr
  go_enter Tryz.func54, Tryz.ntmps54
  go_wp2_with fail
  refine H.out.mono ?_
  rintro e w' ⟨⟨r, rfl, hr⟩, rfl⟩
  have HR := Lib.hid hr
  clear hr
  go_wp2_with fail
  go_ret
  refine ⟨?_, rfl⟩
  rw [← HR.out]
  rfl
end Go.Proofs.YtblilfbhohnbgaaGreat
