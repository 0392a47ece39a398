/- Plain mathematics of AlgebraOrders: an order has each number once, a sample increases. No program is in sight. -/
import Derived.Test.YthmooplhhkafcaaPermMath
namespace Go.Proofs.Ythmooplhhkafcaa
set_option linter.unusedVariables false
theorem idL_nodup (n : Nat) : (idL n).Nodup := by
  unfold idL
  rw [List.nodup_iff_pairwise_ne, List.pairwise_map]
  exact (List.nodup_iff_pairwise_ne.1 List.nodup_range).imp fun h e => h (by omega)
theorem idL_mem {n : Nat} {x : Int} : x ∈ idL n ↔ 0 ≤ x ∧ x < n := by
  unfold idL
  rw [List.mem_map]
  constructor
  · rintro ⟨a, ha, rfl⟩; have := List.mem_range.1 ha; omega
  · rintro ⟨h1, h2⟩; exact ⟨x.toNat, List.mem_range.2 (by omega), by omega⟩
theorem permL_nodup (s n : Nat) : (permL s n).Nodup := (permL_perm s n).symm.nodup (idL_nodup n)
theorem permL_mem {s n : Nat} {x : Int} : x ∈ permL s n ↔ 0 ≤ x ∧ x < n := by rw [(permL_perm s n).mem_iff, idL_mem]
theorem permL_count (s n v : Nat) (hv : v < n) : (permL s n).count (v : Int) = 1 := by
  rw [(permL_perm s n).count_eq]
  exact List.Nodup.count (idL_nodup n) |>.trans (if_pos (idL_mem.2 ⟨by omega, by omega⟩))
/-- How often each number has been seen behind i of the numbers. -/
def seenL (l : List Int) (n i : Nat) : List Int := (List.range n).map fun v : Nat => ((l.take i).count (v : Int) : Int)
theorem seenL_len (l : List Int) (n i : Nat) : (seenL l n i).length = n := by simp [seenL]
theorem seenL_zero (l : List Int) (n : Nat) : seenL l n 0 = List.replicate n 0 := by
  apply List.ext_getElem
  · simp [seenL]
  · intro i h1 h2; simp [seenL]
theorem seenL_get (l : List Int) (n i v : Nat) (hv : v < n) : (seenL l n i).getD v 0 = ((l.take i).count (v : Int) : Int) := by
  simp [seenL, List.getD, hv]
theorem seenL_step (l : List Int) (n i q : Nat) (hi : i < l.length) (hq : l.getD i 0 = (q : Int)) (hqn : q < n) : (seenL l n i).set q ((seenL l n i).getD q 0 + 1) = seenL l n (i + 1) := by
  have hx : l[i] = (q : Int) := by rw [← hq]; simp [List.getD, List.getElem?_eq_getElem hi]
  apply List.ext_getElem
  · simp [seenL]
  · intro v h1 h2
    have hv : v < n := by simpa [seenL] using h2
    rw [List.getElem_set]
    simp only [seenL_get l n i q hqn]
    have e1 : l.take (i + 1) = l.take i ++ [l[i]] := List.take_succ_eq_append_getElem hi
    simp only [seenL, List.getElem_map, List.getElem_range, e1, List.count_append, hx]
    by_cases h : q = v
    · subst h; simp
    · rw [if_neg h]
      have : ¬ ((q : Int) = (v : Int)) := by omega
      simp [this]
theorem seenL_full (s n v : Nat) (hv : v < n) : (seenL (permL s n) n n).getD v 0 = 1 := by
  rw [seenL_get _ _ _ _ hv, List.take_of_length_le (by rw [permL_len]; omega), permL_count s n v hv]; rfl
def goneL (l : List Int) (i : Nat) : List Int := List.replicate i (-1) ++ l.drop i
theorem goneL_len (l : List Int) (i : Nat) (h : i ≤ l.length) : (goneL l i).length = l.length := by simp [goneL]; omega
theorem goneL_get (l : List Int) (i : Nat) (h : i < l.length) : (goneL l i).getD i 0 = l.getD i 0 := by
  unfold goneL List.getD
  rw [List.getElem?_append_right (by simp), List.length_replicate, Nat.sub_self, List.getElem?_drop, Nat.add_zero]
theorem goneL_step (l : List Int) (i : Nat) (h : i < l.length) : (goneL l i).set i (-1) = goneL l (i + 1) := by
  unfold goneL
  rw [List.set_append_right _ _ (by simp), List.length_replicate, Nat.sub_self, List.drop_eq_getElem_cons h, List.set_cons_zero, List.replicate_succ', List.append_assoc]
  rfl
def sampL (s n k : Nat) : List Int := ((permL s n).take k).mergeSort fun x y => decide (x ≤ y)
theorem sampL_len (s n k : Nat) (h : k ≤ n) : (sampL s n k).length = k := by rw [sampL, List.length_mergeSort, List.length_take, permL_len]; omega
theorem sampL_perm (s n k : Nat) : (sampL s n k).Perm ((permL s n).take k) := List.mergeSort_perm _ _
theorem sampL_mem {s n k : Nat} {x : Int} (h : x ∈ sampL s n k) : 0 ≤ x ∧ x < n := permL_mem.1 (List.mem_of_mem_take ((sampL_perm s n k).mem_iff.1 h))
theorem sampL_sorted (s n k : Nat) : (sampL s n k).Pairwise fun x y => x ≤ y := by
  have := List.pairwise_mergeSort (le := fun x y : Int => decide (x ≤ y)) (fun a b c h1 h2 => by simp at h1 h2 ⊢; omega) (fun a b => by simp; omega) ((permL s n).take k)
  exact this.imp (by intro a b h; simpa using h)
theorem sampL_nodup (s n k : Nat) : (sampL s n k).Nodup := (sampL_perm s n k).symm.nodup ((permL_nodup s n).sublist (List.take_sublist _ _))
theorem sampL_lt (s n k i : Nat) (hk : k ≤ n) (hi : i + 1 < k) : (sampL s n k).getD i 0 < (sampL s n k).getD (i + 1) 0 := by
  have hl := sampL_len s n k hk
  have h1 := List.pairwise_iff_getElem.1 (sampL_sorted s n k) i (i + 1) (by omega) (by omega) (by omega)
  have h2 := List.pairwise_iff_getElem.1 (List.nodup_iff_pairwise_ne.1 (sampL_nodup s n k)) i (i + 1) (by omega) (by omega) (by omega)
  simp only [List.getD, List.getElem?_eq_getElem (show i < (sampL s n k).length by omega), List.getElem?_eq_getElem (show i + 1 < (sampL s n k).length by omega), Option.getD_some]
  omega
theorem sampL_get {s n k i : Nat} (hk : k ≤ n) (hi : i < k) : 0 ≤ (sampL s n k).getD i 0 ∧ (sampL s n k).getD i 0 < n := by
  have hl := sampL_len s n k hk
  have : (sampL s n k).getD i 0 ∈ sampL s n k := by
    simp only [List.getD, List.getElem?_eq_getElem (show i < (sampL s n k).length by omega), Option.getD_some]
    exact List.getElem_mem _
  exact sampL_mem this
end Go.Proofs.Ythmooplhhkafcaa
