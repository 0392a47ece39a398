/- Plain mathematics: the polynomial through some points, by Newton's steps (the program) and by Lagrange's sum (the document). No program is in sight. -/
import Derived.Test.YthmooplhhkafcaaPoly
namespace Go.Proofs.Ythmooplhhkafcaa
set_option linter.unusedVariables false
/-- The product of all (x ^^^ place). -/
def prodX : List Nat → Nat → Nat
  | [], _ => 1
  | r :: rs, x => gm 8 (prodX rs x) (x ^^^ r)
theorem prodX_lt : ∀ (rs : List Nat) (x : Nat), prodX rs x < 256
  | [], _ => by show 1 < 256; decide
  | r :: rs, x => gm8_lt (prodX_lt rs x)
theorem prodX_zero : ∀ {rs : List Nat} {x : Nat}, x ∈ rs → prodX rs x = 0
  | r :: rs, x, h => by
    rcases List.mem_cons.1 h with rfl | h
    · rw [prodX, Nat.xor_self, gm_zero isW8]
    · rw [prodX, prodX_zero h, zero_gm isW8]
theorem prodX_ne : ∀ {rs : List Nat} {x : Nat}, Bytes rs → x < 256 → x ∉ rs → prodX rs x ≠ 0
  | [], _, _, _, _ => by show 1 ≠ 0; decide
  | r :: rs, x, hb, hx, h => fun h0 => by
    rcases gm_eq_zero isW8 (prodX_lt rs x) (xor8_lt hx hb.head) h0 with h1 | h1
    · exact prodX_ne hb.tail hx (fun hm => h (by simp [hm])) h1
    · exact h (by rw [eq_of_xor_zero h1]; simp)
theorem prodX_snoc : ∀ (rs : List Nat) (r x : Nat), Bytes rs → x < 256 → r < 256 → prodX (rs ++ [r]) x = gm 8 (prodX rs x) (x ^^^ r)
  | [], r, x, _, _, _ => rfl
  | s :: rs, r, x, hb, hx, hr => by
    rw [List.cons_append, prodX, prodX_snoc rs r x hb.tail hx hr, prodX]
    have h1 := prodX_lt rs x
    have h2 := xor8_lt hx hb.head
    have h3 := xor8_lt hx hr
    rw [gm_assoc isW8 h1 h3 h2, gm_assoc isW8 h1 h2 h3, gm_comm isW8 h3 h2]
/-- A step of the program: the polynomial times (X + x), cut to as many coefficients. -/
def upN (nodes : List Nat) (x : Nat) : List Nat := addP (0 :: nodes.take (nodes.length - 1)) (mulP nodes x)
def stepO (out nodes : List Nat) (x y : Nat) : List Nat := addP out (mulP (nodes.take (nodes.length - 1)) (gm 8 (y ^^^ valF out x) (inv 8 (valF nodes x))))
/-- The program's rounds over the points. -/
def newton : List (Nat × Nat) → List Nat → List Nat → List Nat
  | [], out, _ => out
  | (x, y) :: r, out, nodes => newton r (stepO out nodes x y) (upN nodes x)
def throughN (ps : List (Nat × Nat)) : List Nat := newton ps (List.replicate ps.length 0) (1 :: List.replicate ps.length 0)
theorem upN_len {nodes : List Nat} (h : 0 < nodes.length) (x : Nat) : (upN nodes x).length = nodes.length := by
  unfold upN; rw [addP_len _ _ (by simp [mulP_len]; omega)]; simp; omega
theorem upN_bytes {nodes : List Nat} (h : Bytes nodes) (x : Nat) : Bytes (upN nodes x) := addP_bytes (Bytes.cons (by decide) (h.take _)) (mulP_bytes h x)
theorem stepO_len {out nodes : List Nat} (h : nodes.length = out.length + 1) (x y : Nat) : (stepO out nodes x y).length = out.length := by
  unfold stepO; rw [addP_len _ _ (by simp [mulP_len, h])]
theorem stepO_bytes {out nodes : List Nat} (h : Bytes out) (h' : Bytes nodes) (x y : Nat) : Bytes (stepO out nodes x y) := addP_bytes h (mulP_bytes (h'.take _) _)
/-- The last coefficient, if it is 0, may be cut. -/
theorem valF_cut {p : List Nat} (h : 0 < p.length) (h0 : p[p.length - 1]'(by omega) = 0) (x : Nat) : valF (p.take (p.length - 1)) x = valF p x := by
  have e : p = p.take (p.length - 1) ++ List.replicate 1 0 := by
    have h1 := List.take_succ_eq_append_getElem (l := p) (i := p.length - 1) (by omega)
    rw [show p.length - 1 + 1 = p.length by omega, List.take_length, h0] at h1
    exact h1
  conv => rhs; rw [e]
  rw [valF_pad]
/-- What holds of the program's lists behind the places rs (n places in all). -/
structure NewtonI (n : Nat) (rs : List (Nat × Nat)) (out nodes : List Nat) : Prop where
  lo : out.length = n
  ln : nodes.length = n + 1
  bo : Bytes out
  bn : Bytes nodes
  hi : ∀ j (h : j < nodes.length), rs.length < j → nodes[j] = 0
  val : ∀ x, x < 256 → valF nodes x = prodX (rs.map (·.1)) x
  hit : ∀ p ∈ rs, valF out p.1 = p.2
theorem NewtonI.start (n : Nat) : NewtonI n [] (List.replicate n 0) (1 :: List.replicate n 0) where
  lo := by simp
  ln := by simp
  bo := Bytes.zeros n
  bn := Bytes.cons (by decide) (Bytes.zeros n)
  hi := fun j h h0 => by
    obtain ⟨k, rfl⟩ : ∃ k, j = k + 1 := ⟨j - 1, by simp at h0; omega⟩
    simp
  val := fun x _ => by rw [valF_cons, valF_zeros, zero_gm isW8]; rfl
  hit := fun _ h => by cases h
def PtB (ps : List (Nat × Nat)) : Prop := ∀ p ∈ ps, p.1 < 256 ∧ p.2 < 256
theorem PtB.fst {ps : List (Nat × Nat)} (h : PtB ps) : Bytes (ps.map (·.1)) := fun y hy => by
  obtain ⟨p, hp, rfl⟩ := List.mem_map.1 hy; exact (h p hp).1
theorem NewtonI.step {n : Nat} {rs : List (Nat × Nat)} {out nodes : List Nat} (I : NewtonI n rs out nodes) (hr : rs.length < n) (hb : PtB rs) {x y : Nat} (hx : x < 256) (hy : y < 256) (hn : x ∉ rs.map (·.1)) :
    NewtonI n (rs ++ [(x, y)]) (stepO out nodes x y) (upN nodes x) := by
  have hl : nodes.length = out.length + 1 := by rw [I.lo, I.ln]
  have hcut : ∀ z, valF (nodes.take (nodes.length - 1)) z = valF nodes z := fun z => valF_cut (by rw [I.ln]; omega) (I.hi _ _ (by rw [I.ln]; omega)) z
  have hz : ∀ z, z < 256 → valF (stepO out nodes x y) z = valF out z ^^^ gm 8 (valF nodes z) (gm 8 (y ^^^ valF out x) (inv 8 (valF nodes x))) := fun z hz => by
    unfold stepO
    rw [addP_val I.bo (mulP_bytes (I.bn.take _) _) (by simp [mulP_len, hl]), mulP_val (I.bn.take _) (gm8_lt (xor8_lt hy (valF_lt I.bo x))) hz, hcut]
  refine ⟨by rw [stepO_len hl]; exact I.lo, by rw [upN_len (by omega)]; exact I.ln, stepO_bytes I.bo I.bn x y, upN_bytes I.bn x, ?_, ?_, ?_⟩
  · intro j h hj
    rw [upN_len (by omega)] at h
    simp only [List.length_append, List.length_cons, List.length_nil] at hj
    obtain ⟨k, rfl⟩ : ∃ k, j = k + 1 := ⟨j - 1, by omega⟩
    have h1 := I.hi (k + 1) h (by omega)
    have h2 := I.hi k (by omega) (by omega)
    simp [upN, addP, mulP, h1, h2, zero_gm isW8]
  · intro z hz2
    unfold upN
    rw [addP_val (Bytes.cons (by decide) (I.bn.take _)) (mulP_bytes I.bn x) (by simp [mulP_len]; omega), mulP_val I.bn hx hz2, valF_cons, hcut, Nat.xor_zero, I.val z hz2, List.map_append, List.map_cons, List.map_nil, prodX_snoc _ _ _ hb.fst hz2 hx]
    exact (gm_xor_right isW8 (prodX_lt _ _)).symm
  · intro p hp
    rcases List.mem_append.1 hp with hp | hp
    · rw [hz p.1 (hb p hp).1, I.hit p hp, I.val _ (hb p hp).1, prodX_zero (List.mem_map.2 ⟨p, hp, rfl⟩), zero_gm isW8, Nat.xor_zero]
    · rw [List.mem_singleton.1 hp]
      show valF _ x = y
      rw [hz x hx]
      have hv := valF_lt I.bo x
      have hw : valF nodes x < 256 := valF_lt I.bn x
      have hne : valF nodes x ≠ 0 := by rw [I.val x hx]; exact prodX_ne hb.fst hx hn
      have hc := xor8_lt hy hv
      have hi := inv_lt isW8 (valF nodes x)
      rw [gm_comm isW8 hc hi, ← gm_assoc isW8 hw hi hc, gm_inv isW8 hw hne, one_gm isW8 hc, Nat.xor_comm y, ← Nat.xor_assoc, Nat.xor_self, Nat.zero_xor]
theorem newton_through : ∀ (ps rs : List (Nat × Nat)) (out nodes : List Nat) (n : Nat), NewtonI n rs out nodes → n = rs.length + ps.length → PtB (rs ++ ps) → ((rs ++ ps).map (·.1)).Nodup →
    (newton ps out nodes).length = n ∧ Bytes (newton ps out nodes) ∧ ∀ p ∈ rs ++ ps, valF (newton ps out nodes) p.1 = p.2
  | [], rs, out, nodes, n, I, hn, hb, hd => ⟨I.lo, I.bo, fun p hp => I.hit p (by simpa using hp)⟩
  | (x, y) :: ps, rs, out, nodes, n, I, hn, hb, hd => by
    have hxy := hb (x, y) (by simp)
    have e : rs ++ (x, y) :: ps = (rs ++ [(x, y)]) ++ ps := by simp
    have hnx : x ∉ rs.map (·.1) := fun hm => by
      rw [List.map_append, List.map_cons] at hd
      exact (List.nodup_append.1 hd).2.2 x hm x (List.mem_cons_self ..) rfl
    have I' := I.step (by simp only [List.length_cons] at hn; omega) (fun p hp => hb p (List.mem_append_left _ hp)) hxy.1 hxy.2 hnx
    rw [e] at hb hd ⊢
    exact newton_through ps _ _ _ n I' (by simp only [List.length_append, List.length_cons, List.length_nil] at hn ⊢; omega) hb hd
/-- The program's polynomial: as many coefficients as points, and their values. -/
theorem throughN_hits {ps : List (Nat × Nat)} (hb : PtB ps) (hd : (ps.map (·.1)).Nodup) : (throughN ps).length = ps.length ∧ Bytes (throughN ps) ∧ ∀ p ∈ ps, valF (throughN ps) p.1 = p.2 :=
  newton_through ps [] _ _ ps.length (NewtonI.start _) (by simp) hb hd
/-- The one polynomial with as many coefficients as points. -/
theorem throughN_unique {ps : List (Nat × Nat)} (hb : PtB ps) (hd : (ps.map (·.1)).Nodup) {q : List Nat} (hq : Bytes q) (hl : q.length = ps.length) (h : ∀ p ∈ ps, valF q p.1 = p.2) : q = throughN ps := by
  obtain ⟨h1, h2, h3⟩ := throughN_hits hb hd
  refine poly_unique hq h2 (by omega) hd (by simp; omega) fun r hr => ?_
  obtain ⟨p, hp, rfl⟩ := List.mem_map.1 hr
  exact ⟨(hb p hp).1, by rw [h p hp, h3 p hp]⟩
/-- A step of the document: the polynomial times (X + c), one coefficient more. -/
def timesP (p : List Nat) (c : Nat) : List Nat := addP (0 :: p) (mulP p c ++ [0])
theorem timesP_len (p : List Nat) (c : Nat) : (timesP p c).length = p.length + 1 := by unfold timesP; rw [addP_len _ _ (by simp [mulP_len])]; simp
theorem timesP_bytes {p : List Nat} (h : Bytes p) (c : Nat) : Bytes (timesP p c) := addP_bytes (Bytes.cons (by decide) h) (Bytes.append (mulP_bytes h c) (Bytes.zeros 1))
theorem timesP_val {p : List Nat} (h : Bytes p) {c x : Nat} (hc : c < 256) (hx : x < 256) : valF (timesP p c) x = gm 8 (valF p x) (x ^^^ c) := by
  unfold timesP
  rw [show mulP p c ++ [0] = mulP p c ++ List.replicate 1 0 from rfl, addP_val (Bytes.cons (by decide) h) (Bytes.append (mulP_bytes h c) (Bytes.zeros 1)) (by simp [mulP_len]), valF_cons, Nat.xor_zero, valF_pad, mulP_val h hc hx]
  exact (gm_xor_right isW8 (valF_lt h x)).symm
/-- The document's product over the places but one, and the number under it. -/
def lagP (rs : List Nat) : List Nat := rs.foldl timesP [1]
def lagU (x : Nat) (rs : List Nat) : Nat := rs.foldl (fun u r => gm 8 u (x ^^^ r)) 1
theorem lagP_snoc (rs : List Nat) (r : Nat) : lagP (rs ++ [r]) = timesP (lagP rs) r := by simp [lagP, List.foldl_append]
theorem lagU_snoc (x : Nat) (rs : List Nat) (r : Nat) : lagU x (rs ++ [r]) = gm 8 (lagU x rs) (x ^^^ r) := by simp [lagU, List.foldl_append]
theorem lagU_lt (x : Nat) (rs : List Nat) : lagU x rs < 256 := by
  induction rs using snoc_ind with
  | h0 => show 1 < 256; decide
  | h1 rs r ih => rw [lagU_snoc]; exact gm8_lt ih
theorem lagP_all (rs : List Nat) : Bytes rs → (lagP rs).length = rs.length + 1 ∧ Bytes (lagP rs) ∧ ∀ x, x < 256 → valF (lagP rs) x = prodX rs x ∧ lagU x rs = prodX rs x := by
  induction rs using snoc_ind with
  | h0 => intro _; exact ⟨rfl, Bytes.cons (by decide) Bytes.nil, fun x _ => ⟨by simp [lagP, valF, zero_gm isW8, prodX], rfl⟩⟩
  | h1 rs r ih =>
    intro hb
    have hb1 : Bytes rs := fun y hy => hb y (by simp [hy])
    have hr : r < 256 := hb r (by simp)
    obtain ⟨h1, h2, h3⟩ := ih hb1
    rw [lagP_snoc]
    refine ⟨by rw [timesP_len, h1]; simp, timesP_bytes h2 r, fun x hx => ?_⟩
    rw [timesP_val h2 hr hx, lagU_snoc, prodX_snoc _ _ _ hb1 hx hr, (h3 x hx).1, (h3 x hx).2]
    exact ⟨rfl, rfl⟩
/-- The document's polynomial: a sum over the points. -/
def others (ps : List (Nat × Nat)) (i : Nat) : List Nat := (ps.eraseIdx i).map (·.1)
def lagC (ps : List (Nat × Nat)) (i : Nat) (p : Nat × Nat) : Nat := gm 8 p.2 (inv 8 (lagU p.1 (others ps i)))
def lagS (ps : List (Nat × Nat)) : Nat → List Nat
  | 0 => List.replicate ps.length 0
  | i + 1 => addP (lagS ps i) (mulP (lagP (others ps i)) (lagC ps i (ps.getD i (0, 0))))
def throughL (ps : List (Nat × Nat)) : List Nat := lagS ps ps.length
theorem others_bytes {ps : List (Nat × Nat)} (hb : PtB ps) (i : Nat) : Bytes (others ps i) := fun y hy => by
  obtain ⟨p, hp, rfl⟩ := List.mem_map.1 hy
  exact (hb p (List.mem_of_mem_eraseIdx hp)).1
theorem others_len {ps : List (Nat × Nat)} {i : Nat} (h : i < ps.length) : (others ps i).length = ps.length - 1 := by simp [others, List.length_eraseIdx, h]
theorem lagC_lt (ps : List (Nat × Nat)) (i : Nat) {p : Nat × Nat} (h : p.2 < 256) : lagC ps i p < 256 := gm8_lt h
theorem lagS_all {ps : List (Nat × Nat)} (hb : PtB ps) : ∀ i, i ≤ ps.length → (lagS ps i).length = ps.length ∧ Bytes (lagS ps i)
  | 0, _ => ⟨by simp [lagS], Bytes.zeros _⟩
  | i + 1, h => by
    obtain ⟨h1, h2⟩ := lagS_all hb i (by omega)
    obtain ⟨h3, h4, _⟩ := lagP_all (others ps i) (others_bytes hb i)
    rw [lagS]
    exact ⟨by rw [addP_len _ _ (by rw [mulP_len, h1, h3, others_len (by omega)]; omega)]; exact h1, addP_bytes h2 (mulP_bytes h4 _)⟩
theorem others_mem {ps : List (Nat × Nat)} {i j : Nat} (hj : j < ps.length) (h : j ≠ i) : (ps[j]).1 ∈ others ps i := by
  refine List.mem_map.2 ⟨ps[j], ?_, rfl⟩
  rw [List.mem_eraseIdx_iff_getElem]
  exact ⟨j, hj, h, rfl⟩
theorem others_not {ps : List (Nat × Nat)} {i : Nat} (hi : i < ps.length) (hd : (ps.map (·.1)).Nodup) : (ps[i]).1 ∉ others ps i := fun h => by
  obtain ⟨p, hp, he⟩ := List.mem_map.1 h
  obtain ⟨j, hj, hne, rfl⟩ := (List.mem_eraseIdx_iff_getElem).1 hp
  have hp := List.pairwise_iff_getElem.1 hd
  rcases Nat.lt_or_gt_of_ne hne with h1 | h1
  · exact hp j i (by simpa using hj) (by simpa using hi) h1 (by simpa using he)
  · exact hp i j (by simpa using hi) (by simpa using hj) h1 (by simpa using he.symm)
theorem lagS_val {ps : List (Nat × Nat)} (hb : PtB ps) (hd : (ps.map (·.1)).Nodup) {j : Nat} (hj : j < ps.length) : ∀ i, i ≤ ps.length → valF (lagS ps i) (ps[j]).1 = if j < i then (ps[j]).2 else 0
  | 0, _ => by rw [lagS, valF_zeros]; simp
  | i + 1, h => by
    obtain ⟨h1, h2⟩ := lagS_all hb i (by omega)
    obtain ⟨h3, h4, h5⟩ := lagP_all (others ps i) (others_bytes hb i)
    have hjb := hb _ (List.getElem_mem hj)
    have hib := hb _ (List.getElem_mem (show i < ps.length by omega))
    have hg : ps.getD i (0, 0) = ps[i] := by simp [List.getD, List.getElem?_eq_getElem (show i < ps.length by omega)]
    rw [lagS, hg, addP_val h2 (mulP_bytes h4 _) (by rw [mulP_len, h1, h3, others_len (by omega)]; omega), mulP_val h4 (lagC_lt ps i hib.2) hjb.1, lagS_val hb hd hj i (by omega), (h5 _ hjb.1).1]
    by_cases hji : j = i
    · subst hji
      rw [if_neg (by omega), if_pos (by omega), Nat.zero_xor]
      unfold lagC
      rw [(h5 _ hjb.1).2]
      have hu := prodX_lt (others ps j) (ps[j]).1
      have hne := prodX_ne (others_bytes hb j) hjb.1 (others_not hj hd)
      rw [gm_comm isW8 hjb.2 (inv_lt isW8 _), ← gm_assoc isW8 hu (inv_lt isW8 _) hjb.2, gm_inv isW8 hu hne, one_gm isW8 hjb.2]
    · rw [prodX_zero (others_mem hj hji), zero_gm isW8, Nat.xor_zero]
      by_cases h6 : j < i
      · rw [if_pos h6, if_pos (by omega)]
      · rw [if_neg h6, if_neg (by omega)]
/-- Both polynomials are the same. -/
theorem through_eq {ps : List (Nat × Nat)} (hb : PtB ps) (hd : (ps.map (·.1)).Nodup) : throughL ps = throughN ps := by
  obtain ⟨h1, h2⟩ := lagS_all hb ps.length (Nat.le_refl _)
  refine throughN_unique hb hd h2 h1 fun p hp => ?_
  obtain ⟨j, hj, rfl⟩ := List.getElem_of_mem hp
  have := lagS_val hb hd hj ps.length (Nat.le_refl _)
  rw [if_pos hj] at this
  exact this
end Go.Proofs.Ythmooplhhkafcaa
