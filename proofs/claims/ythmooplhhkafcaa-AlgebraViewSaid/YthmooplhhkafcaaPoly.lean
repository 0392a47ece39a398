/- Plain mathematics: polynomials over the field of the width 8 (the lowest coefficient first): the division by (X + r), the number of roots, and that a polynomial is known by its values. No program is in sight. -/
import Derived.Test.YthmooplhhkafcaaGf
namespace Go.Proofs.Ythmooplhhkafcaa
set_option linter.unusedVariables false
theorem snoc_ind {α : Type} {P : List α → Prop} (h0 : P []) (h1 : ∀ l a, P l → P (l ++ [a])) (l : List α) : P l := by
  have h : ∀ r : List α, P r.reverse := by
    intro r
    induction r with
    | nil => exact h0
    | cons a r ih => rw [List.reverse_cons]; exact h1 _ _ ih
  have := h l.reverse
  rwa [List.reverse_reverse] at this
def Bytes (l : List Nat) : Prop := ∀ x ∈ l, x < 256
/-- The value of a polynomial. -/
def valF (p : List Nat) (x : Nat) : Nat := p.foldr (fun c v => gm 8 v x ^^^ c) 0
theorem valF_nil (x : Nat) : valF [] x = 0 := rfl
theorem valF_cons (c : Nat) (p : List Nat) (x : Nat) : valF (c :: p) x = gm 8 (valF p x) x ^^^ c := rfl
theorem Bytes.tail {c : Nat} {p : List Nat} (h : Bytes (c :: p)) : Bytes p := fun y hy => h y (by simp [hy])
theorem Bytes.head {c : Nat} {p : List Nat} (h : Bytes (c :: p)) : c < 256 := h c (by simp)
theorem Bytes.cons {c : Nat} {p : List Nat} (hc : c < 256) (h : Bytes p) : Bytes (c :: p) := fun y hy => by
  rcases List.mem_cons.1 hy with rfl | hy
  · exact hc
  · exact h y hy
theorem Bytes.nil : Bytes [] := fun _ h => by cases h
theorem Bytes.append {p q : List Nat} (hp : Bytes p) (hq : Bytes q) : Bytes (p ++ q) := fun y hy => by
  rcases List.mem_append.1 hy with h | h
  · exact hp y h
  · exact hq y h
theorem Bytes.take {p : List Nat} (hp : Bytes p) (k : Nat) : Bytes (p.take k) := fun y hy => hp y (List.mem_of_mem_take hy)
theorem Bytes.drop {p : List Nat} (hp : Bytes p) (k : Nat) : Bytes (p.drop k) := fun y hy => hp y (List.mem_of_mem_drop hy)
theorem Bytes.zeros (k : Nat) : Bytes (List.replicate k 0) := fun y hy => by rw [(List.mem_replicate.1 hy).2]; decide
theorem isW8 : IsW 8 := .inl rfl
theorem gm8_lt {a b : Nat} (ha : a < 256) : gm 8 a b < 256 := gm_lt isW8 ha
theorem xor8_lt {a b : Nat} (ha : a < 256) (hb : b < 256) : a ^^^ b < 256 := xor_lt (k := 8) ha hb
theorem valF_lt {p : List Nat} (hp : Bytes p) (x : Nat) : valF p x < 256 := by
  induction p with
  | nil => simp [valF]
  | cons c p ih => exact xor8_lt (gm8_lt (ih hp.tail)) hp.head
theorem valF_drop (p : List Nat) (x q : Nat) (h : q < p.length) : valF (p.drop q) x = gm 8 (valF (p.drop (q + 1)) x) x ^^^ p[q] := by
  rw [List.drop_eq_getElem_cons h]; rfl
theorem valF_zeros : ∀ (k x : Nat), valF (List.replicate k 0) x = 0
  | 0, _ => rfl
  | k + 1, x => by rw [List.replicate_succ, valF_cons, valF_zeros k x, zero_gm isW8]; rfl
/-- Zeros behind a polynomial change no value. -/
theorem valF_pad (p : List Nat) (k x : Nat) : valF (p ++ List.replicate k 0) x = valF p x := by
  induction p with
  | nil => rw [List.nil_append, valF_zeros]; rfl
  | cons c p ih => rw [List.cons_append, valF_cons, ih, valF_cons]
theorem valF_at0 (c : Nat) (p : List Nat) : valF (c :: p) 0 = c := by rw [valF_cons, gm_zero isW8, Nat.zero_xor]
/-- The sum of two polynomials of one length; a multiple. -/
def addP (p q : List Nat) : List Nat := List.zipWith (· ^^^ ·) p q
def mulP (p : List Nat) (c : Nat) : List Nat := p.map fun x => gm 8 x c
theorem addP_len (p q : List Nat) (h : p.length = q.length) : (addP p q).length = p.length := by simp [addP, h]
theorem mulP_len (p : List Nat) (c : Nat) : (mulP p c).length = p.length := by simp [mulP]
theorem addP_bytes {p q : List Nat} (hp : Bytes p) (hq : Bytes q) : Bytes (addP p q) := by
  induction p generalizing q with
  | nil => intro y hy; simp [addP] at hy
  | cons a p ih =>
    cases q with
    | nil => intro y hy; simp [addP] at hy
    | cons b q => exact Bytes.cons (xor8_lt hp.head hq.head) (ih hp.tail hq.tail)
theorem mulP_bytes {p : List Nat} (hp : Bytes p) (c : Nat) : Bytes (mulP p c) := fun y hy => by
  obtain ⟨x, hx, rfl⟩ := List.mem_map.1 hy
  exact gm8_lt (hp x hx)
theorem addP_val {p q : List Nat} (hp : Bytes p) (hq : Bytes q) (h : p.length = q.length) (x : Nat) : valF (addP p q) x = valF p x ^^^ valF q x := by
  induction p generalizing q with
  | nil => cases q with
    | nil => simp [addP, valF]
    | cons b q => simp at h
  | cons a p ih =>
    cases q with
    | nil => simp at h
    | cons b q =>
      show gm 8 (valF (addP p q) x) x ^^^ (a ^^^ b) = _
      rw [ih hp.tail hq.tail (by simpa using h), gm_xor_left isW8 (valF_lt hp.tail x) (valF_lt hq.tail x), valF_cons, valF_cons]
      exact xor4 _ _ _ _
theorem mulP_val {p : List Nat} (hp : Bytes p) {c x : Nat} (hc : c < 256) (hx : x < 256) : valF (mulP p c) x = gm 8 (valF p x) c := by
  induction p with
  | nil => rw [valF_nil, zero_gm isW8]; rfl
  | cons a p ih =>
    show gm 8 (valF (mulP p c) x) x ^^^ gm 8 a c = _
    rw [ih hp.tail, valF_cons, gm_xor_left isW8 (gm8_lt (valF_lt hp.tail x)) hp.head]
    congr 1
    have hv := valF_lt hp.tail x
    rw [gm_assoc isW8 hv hc hx, gm_assoc isW8 hv hx hc, gm_comm isW8 hc hx]
/-- The quotient by (X + r). -/
def quo : List Nat → Nat → List Nat
  | [], _ => []
  | [_], _ => []
  | _ :: p, r => valF p r :: quo p r
theorem quo_len : ∀ (p : List Nat) (r : Nat), (quo p r).length = p.length - 1
  | [], _ => rfl
  | [_], _ => rfl
  | _ :: b :: p, r => by simp [quo, quo_len (b :: p) r]
theorem quo_bytes : ∀ {p : List Nat} (hp : Bytes p) (r : Nat), Bytes (quo p r)
  | [], _, _ => Bytes.nil
  | [_], _, _ => Bytes.nil
  | _ :: b :: p, hp, r => Bytes.cons (valF_lt hp.tail r) (quo_bytes hp.tail r)
theorem xor_swap (a b c : Nat) : a ^^^ b ^^^ c = a ^^^ c ^^^ b := by rw [Nat.xor_assoc, Nat.xor_comm b, ← Nat.xor_assoc]
theorem quo_val : ∀ {p : List Nat} (hp : Bytes p) {r x : Nat} (hr : r < 256) (hx : x < 256), valF p x = gm 8 (valF (quo p r) x) (x ^^^ r) ^^^ valF p r
  | [], _, r, x, _, _ => by simp [quo, valF, zero_gm isW8]
  | [c], _, r, x, _, _ => by simp [quo, valF, zero_gm isW8]
  | c :: b :: p, hp, r, x, hr, hx => by
    have hp' := hp.tail
    have h1 := valF_lt hp' r
    have h2 := valF_lt (quo_bytes hp' r) x
    have hxr : x ^^^ r < 256 := xor8_lt hx hr
    have hq : quo (c :: b :: p) r = valF (b :: p) r :: quo (b :: p) r := rfl
    rw [hq, valF_cons c, quo_val hp' hr hx, valF_cons (valF (b :: p) r), valF_cons c]
    generalize valF (b :: p) r = v at h1 ⊢
    generalize valF (quo (b :: p) r) x = u at h2 ⊢
    rw [gm_xor_left isW8 (gm8_lt h2) h1, gm_xor_left isW8 (gm8_lt h2) h1, gm_xor_right isW8 h1 (b := x) (c := r)]
    rw [gm_assoc isW8 h2 hxr hx, gm_assoc isW8 h2 hx hxr, gm_comm isW8 hxr hx]
    generalize gm 8 u (gm 8 x (x ^^^ r)) = A
    generalize gm 8 v x = B
    generalize gm 8 v r = C
    rw [← Nat.xor_assoc (A ^^^ (B ^^^ C)), ← Nat.xor_assoc A, Nat.xor_assoc (A ^^^ B), Nat.xor_self, Nat.xor_zero]
def Zero (p : List Nat) : Prop := ∀ x ∈ p, x = 0
theorem quo_zero : ∀ {p : List Nat} {r : Nat}, Zero (quo p r) → valF p r = 0 → Zero p
  | [], _, _, _ => fun _ h => by cases h
  | [c], r, _, h => by
    intro x hx
    have : valF [c] r = c := by simp [valF, zero_gm isW8]
    rw [List.mem_singleton.1 hx, ← this, h]
  | c :: b :: p, r, hq, h => by
    have h1 : valF (b :: p) r = 0 := hq _ (List.mem_cons_self ..)
    have h2 : Zero (b :: p) := quo_zero (fun y hy => hq y (List.mem_cons_of_mem _ hy)) h1
    rw [valF_cons, h1, zero_gm isW8, Nat.zero_xor] at h
    intro x hx
    rcases List.mem_cons.1 hx with rfl | hx
    · exact h
    · exact h2 x hx
/-- A polynomial that is not 0 has fewer roots than coefficients. -/
theorem roots_lt : ∀ (rs : List Nat) {p : List Nat}, Bytes p → rs.Nodup → (∀ r ∈ rs, r < 256 ∧ valF p r = 0) → ¬ Zero p → rs.length < p.length
  | [], p, hp, _, _, hz => by
    cases p with
    | nil => exact absurd (fun _ h => by cases h) hz
    | cons => simp
  | r :: rs, p, hp, hn, h, hz => by
    obtain ⟨hr, h0⟩ := h r (by simp)
    have hq : ¬ Zero (quo p r) := fun hq => hz (quo_zero hq h0)
    have := roots_lt rs (quo_bytes hp r) (List.nodup_cons.1 hn).2 (fun s hs => by
      obtain ⟨hs2, hs0⟩ := h s (by simp [hs])
      refine ⟨hs2, ?_⟩
      have h1 := quo_val hp hr hs2
      rw [hs0, h0, Nat.xor_zero] at h1
      have hne : s ^^^ r ≠ 0 := fun e => (List.nodup_cons.1 hn).1 (eq_of_xor_zero e ▸ hs)
      rcases gm_eq_zero isW8 (valF_lt (quo_bytes hp r) s) (xor8_lt hs2 hr) h1.symm with h | h
      · exact h
      · exact absurd h hne) hq
    rw [quo_len] at this
    simp only [List.length_cons]; omega
/-- Two polynomials of one length n with the same values at n different places are equal. -/
theorem eq_of_zero_add : ∀ {p q : List Nat}, p.length = q.length → Zero (addP p q) → p = q
  | [], [], _, _ => rfl
  | [], b :: q, h, _ => by simp at h
  | a :: p, [], h, _ => by simp at h
  | a :: p, b :: q, h, hz => by
    rw [eq_of_xor_zero (hz (a ^^^ b) (by simp [addP])), eq_of_zero_add (p := p) (q := q) (by simpa using h) (fun x hx => hz x (List.mem_cons_of_mem _ hx))]
theorem poly_unique {p q rs : List Nat} (hp : Bytes p) (hq : Bytes q) (hl : p.length = q.length) (hn : rs.Nodup) (hrs : p.length ≤ rs.length) (h : ∀ r ∈ rs, r < 256 ∧ valF p r = valF q r) : p = q := by
  refine eq_of_zero_add hl (Classical.byContradiction fun hz => ?_)
  have := roots_lt rs (addP_bytes hp hq) hn (fun r hr => ⟨(h r hr).1, by rw [addP_val hp hq hl, (h r hr).2, Nat.xor_self]⟩) hz
  rw [addP_len _ _ hl] at this
  omega
end Go.Proofs.Ythmooplhhkafcaa
