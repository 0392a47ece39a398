/- Plain mathematics: the product of a finite field as the program multiplies. No program is in sight. -/

namespace Go.Proofs.Ytdgmjedkhjeadaa

/-- The polynomial of the field of a width. -/
def modN (w : Nat) : Nat := if w = 8 then 0x11b else if w = 16 then 0x1002b else if w = 32 then 0x10000008d else 0
/-- Times x. -/
def xt (w a : Nat) : Nat := if a * 2 / 2 ^ w = 0 then a * 2 else (a * 2) ^^^ modN w
/-- The program's product: f rounds. -/
def tim (w : Nat) : Nat → Nat → Nat → Nat → Nat
  | 0, _, _, n => n
  | f + 1, a, b, n => if b = 0 then n else tim w f (xt w a) (b / 2) (if b % 2 = 1 then n ^^^ a else n)
def IsW (w : Nat) : Prop := w = 8 ∨ w = 16 ∨ w = 32
theorem IsW.le {w : Nat} (h : IsW w) : w ≤ 32 := by unfold IsW at h; omega
theorem IsW.pos {w : Nat} (h : IsW w) : 8 ≤ w := by unfold IsW at h; omega
theorem IsW.pow {w : Nat} (h : IsW w) : 2 ^ w ≤ 4294967296 := by rcases h with rfl | rfl | rfl <;> decide
theorem modN_lt {w : Nat} (h : IsW w) : modN w < 2 ^ w * 2 := by rcases h with rfl | rfl | rfl <;> decide
theorem modN_ge {w : Nat} (h : IsW w) : 2 ^ w ≤ modN w := by rcases h with rfl | rfl | rfl <;> decide
theorem xor_lt {a b k : Nat} (ha : a < 2 ^ k) (hb : b < 2 ^ k) : a ^^^ b < 2 ^ k := Nat.xor_lt_two_pow ha hb

theorem top_clear {w a b : Nat} (ha : a < 2 ^ w * 2) (ha' : 2 ^ w ≤ a) (hb : b < 2 ^ w * 2) (hb' : 2 ^ w ≤ b) : a ^^^ b < 2 ^ w := by
  have e : 2 ^ w * 2 = 2 ^ (w + 1) := by rw [Nat.pow_succ]
  have h1 : a ^^^ b < 2 ^ (w + 1) := xor_lt (e ▸ ha) (e ▸ hb)
  have t : ∀ x, x < 2 ^ w * 2 → 2 ^ w ≤ x → x.testBit w = true := by
    intro x h h'
    rw [Nat.testBit_eq_decide_div_mod_eq]
    have : x / 2 ^ w = 1 := by
      have hp : 0 < 2 ^ w := Nat.two_pow_pos w
      apply Nat.le_antisymm
      · have : x / 2 ^ w < 2 := by rw [Nat.div_lt_iff_lt_mul hp]; omega
        omega
      · exact (Nat.le_div_iff_mul_le hp).2 (by omega)
    simp [this]
  refine Nat.lt_of_lt_of_le (m := 2 ^ w) ?_ (Nat.le_refl _)
  apply Nat.lt_pow_two_of_testBit
  intro i hi
  rcases Nat.lt_or_ge i (w + 1) with h | h
  · obtain rfl : i = w := by omega
    rw [Nat.testBit_xor, t a ha ha', t b hb hb']; rfl
  · exact Nat.testBit_lt_two_pow (Nat.lt_of_lt_of_le h1 (Nat.pow_le_pow_right (by omega) h))

theorem xt_lt {w a : Nat} (h : IsW w) (ha : a < 2 ^ w) : xt w a < 2 ^ w := by
  have hp : 0 < 2 ^ w := Nat.two_pow_pos w
  unfold xt
  split
  · rename_i h0
    rw [Nat.div_eq_zero_iff] at h0
    omega
  · rename_i h0
    have : 2 ^ w ≤ a * 2 := by
      rcases Nat.lt_or_ge (a * 2) (2 ^ w) with h1 | h1
      · exact absurd (Nat.div_eq_of_lt h1) h0
      · exact h1
    exact top_clear (by omega) this (modN_lt h) (modN_ge h)
theorem tim_lt {w : Nat} (h : IsW w) : ∀ f a b n, a < 2 ^ w → n < 2 ^ w → tim w f a b n < 2 ^ w
  | 0, _, _, _, _, hn => hn
  | f + 1, a, b, n, ha, hn => by
    unfold tim
    split
    · exact hn
    · refine tim_lt h f _ _ _ (xt_lt h ha) ?_
      split
      · exact xor_lt hn ha
      · exact hn
/-- More rounds than bits change nothing. -/
theorem tim_more (w : Nat) : ∀ f a b n, b < 2 ^ f → ∀ k, tim w (f + k) a b n = tim w f a b n
  | 0, a, b, n, hb, k => by
    obtain rfl : b = 0 := by simpa using hb
    cases k <;> simp [tim]
  | f + 1, a, b, n, hb, k => by
    rw [show f + 1 + k = (f + k) + 1 by omega]
    unfold tim
    split
    · rfl
    · exact tim_more w f _ _ _ (by rw [Nat.pow_succ] at hb; omega) k
theorem tim_zero (w f a n : Nat) : tim w f a 0 n = n := by cases f <;> simp [tim]
theorem tim_round (n f a b m : Nat) (hb : b ≠ 0) (hf : b < 2 ^ f) : ∃ g, f = g + 1 ∧ b / 2 < 2 ^ g ∧ tim n f a b m = tim n g (xt n a) (b / 2) (if b % 2 = 1 then m ^^^ a else m) := by
  cases f with
  | zero => exact absurd (by simpa using hf) hb
  | succ g =>
    refine ⟨g, rfl, by rw [Nat.pow_succ] at hf; omega, ?_⟩
    conv => lhs; unfold tim
    rw [if_neg hb]
/-- The product. -/
def gm (w a b : Nat) : Nat := tim w 64 a b 0
theorem gm_lt {w a b : Nat} (h : IsW w) (ha : a < 2 ^ w) : gm w a b < 2 ^ w := tim_lt h _ _ _ _ ha (Nat.two_pow_pos w)
end Go.Proofs.Ytdgmjedkhjeadaa
/- Plain mathematics: the finite fields of the widths 8, 16 and 32 (products, inverses). No program is in sight. -/
namespace Go.Proofs.Ytdgmjedkhjeadaa
set_option linter.unusedSectionVars false
set_option linter.unusedVariables false
set_option linter.unusedSimpArgs false

/-! ### Numbers as bit strings -/
theorem bits_split (a : Nat) : a = (a % 2) ^^^ 2 * (a / 2) := by
  apply Nat.eq_of_testBit_eq
  intro i
  rw [Nat.testBit_xor]
  cases i with
  | zero => simp [Nat.testBit_zero]
  | succ i => simp [Nat.testBit_succ, Nat.mul_comm 2]
theorem two_xor (a b : Nat) : 2 * (a ^^^ b) = 2 * a ^^^ 2 * b := by
  apply Nat.eq_of_testBit_eq
  intro i
  rw [Nat.testBit_xor]
  cases i with
  | zero => simp [Nat.testBit_zero]
  | succ i => simp [Nat.testBit_succ, Nat.testBit_xor]
theorem xor_half (a b : Nat) : (a ^^^ b) / 2 = a / 2 ^^^ b / 2 := by
  have := Nat.shiftRight_xor_distrib (a := a) (b := b) (i := 1)
  simpa [Nat.shiftRight_succ] using this
theorem xor_odd (a b : Nat) : (a ^^^ b) % 2 = (a % 2 + b % 2) % 2 := by
  have h : ∀ n : Nat, n % 2 = (n.testBit 0).toNat := fun n => by
    rw [Nat.testBit_zero]
    rcases Nat.mod_two_eq_zero_or_one n with h | h <;> simp [h]
  rw [h, h a, h b, Nat.testBit_xor]
  cases a.testBit 0 <;> cases b.testBit 0 <;> rfl
theorem xor4 (a b c d : Nat) : (a ^^^ b) ^^^ (c ^^^ d) = (a ^^^ c) ^^^ (b ^^^ d) := by
  apply Nat.eq_of_testBit_eq; intro i
  simp only [Nat.testBit_xor]
  cases a.testBit i <;> cases b.testBit i <;> cases c.testBit i <;> cases d.testBit i <;> rfl
theorem xor_cancel (a b : Nat) : a ^^^ b ^^^ b = a := by rw [Nat.xor_assoc, Nat.xor_self, Nat.xor_zero]
theorem eq_of_xor_zero {a b : Nat} (h : a ^^^ b = 0) : a = b := by
  have := congrArg (· ^^^ b) h
  simpa [Nat.xor_assoc] using this

/-! ### Times x -/
theorem xt_eq (w a : Nat) (ha : a < 2 ^ w) : xt w a = (2 * a) ^^^ (if a.testBit (w - 1) then modN w else 0) := by
  have hp : 0 < 2 ^ w := Nat.two_pow_pos w
  have h1 : (a * 2 / 2 ^ w = 0) ↔ a.testBit (w - 1) = false := by
    cases w with
    | zero => simp at ha; subst ha; simp
    | succ w =>
      rw [Nat.add_sub_cancel, Nat.div_eq_zero_iff, Nat.pow_succ]
      constructor
      · intro h
        exact Nat.testBit_lt_two_pow (by rcases h with h | h <;> omega)
      · intro h
        right
        rcases Nat.lt_or_ge a (2 ^ w) with h2 | h2
        · omega
        · exfalso
          rw [Nat.pow_succ] at ha
          have : a / 2 ^ w = 1 := by
            apply Nat.le_antisymm
            · have := (Nat.div_lt_iff_lt_mul (Nat.two_pow_pos w) (x := a) (y := 2)).2 (by omega); omega
            · exact (Nat.le_div_iff_mul_le (Nat.two_pow_pos w)).2 (by omega)
          rw [Nat.testBit_eq_decide_div_mod_eq, this] at h
          simp at h
  unfold xt
  by_cases h : a * 2 / 2 ^ w = 0
  · rw [if_pos h, h1.1 h]; simp [Nat.mul_comm]
  · have : a.testBit (w - 1) = true := by
      cases hb : a.testBit (w - 1) with
      | true => rfl
      | false => exact absurd (h1.2 hb) h
    rw [if_neg h, this]; simp [Nat.mul_comm]
theorem xt_zero (w : Nat) : xt w 0 = 0 := by simp [xt]
theorem xt_xor (w : Nat) {a b : Nat} (ha : a < 2 ^ w) (hb : b < 2 ^ w) : xt w (a ^^^ b) = xt w a ^^^ xt w b := by
  rw [xt_eq w _ (xor_lt ha hb), xt_eq w _ ha, xt_eq w _ hb, two_xor, Nat.testBit_xor, xor4]
  congr 1
  cases a.testBit (w - 1) <;> cases b.testBit (w - 1) <;> simp

/-! ### A polynomial acts on the elements -/
/-- f bits of b, times v. -/
def act (w : Nat) : Nat → Nat → Nat → Nat
  | 0, _, _ => 0
  | f + 1, b, v => (if b % 2 = 1 then v else 0) ^^^ act w f (b / 2) (xt w v)
section
variable {w : Nat} (hw : IsW w)
include hw
theorem bit_lt {b v : Nat} (hv : v < 2 ^ w) : (if b % 2 = 1 then v else 0) < 2 ^ w := by
  split
  · exact hv
  · exact Nat.two_pow_pos w
theorem act_lt : ∀ (f b v : Nat), v < 2 ^ w → act w f b v < 2 ^ w
  | 0, _, _, _ => Nat.two_pow_pos w
  | f + 1, b, v, hv => xor_lt (bit_lt hw hv) (act_lt f _ _ (xt_lt hw hv))
omit hw in
theorem act_zero (w : Nat) : ∀ f v, act w f 0 v = 0
  | 0, _ => rfl
  | f + 1, v => by simp [act, act_zero w f]
omit hw in
theorem act_null (w : Nat) : ∀ f b, act w f b 0 = 0
  | 0, _ => rfl
  | f + 1, b => by simp [act, xt_zero, act_null w f]
omit hw in
theorem act_more (w : Nat) : ∀ f b v, b < 2 ^ f → ∀ k, act w (f + k) b v = act w f b v
  | 0, b, v, hb, k => by
    obtain rfl : b = 0 := by simpa using hb
    rw [act_zero, act_zero]
  | f + 1, b, v, hb, k => by
    rw [show f + 1 + k = (f + k) + 1 by omega]
    unfold act
    rw [act_more w f _ _ (by rw [Nat.pow_succ] at hb; omega) k]
omit hw in
theorem act_fuel (w : Nat) {f g b : Nat} (v : Nat) (hf : b < 2 ^ f) (hg : b < 2 ^ g) : act w f b v = act w g b v := by
  rcases Nat.le_total f g with h | h
  · have := act_more w f b v hf (g - f)
    rw [show f + (g - f) = g by omega] at this
    exact this.symm
  · have := act_more w g b v hg (f - g)
    rw [show g + (f - g) = f by omega] at this
    exact this
theorem act_xor_right : ∀ (f b u v : Nat), u < 2 ^ w → v < 2 ^ w → act w f b (u ^^^ v) = act w f b u ^^^ act w f b v
  | 0, _, _, _, _, _ => by simp [act]
  | f + 1, b, u, v, hu, hv => by
    unfold act
    rw [xt_xor w hu hv, act_xor_right f _ _ _ (xt_lt hw hu) (xt_lt hw hv), xor4 (if b % 2 = 1 then u else 0)]
    congr 1
    split <;> simp
theorem act_xor_left : ∀ (f a b v : Nat), v < 2 ^ w → act w f (a ^^^ b) v = act w f a v ^^^ act w f b v
  | 0, _, _, _, _ => by simp [act]
  | f + 1, a, b, v, hv => by
    unfold act
    rw [xor_half, act_xor_left f _ _ _ (xt_lt hw hv), xor4 (if a % 2 = 1 then v else 0)]
    congr 1
    rw [xor_odd]
    rcases Nat.mod_two_eq_zero_or_one a with h | h <;> rcases Nat.mod_two_eq_zero_or_one b with h' | h' <;> simp [h, h']
theorem act_xt : ∀ (f b v : Nat), v < 2 ^ w → act w f b (xt w v) = xt w (act w f b v)
  | 0, _, _, _ => by simp [act, xt_zero]
  | f + 1, b, v, hv => by
    unfold act
    rw [act_xt f _ _ (xt_lt hw hv), xt_xor w (bit_lt hw hv) (act_lt hw f _ _ (xt_lt hw hv))]
    congr 1
    split
    · rfl
    · rw [xt_zero]
theorem act_comm : ∀ (f g b a v : Nat), v < 2 ^ w → act w f b (act w g a v) = act w g a (act w f b v)
  | 0, g, _, a, _, _ => by simp [act, act_null]
  | f + 1, g, b, a, v, hv => by
    have e : ∀ x, act w (f + 1) b x = (if b % 2 = 1 then x else 0) ^^^ act w f (b / 2) (xt w x) := fun _ => rfl
    rw [e, e, ← act_xt hw g _ _ hv, act_comm f g _ _ _ (xt_lt hw hv), act_xor_right hw g _ _ _ (bit_lt hw hv) (act_lt hw f _ _ (xt_lt hw hv))]
    congr 1
    split
    · rfl
    · rw [act_null]
/-- The program's product is the action. -/
theorem tim_act : ∀ (f a b n : Nat), tim w f a b n = n ^^^ act w f b a
  | 0, _, _, _ => by simp [tim, act]
  | f + 1, a, b, n => by
    unfold tim act
    split
    · rename_i h; subst h; simp [act_zero]
    · rw [tim_act f]
      split
      · rw [Nat.xor_assoc]
      · simp
theorem gm_act (a b : Nat) : gm w a b = act w 64 b a := by unfold gm; rw [tim_act hw]; simp
/-- An element acts on 1 as itself. -/
theorem act_one : ∀ (f j a : Nat), f + j ≤ w → a < 2 ^ f → act w f a (2 ^ j) = a * 2 ^ j
  | 0, j, a, _, ha => by
    obtain rfl : a = 0 := by simpa using ha
    simp [act]
  | f + 1, j, a, hj, ha => by
    unfold act
    rcases Nat.lt_or_ge (j + 1) w with h1 | h1
    · have hx : xt w (2 ^ j) = 2 ^ (j + 1) := by
        unfold xt
        rw [← Nat.pow_succ, if_pos (Nat.div_eq_of_lt (Nat.pow_lt_pow_right (by omega) h1))]
      rw [hx, act_one f (j + 1) (a / 2) (by omega) (by rw [Nat.pow_succ] at ha; omega)]
      have e : a * 2 ^ j = (a % 2) * 2 ^ j ^^^ (2 * (a / 2)) * 2 ^ j := by
        conv => lhs; rw [bits_split a]
        rw [Nat.mul_comm (a % 2 ^^^ _), Nat.mul_comm (a % 2), Nat.mul_comm (2 * (a / 2))]
        simp only [← Nat.shiftLeft_eq, Nat.mul_comm (2 ^ j)]
        rw [Nat.shiftLeft_xor_distrib]
      rw [e]
      congr 1
      · rcases Nat.mod_two_eq_zero_or_one a with h | h <;> simp [h]
      · rw [Nat.pow_succ, Nat.mul_comm 2 (a / 2), Nat.mul_assoc, Nat.mul_comm 2]
    · obtain rfl : f = 0 := by omega
      have : a = 0 ∨ a = 1 := by simp at ha; omega
      rcases this with rfl | rfl <;> simp [act]
theorem one_lt' : 1 < 2 ^ w := Nat.one_lt_two_pow (by have := hw.pos; omega)
omit hw in
theorem lt64 {a : Nat} (hw : IsW w) (ha : a < 2 ^ w) : a < 2 ^ 64 := Nat.lt_of_lt_of_le ha (Nat.pow_le_pow_right (by omega) (by have := hw.le; omega))
theorem act_self {a : Nat} (ha : a < 2 ^ w) : act w 64 a 1 = a := by
  rw [act_fuel w 1 (lt64 hw ha) ha]
  have := act_one hw w 0 a (by omega) ha
  simpa using this

/-! ### The laws of the product -/
theorem gm_comm {a b : Nat} (ha : a < 2 ^ w) (hb : b < 2 ^ w) : gm w a b = gm w b a := by
  rw [gm_act hw, gm_act hw]
  conv => lhs; rw [← act_self hw ha]
  conv => rhs; rw [← act_self hw hb]
  rw [act_comm hw _ _ _ _ _ (one_lt' hw)]
theorem gm_assoc {a b c : Nat} (ha : a < 2 ^ w) (hb : b < 2 ^ w) (hc : c < 2 ^ w) : gm w (gm w a b) c = gm w a (gm w b c) := by
  rw [gm_comm hw ha (gm_lt hw hb), gm_act hw (gm w b c) a, gm_act hw b c, ← act_comm hw _ _ _ _ _ hb, ← gm_act hw b a, ← gm_act hw, gm_comm hw ha hb]
theorem gm_xor_left {a b c : Nat} (ha : a < 2 ^ w) (hb : b < 2 ^ w) : gm w (a ^^^ b) c = gm w a c ^^^ gm w b c := by
  rw [gm_act hw, gm_act hw, gm_act hw, act_xor_right hw _ _ _ _ ha hb]
theorem gm_xor_right {a b c : Nat} (ha : a < 2 ^ w) : gm w a (b ^^^ c) = gm w a b ^^^ gm w a c := by
  rw [gm_act hw, gm_act hw, gm_act hw, act_xor_left hw _ _ _ _ ha]
theorem gm_one {a : Nat} : gm w a 1 = a := by
  rw [gm_act hw]
  simp [act, act_zero]
theorem one_gm {a : Nat} (ha : a < 2 ^ w) : gm w 1 a = a := by rw [gm_comm hw (one_lt' hw) ha, gm_one hw]
theorem gm_zero {a : Nat} : gm w a 0 = 0 := by rw [gm_act hw, act_zero]
theorem zero_gm {a : Nat} : gm w 0 a = 0 := by rw [gm_act hw, act_null]
theorem gm_two {a : Nat} : gm w a 2 = xt w a := by
  rw [gm_act hw]
  simp [act, act_zero]
end

/-! ### Linear maps -/
/-- f is additive on the numbers below 2^w, and 0 at 0: then it is known from the powers of 2. -/
theorem add_zero_of_basis : ∀ (w : Nat) (f : Nat → Nat), f 0 = 0 → (∀ a b, a < 2 ^ w → b < 2 ^ w → f (a ^^^ b) = f a ^^^ f b) → (∀ i, i < w → f (2 ^ i) = 0) → ∀ a, a < 2 ^ w → f a = 0
  | 0, f, h0, _, _, a, ha => by
    obtain rfl : a = 0 := by simpa using ha
    exact h0
  | w + 1, f, h0, hadd, hb, a, ha => by
    have ha2 : a / 2 < 2 ^ w := by rw [Nat.pow_succ] at ha; omega
    have ih := add_zero_of_basis w (fun x => f (2 * x)) (by simpa using h0) (fun x y hx hy => by
      show f (2 * (x ^^^ y)) = _
      rw [two_xor]
      exact hadd _ _ (by rw [Nat.pow_succ]; omega) (by rw [Nat.pow_succ]; omega)) (fun i hi => by
      show f (2 * 2 ^ i) = 0
      rw [Nat.mul_comm, ← Nat.pow_succ]
      exact hb (i + 1) (by omega)) (a / 2) ha2
    have hp : 0 < 2 ^ w := Nat.two_pow_pos w
    rw [bits_split a, hadd _ _ (by rw [Nat.pow_succ]; omega) (by rw [Nat.pow_succ]; omega), ih, Nat.xor_zero]
    rcases Nat.mod_two_eq_zero_or_one a with h | h
    · rw [h]; exact h0
    · rw [h]; exact hb 0 (by omega)
/-- A linear map by its values at the powers of 2. -/
def lin : List Nat → Nat → Nat
  | [], _ => 0
  | m :: M, a => (if a % 2 = 1 then m else 0) ^^^ lin M (a / 2)
theorem lin_zero : ∀ M, lin M 0 = 0
  | [] => rfl
  | m :: M => by simp [lin, lin_zero M]
theorem lin_xor : ∀ M a b, lin M (a ^^^ b) = lin M a ^^^ lin M b
  | [], _, _ => by simp [lin]
  | m :: M, a, b => by
    unfold lin
    rw [xor_half, lin_xor M, xor4 (if a % 2 = 1 then m else 0)]
    congr 1
    rw [xor_odd]
    rcases Nat.mod_two_eq_zero_or_one a with h | h <;> rcases Nat.mod_two_eq_zero_or_one b with h' | h' <;> simp [h, h']

/-! ### Squares -/
def sq (w a : Nat) : Nat := gm w a a
def sqN (w : Nat) : Nat → Nat → Nat
  | 0, a => a
  | k + 1, a => sqN w k (sq w a)
def invM (w : Nat) : List Nat :=
  if w = 8 then [188, 42, 40, 134, 44, 0, 142, 222]
  else if w = 16 then [1842, 29368, 29370, 32406, 29374, 30898, 32414, 36026, 29358, 64036, 30866, 0, 32478, 58964, 35898, 22674]
  else [1425871460, 3262106980, 3262106982, 596276322, 3262106978, 2537278634, 596276330, 2004248338, 3262106994, 3250443606, 2537278602, 1462372684, 596276266, 3063135876, 2004248466, 2505424958, 3262106738, 1451497976, 3250444118, 2529415882, 2537277578, 1418076124, 1462370636, 3080433092, 596272170, 0, 3063127684, 3306814086, 2004232082, 3115950048, 2505392190, 930490298]
theorem basis_check {w : Nat} (hw : IsW w) : ∀ i, i < w → lin (invM w) (sq w (2 ^ i) ^^^ 2 ^ i) ^^^ 2 * (2 ^ i / 2) = 0 := by
  rcases hw with rfl | rfl | rfl <;> decide +kernel
theorem frob_check {w : Nat} (hw : IsW w) : sqN w w 2 = 2 ∧ sqN w w 1 = 1 := by
  rcases hw with rfl | rfl | rfl <;> decide +kernel
section
variable {w : Nat} (hw : IsW w)
include hw
theorem sq_lt {a : Nat} (ha : a < 2 ^ w) : sq w a < 2 ^ w := gm_lt hw ha
theorem sqN_lt : ∀ k {a : Nat}, a < 2 ^ w → sqN w k a < 2 ^ w
  | 0, _, ha => ha
  | k + 1, _, ha => sqN_lt k (sq_lt hw ha)
theorem sq_xor {a b : Nat} (ha : a < 2 ^ w) (hb : b < 2 ^ w) : sq w (a ^^^ b) = sq w a ^^^ sq w b := by
  unfold sq
  rw [gm_xor_left hw ha hb, gm_xor_right hw ha, gm_xor_right hw hb, gm_comm hw hb ha, xor4, Nat.xor_comm (gm w a b) (gm w b b), ← xor4, Nat.xor_self, Nat.xor_zero]
theorem sq_gm {a b : Nat} (ha : a < 2 ^ w) (hb : b < 2 ^ w) : sq w (gm w a b) = gm w (sq w a) (sq w b) := by
  unfold sq
  rw [gm_assoc hw ha hb (gm_lt hw ha), ← gm_assoc hw hb ha hb, gm_comm hw hb ha, gm_assoc hw ha hb hb, ← gm_assoc hw ha ha (gm_lt hw hb)]
theorem sqN_xor : ∀ k {a b : Nat}, a < 2 ^ w → b < 2 ^ w → sqN w k (a ^^^ b) = sqN w k a ^^^ sqN w k b
  | 0, _, _, _, _ => rfl
  | k + 1, a, b, ha, hb => by unfold sqN; rw [sq_xor hw ha hb, sqN_xor k (sq_lt hw ha) (sq_lt hw hb)]
theorem sqN_gm : ∀ k {a b : Nat}, a < 2 ^ w → b < 2 ^ w → sqN w k (gm w a b) = gm w (sqN w k a) (sqN w k b)
  | 0, _, _, _, _ => rfl
  | k + 1, a, b, ha, hb => by unfold sqN; rw [sq_gm hw ha hb, sqN_gm k (sq_lt hw ha) (sq_lt hw hb)]
theorem sqN_zero : ∀ k, sqN w k 0 = 0
  | 0 => rfl
  | k + 1 => by unfold sqN; rw [show sq w 0 = 0 from zero_gm hw]; exact sqN_zero k
theorem two_lt : 2 < 2 ^ w := Nat.lt_of_lt_of_le (by decide : 2 < 2 ^ 8) (Nat.pow_le_pow_right (by omega) hw.pos)
/-- a^(2^w) = a. -/
theorem frob {a : Nat} (ha : a < 2 ^ w) : sqN w w a = a := by
  have key : ∀ (f b v : Nat), v < 2 ^ w → sqN w w v = v → sqN w w (act w f b v) = act w f b v := by
    intro f
    induction f with
    | zero => intro b v _ _; exact sqN_zero hw w
    | succ f ih =>
      intro b v hv hs
      unfold act
      rw [sqN_xor hw w (bit_lt hw hv) (act_lt hw f _ _ (xt_lt hw hv))]
      have hx : sqN w w (xt w v) = xt w v := by
        rw [← gm_two hw, sqN_gm hw w hv (two_lt hw), hs, (frob_check hw).1]
      rw [ih _ _ (xt_lt hw hv) hx]
      congr 1
      split
      · exact hs
      · exact sqN_zero hw w
  rw [← act_self hw ha]
  exact key 64 a 1 (one_lt' hw) (frob_check hw).2
/-- Only 0 and 1 are their own squares. -/
theorem idem {a : Nat} (ha : a < 2 ^ w) (h : sq w a = a) : a = 0 ∨ a = 1 := by
  have := add_zero_of_basis w (fun x => lin (invM w) (sq w x ^^^ x) ^^^ 2 * (x / 2)) (by simp [show sq w 0 = 0 from zero_gm hw, lin_zero]) (fun x y hx hy => by
    show lin (invM w) (sq w (x ^^^ y) ^^^ (x ^^^ y)) ^^^ 2 * ((x ^^^ y) / 2) = _
    rw [sq_xor hw hx hy, xor_half, two_xor, xor4, lin_xor, xor4]) (basis_check hw) a ha
  simp only [h, Nat.xor_self, lin_zero, Nat.zero_xor] at this
  omega

/-! ### Powers and inverses -/
end
def pw (w a : Nat) : Nat → Nat
  | 0 => 1
  | n + 1 => gm w (pw w a n) a
section
variable {w : Nat} (hw : IsW w)
include hw
theorem pw_lt {a : Nat} : ∀ n, pw w a n < 2 ^ w
  | 0 => one_lt' hw
  | n + 1 => gm_lt hw (pw_lt n)
theorem pw_add {a : Nat} (ha : a < 2 ^ w) (m : Nat) : ∀ n, pw w a (m + n) = gm w (pw w a m) (pw w a n)
  | 0 => by rw [show pw w a 0 = 1 from rfl, gm_one hw]; rfl
  | n + 1 => by
    rw [← Nat.add_assoc]
    show gm w (pw w a (m + n)) a = gm w (pw w a m) (gm w (pw w a n) a)
    rw [pw_add ha m n, gm_assoc hw (pw_lt hw m) (pw_lt hw n) ha]
theorem pw_one {a : Nat} (ha : a < 2 ^ w) : pw w a 1 = a := one_gm hw ha
theorem pw_sqN {a : Nat} (ha : a < 2 ^ w) : ∀ k, pw w a (2 ^ k) = sqN w k a := by
  have step : ∀ k, sqN w (k + 1) a = sq w (sqN w k a) := by
    intro k
    have : ∀ k b, sqN w (k + 1) b = sq w (sqN w k b) := by
      intro k
      induction k with
      | zero => intro b; rfl
      | succ k ih => intro b; exact ih (sq w b)
    exact this k a
  intro k
  induction k with
  | zero => simpa [sqN] using pw_one hw ha
  | succ k ih => rw [step, ← ih, Nat.pow_succ, Nat.mul_two, pw_add hw ha]; rfl
theorem pw_frob {a : Nat} (ha : a < 2 ^ w) : pw w a (2 ^ w) = a := by rw [pw_sqN hw ha, frob hw ha]
/-- a^(2^w - 1) = 1 for an element that is not 0. -/
theorem pw_unit {a : Nat} (ha : a < 2 ^ w) (h0 : a ≠ 0) : pw w a (2 ^ w - 1) = 1 := by
  have h2 := two_lt hw
  have he : sq w (pw w a (2 ^ w - 1)) = pw w a (2 ^ w - 1) := by
    unfold sq
    rw [← pw_add hw ha, show 2 ^ w - 1 + (2 ^ w - 1) = 2 ^ w + (2 ^ w - 2) by omega, pw_add hw ha, pw_frob hw ha]
    conv => rhs; rw [show 2 ^ w - 1 = 1 + (2 ^ w - 2) by omega, pw_add hw ha, pw_one hw ha]
  rcases idem hw (pw_lt hw _) he with h | h
  · exfalso
    have := pw_frob hw ha
    rw [show 2 ^ w = (2 ^ w - 1) + 1 by omega] at this
    change gm w (pw w a (2 ^ w - 1)) a = a at this
    rw [h, zero_gm hw] at this
    exact h0 this.symm
  · exact h
end
/-- The inverse. -/
def inv (w a : Nat) : Nat := pw w a (2 ^ w - 2)
section
variable {w : Nat} (hw : IsW w)
include hw
theorem inv_lt (a : Nat) : inv w a < 2 ^ w := pw_lt hw _
theorem gm_inv {a : Nat} (ha : a < 2 ^ w) (h0 : a ≠ 0) : gm w a (inv w a) = 1 := by
  have h2 := two_lt hw
  have := pw_unit hw ha h0
  rw [show 2 ^ w - 1 = 1 + (2 ^ w - 2) by omega, pw_add hw ha, pw_one hw ha] at this
  exact this
theorem gm_eq_zero {a b : Nat} (ha : a < 2 ^ w) (hb : b < 2 ^ w) (h : gm w a b = 0) : a = 0 ∨ b = 0 := by
  by_cases h0 : a = 0
  · exact .inl h0
  · right
    have h1 := congrArg (gm w (inv w a)) h
    rw [← gm_assoc hw (inv_lt hw a) ha hb, gm_comm hw (inv_lt hw a) ha, gm_inv hw ha h0, one_gm hw hb, gm_zero hw] at h1
    exact h1
theorem inv_unique {a x : Nat} (ha : a < 2 ^ w) (hx : x < 2 ^ w) (h : gm w a x = 1) : x = inv w a := by
  have h0 : a ≠ 0 := by
    rintro rfl
    rw [zero_gm hw] at h
    exact absurd h (by decide)
  have h1 := congrArg (gm w (inv w a)) h
  rw [← gm_assoc hw (inv_lt hw a) ha hx, gm_comm hw (inv_lt hw a) ha, gm_inv hw ha h0, one_gm hw hx, gm_one hw] at h1
  exact h1
end
end Go.Proofs.Ytdgmjedkhjeadaa
/- Plain mathematics: polynomials over the field of the width 8 (the lowest coefficient first): the division by (X + r), the number of roots, and that a polynomial is known by its values. No program is in sight. -/
namespace Go.Proofs.Ytdgmjedkhjeadaa
set_option linter.unusedVariables false
theorem snoc_ind {α : Type} {P : List α → Prop} (h0 : P []) (h1 : ∀ l a, P l → P (l ++ [a])) (l : List α) : P l := by
  have h : ∀ r : List α, P r.reverse := by
    intro r
    induction r with
    | nil => exact h0
    | cons a r ih => rw [List.reverse_cons]; exact h1 _ _ ih
  have := h l.reverse
  rwa [List.reverse_reverse] at this
def Bytes (l : List Nat) : Prop := ∀ x ∈ l, x < 256
/-- The value of a polynomial. -/
def valF (p : List Nat) (x : Nat) : Nat := p.foldr (fun c v => gm 8 v x ^^^ c) 0
theorem valF_nil (x : Nat) : valF [] x = 0 := rfl
theorem valF_cons (c : Nat) (p : List Nat) (x : Nat) : valF (c :: p) x = gm 8 (valF p x) x ^^^ c := rfl
theorem Bytes.tail {c : Nat} {p : List Nat} (h : Bytes (c :: p)) : Bytes p := fun y hy => h y (by simp [hy])
theorem Bytes.head {c : Nat} {p : List Nat} (h : Bytes (c :: p)) : c < 256 := h c (by simp)
theorem Bytes.cons {c : Nat} {p : List Nat} (hc : c < 256) (h : Bytes p) : Bytes (c :: p) := fun y hy => by
  rcases List.mem_cons.1 hy with rfl | hy
  · exact hc
  · exact h y hy
theorem Bytes.nil : Bytes [] := fun _ h => by cases h
theorem Bytes.append {p q : List Nat} (hp : Bytes p) (hq : Bytes q) : Bytes (p ++ q) := fun y hy => by
  rcases List.mem_append.1 hy with h | h
  · exact hp y h
  · exact hq y h
theorem Bytes.take {p : List Nat} (hp : Bytes p) (k : Nat) : Bytes (p.take k) := fun y hy => hp y (List.mem_of_mem_take hy)
theorem Bytes.drop {p : List Nat} (hp : Bytes p) (k : Nat) : Bytes (p.drop k) := fun y hy => hp y (List.mem_of_mem_drop hy)
theorem Bytes.zeros (k : Nat) : Bytes (List.replicate k 0) := fun y hy => by rw [(List.mem_replicate.1 hy).2]; decide
theorem isW8 : IsW 8 := .inl rfl
theorem gm8_lt {a b : Nat} (ha : a < 256) : gm 8 a b < 256 := gm_lt isW8 ha
theorem xor8_lt {a b : Nat} (ha : a < 256) (hb : b < 256) : a ^^^ b < 256 := xor_lt (k := 8) ha hb
theorem valF_lt {p : List Nat} (hp : Bytes p) (x : Nat) : valF p x < 256 := by
  induction p with
  | nil => simp [valF]
  | cons c p ih => exact xor8_lt (gm8_lt (ih hp.tail)) hp.head
theorem valF_drop (p : List Nat) (x q : Nat) (h : q < p.length) : valF (p.drop q) x = gm 8 (valF (p.drop (q + 1)) x) x ^^^ p[q] := by
  rw [List.drop_eq_getElem_cons h]; rfl
theorem valF_zeros : ∀ (k x : Nat), valF (List.replicate k 0) x = 0
  | 0, _ => rfl
  | k + 1, x => by rw [List.replicate_succ, valF_cons, valF_zeros k x, zero_gm isW8]; rfl
/-- Zeros behind a polynomial change no value. -/
theorem valF_pad (p : List Nat) (k x : Nat) : valF (p ++ List.replicate k 0) x = valF p x := by
  induction p with
  | nil => rw [List.nil_append, valF_zeros]; rfl
  | cons c p ih => rw [List.cons_append, valF_cons, ih, valF_cons]
theorem valF_at0 (c : Nat) (p : List Nat) : valF (c :: p) 0 = c := by rw [valF_cons, gm_zero isW8, Nat.zero_xor]
/-- The sum of two polynomials of one length; a multiple. -/
def addP (p q : List Nat) : List Nat := List.zipWith (· ^^^ ·) p q
def mulP (p : List Nat) (c : Nat) : List Nat := p.map fun x => gm 8 x c
theorem addP_len (p q : List Nat) (h : p.length = q.length) : (addP p q).length = p.length := by simp [addP, h]
theorem mulP_len (p : List Nat) (c : Nat) : (mulP p c).length = p.length := by simp [mulP]
theorem addP_bytes {p q : List Nat} (hp : Bytes p) (hq : Bytes q) : Bytes (addP p q) := by
  induction p generalizing q with
  | nil => intro y hy; simp [addP] at hy
  | cons a p ih =>
    cases q with
    | nil => intro y hy; simp [addP] at hy
    | cons b q => exact Bytes.cons (xor8_lt hp.head hq.head) (ih hp.tail hq.tail)
theorem mulP_bytes {p : List Nat} (hp : Bytes p) (c : Nat) : Bytes (mulP p c) := fun y hy => by
  obtain ⟨x, hx, rfl⟩ := List.mem_map.1 hy
  exact gm8_lt (hp x hx)
theorem addP_val {p q : List Nat} (hp : Bytes p) (hq : Bytes q) (h : p.length = q.length) (x : Nat) : valF (addP p q) x = valF p x ^^^ valF q x := by
  induction p generalizing q with
  | nil => cases q with
    | nil => simp [addP, valF]
    | cons b q => simp at h
  | cons a p ih =>
    cases q with
    | nil => simp at h
    | cons b q =>
      show gm 8 (valF (addP p q) x) x ^^^ (a ^^^ b) = _
      rw [ih hp.tail hq.tail (by simpa using h), gm_xor_left isW8 (valF_lt hp.tail x) (valF_lt hq.tail x), valF_cons, valF_cons]
      exact xor4 _ _ _ _
theorem mulP_val {p : List Nat} (hp : Bytes p) {c x : Nat} (hc : c < 256) (hx : x < 256) : valF (mulP p c) x = gm 8 (valF p x) c := by
  induction p with
  | nil => rw [valF_nil, zero_gm isW8]; rfl
  | cons a p ih =>
    show gm 8 (valF (mulP p c) x) x ^^^ gm 8 a c = _
    rw [ih hp.tail, valF_cons, gm_xor_left isW8 (gm8_lt (valF_lt hp.tail x)) hp.head]
    congr 1
    have hv := valF_lt hp.tail x
    rw [gm_assoc isW8 hv hc hx, gm_assoc isW8 hv hx hc, gm_comm isW8 hc hx]
/-- The quotient by (X + r). -/
def quo : List Nat → Nat → List Nat
  | [], _ => []
  | [_], _ => []
  | _ :: p, r => valF p r :: quo p r
theorem quo_len : ∀ (p : List Nat) (r : Nat), (quo p r).length = p.length - 1
  | [], _ => rfl
  | [_], _ => rfl
  | _ :: b :: p, r => by simp [quo, quo_len (b :: p) r]
theorem quo_bytes : ∀ {p : List Nat} (hp : Bytes p) (r : Nat), Bytes (quo p r)
  | [], _, _ => Bytes.nil
  | [_], _, _ => Bytes.nil
  | _ :: b :: p, hp, r => Bytes.cons (valF_lt hp.tail r) (quo_bytes hp.tail r)
theorem xor_swap (a b c : Nat) : a ^^^ b ^^^ c = a ^^^ c ^^^ b := by rw [Nat.xor_assoc, Nat.xor_comm b, ← Nat.xor_assoc]
theorem quo_val : ∀ {p : List Nat} (hp : Bytes p) {r x : Nat} (hr : r < 256) (hx : x < 256), valF p x = gm 8 (valF (quo p r) x) (x ^^^ r) ^^^ valF p r
  | [], _, r, x, _, _ => by simp [quo, valF, zero_gm isW8]
  | [c], _, r, x, _, _ => by simp [quo, valF, zero_gm isW8]
  | c :: b :: p, hp, r, x, hr, hx => by
    have hp' := hp.tail
    have h1 := valF_lt hp' r
    have h2 := valF_lt (quo_bytes hp' r) x
    have hxr : x ^^^ r < 256 := xor8_lt hx hr
    have hq : quo (c :: b :: p) r = valF (b :: p) r :: quo (b :: p) r := rfl
    rw [hq, valF_cons c, quo_val hp' hr hx, valF_cons (valF (b :: p) r), valF_cons c]
    generalize valF (b :: p) r = v at h1 ⊢
    generalize valF (quo (b :: p) r) x = u at h2 ⊢
    rw [gm_xor_left isW8 (gm8_lt h2) h1, gm_xor_left isW8 (gm8_lt h2) h1, gm_xor_right isW8 h1 (b := x) (c := r)]
    rw [gm_assoc isW8 h2 hxr hx, gm_assoc isW8 h2 hx hxr, gm_comm isW8 hxr hx]
    generalize gm 8 u (gm 8 x (x ^^^ r)) = A
    generalize gm 8 v x = B
    generalize gm 8 v r = C
    rw [← Nat.xor_assoc (A ^^^ (B ^^^ C)), ← Nat.xor_assoc A, Nat.xor_assoc (A ^^^ B), Nat.xor_self, Nat.xor_zero]
def Zero (p : List Nat) : Prop := ∀ x ∈ p, x = 0
theorem quo_zero : ∀ {p : List Nat} {r : Nat}, Zero (quo p r) → valF p r = 0 → Zero p
  | [], _, _, _ => fun _ h => by cases h
  | [c], r, _, h => by
    intro x hx
    have : valF [c] r = c := by simp [valF, zero_gm isW8]
    rw [List.mem_singleton.1 hx, ← this, h]
  | c :: b :: p, r, hq, h => by
    have h1 : valF (b :: p) r = 0 := hq _ (List.mem_cons_self ..)
    have h2 : Zero (b :: p) := quo_zero (fun y hy => hq y (List.mem_cons_of_mem _ hy)) h1
    rw [valF_cons, h1, zero_gm isW8, Nat.zero_xor] at h
    intro x hx
    rcases List.mem_cons.1 hx with rfl | hx
    · exact h
    · exact h2 x hx
/-- A polynomial that is not 0 has fewer roots than coefficients. -/
theorem roots_lt : ∀ (rs : List Nat) {p : List Nat}, Bytes p → rs.Nodup → (∀ r ∈ rs, r < 256 ∧ valF p r = 0) → ¬ Zero p → rs.length < p.length
  | [], p, hp, _, _, hz => by
    cases p with
    | nil => exact absurd (fun _ h => by cases h) hz
    | cons => simp
  | r :: rs, p, hp, hn, h, hz => by
    obtain ⟨hr, h0⟩ := h r (by simp)
    have hq : ¬ Zero (quo p r) := fun hq => hz (quo_zero hq h0)
    have := roots_lt rs (quo_bytes hp r) (List.nodup_cons.1 hn).2 (fun s hs => by
      obtain ⟨hs2, hs0⟩ := h s (by simp [hs])
      refine ⟨hs2, ?_⟩
      have h1 := quo_val hp hr hs2
      rw [hs0, h0, Nat.xor_zero] at h1
      have hne : s ^^^ r ≠ 0 := fun e => (List.nodup_cons.1 hn).1 (eq_of_xor_zero e ▸ hs)
      rcases gm_eq_zero isW8 (valF_lt (quo_bytes hp r) s) (xor8_lt hs2 hr) h1.symm with h | h
      · exact h
      · exact absurd h hne) hq
    rw [quo_len] at this
    simp only [List.length_cons]; omega
/-- Two polynomials of one length n with the same values at n different places are equal. -/
theorem eq_of_zero_add : ∀ {p q : List Nat}, p.length = q.length → Zero (addP p q) → p = q
  | [], [], _, _ => rfl
  | [], b :: q, h, _ => by simp at h
  | a :: p, [], h, _ => by simp at h
  | a :: p, b :: q, h, hz => by
    rw [eq_of_xor_zero (hz (a ^^^ b) (by simp [addP])), eq_of_zero_add (p := p) (q := q) (by simpa using h) (fun x hx => hz x (List.mem_cons_of_mem _ hx))]
theorem poly_unique {p q rs : List Nat} (hp : Bytes p) (hq : Bytes q) (hl : p.length = q.length) (hn : rs.Nodup) (hrs : p.length ≤ rs.length) (h : ∀ r ∈ rs, r < 256 ∧ valF p r = valF q r) : p = q := by
  refine eq_of_zero_add hl (Classical.byContradiction fun hz => ?_)
  have := roots_lt rs (addP_bytes hp hq) hn (fun r hr => ⟨(h r hr).1, by rw [addP_val hp hq hl, (h r hr).2, Nat.xor_self]⟩) hz
  rw [addP_len _ _ hl] at this
  omega
end Go.Proofs.Ytdgmjedkhjeadaa
/- Plain mathematics of the Toeplitz hash. No program is in sight. -/
namespace Go.Proofs.Ytdgmjedkhjeadaa
set_option linter.unusedVariables false
/-- Bit i of the hash after k bits of a. -/
def tb (seed a : List Bool) (n i : Nat) : Nat → Bool
  | 0 => false
  | k + 1 => tb seed a n i k != (a.getD k false && seed.getD (i + (n - 1 - k)) false)
def toepL (seed a : List Bool) (out k : Nat) : List Bool := (List.range out).map fun i => tb seed a a.length i k
theorem toepL_len (seed a : List Bool) (out k : Nat) : (toepL seed a out k).length = out := by simp [toepL]
theorem toepL_zero (seed a : List Bool) (out : Nat) : toepL seed a out 0 = List.replicate out false := by
  apply List.ext_getElem
  · simp [toepL]
  · intro i h1 h2; simp [toepL, tb]
theorem toepL_skip {seed a : List Bool} {out k : Nat} (h : a.getD k false = false) : toepL seed a out (k + 1) = toepL seed a out k := by
  unfold toepL
  congr 1
  funext i
  simp only [tb, h, Bool.false_and]
  cases tb seed a a.length i k <;> rfl
theorem toepL_none (seed a : List Bool) (k : Nat) : toepL seed a 0 k = [] := rfl
theorem toepL_add {seed a : List Bool} {out k q : Nat} (hk : k < a.length) (hq : q = a.length - 1 - k) (hs : q + out ≤ seed.length) (h : a.getD k false = true) :
    toepL seed a out (k + 1) = List.zipWith (fun x y => x != y) (toepL seed a out k) ((seed.drop q).take out) := by
  apply List.ext_getElem
  · simp [toepL]; omega
  · intro i h1 h2
    have hi : i < out := by simpa [toepL] using h1
    simp only [toepL, List.getElem_map, List.getElem_range, List.getElem_zipWith, List.getElem_take, List.getElem_drop, tb, h, Bool.true_and]
    rw [← hq, List.getD_eq_getElem?_getD, List.getElem?_eq_getElem (by omega), Option.getD_some]
    congr 2
    omega
/-- The hash of the xor is the xor of the hashes. -/
theorem tb_xor (seed a b : List Bool) (n i : Nat) : ∀ k, k ≤ a.length → k ≤ b.length →
    tb seed (List.zipWith (fun x y => x != y) a b) n i k = (tb seed a n i k != tb seed b n i k)
  | 0, _, _ => rfl
  | k + 1, ha, hb => by
    simp only [tb]
    rw [tb_xor seed a b n i k (by omega) (by omega)]
    have e : (List.zipWith (fun x y => x != y) a b).getD k false = (a.getD k false != b.getD k false) := by
      simp only [List.getD_eq_getElem?_getD]
      rw [List.getElem?_eq_getElem (by simp; omega), List.getElem?_eq_getElem (by omega), List.getElem?_eq_getElem (by omega)]
      simp
    rw [e]
    cases tb seed a n i k <;> cases tb seed b n i k <;> cases a.getD k false <;> cases b.getD k false <;> cases seed.getD (i + (n - 1 - k)) false <;> rfl
end Go.Proofs.Ytdgmjedkhjeadaa
