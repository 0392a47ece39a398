/- Plain mathematics: the product of a finite field as the program multiplies. No program is in sight. -/

namespace Go.Proofs.YtblilfbhohnbgaaGreat

/-- The polynomial of the field of a width. -/
def modN (w : Nat) : Nat := if w = 8 then 0x11b else if w = 16 then 0x1002b else if w = 32 then 0x10000008d else 0
/-- Times x. -/
def xt (w a : Nat) : Nat := if a * 2 / 2 ^ w = 0 then a * 2 else (a * 2) ^^^ modN w
/-- The program's product: f rounds. -/
def tim (w : Nat) : Nat → Nat → Nat → Nat → Nat
  | 0, _, _, n => n
  | f + 1, a, b, n => if b = 0 then n else tim w f (xt w a) (b / 2) (if b % 2 = 1 then n ^^^ a else n)
def IsW (w : Nat) : Prop := w = 8 ∨ w = 16 ∨ w = 32
theorem IsW.le {w : Nat} (h : IsW w) : w ≤ 32 := by unfold IsW at h; omega
theorem IsW.pos {w : Nat} (h : IsW w) : 8 ≤ w := by unfold IsW at h; omega
theorem IsW.pow {w : Nat} (h : IsW w) : 2 ^ w ≤ 4294967296 := by rcases h with rfl | rfl | rfl <;> decide
theorem modN_lt {w : Nat} (h : IsW w) : modN w < 2 ^ w * 2 := by rcases h with rfl | rfl | rfl <;> decide
theorem modN_ge {w : Nat} (h : IsW w) : 2 ^ w ≤ modN w := by rcases h with rfl | rfl | rfl <;> decide
theorem xor_lt {a b k : Nat} (ha : a < 2 ^ k) (hb : b < 2 ^ k) : a ^^^ b < 2 ^ k := Nat.xor_lt_two_pow ha hb

theorem top_clear {w a b : Nat} (ha : a < 2 ^ w * 2) (ha' : 2 ^ w ≤ a) (hb : b < 2 ^ w * 2) (hb' : 2 ^ w ≤ b) : a ^^^ b < 2 ^ w := by
  have e : 2 ^ w * 2 = 2 ^ (w + 1) := by rw [Nat.pow_succ]
  have h1 : a ^^^ b < 2 ^ (w + 1) := xor_lt (e ▸ ha) (e ▸ hb)
  have t : ∀ x, x < 2 ^ w * 2 → 2 ^ w ≤ x → x.testBit w = true := by
    intro x h h'
    rw [Nat.testBit_eq_decide_div_mod_eq]
    have : x / 2 ^ w = 1 := by
      have hp : 0 < 2 ^ w := Nat.two_pow_pos w
      apply Nat.le_antisymm
      · have : x / 2 ^ w < 2 := by rw [Nat.div_lt_iff_lt_mul hp]; omega
        omega
      · exact (Nat.le_div_iff_mul_le hp).2 (by omega)
    simp [this]
  refine Nat.lt_of_lt_of_le (m := 2 ^ w) ?_ (Nat.le_refl _)
  apply Nat.lt_pow_two_of_testBit
  intro i hi
  rcases Nat.lt_or_ge i (w + 1) with h | h
  · obtain rfl : i = w := by omega
    rw [Nat.testBit_xor, t a ha ha', t b hb hb']; rfl
  · exact Nat.testBit_lt_two_pow (Nat.lt_of_lt_of_le h1 (Nat.pow_le_pow_right (by omega) h))

theorem xt_lt {w a : Nat} (h : IsW w) (ha : a < 2 ^ w) : xt w a < 2 ^ w := by
  have hp : 0 < 2 ^ w := Nat.two_pow_pos w
  unfold xt
  split
  · rename_i h0
    rw [Nat.div_eq_zero_iff] at h0
    omega
  · rename_i h0
    have : 2 ^ w ≤ a * 2 := by
      rcases Nat.lt_or_ge (a * 2) (2 ^ w) with h1 | h1
      · exact absurd (Nat.div_eq_of_lt h1) h0
      · exact h1
    exact top_clear (by omega) this (modN_lt h) (modN_ge h)
theorem tim_lt {w : Nat} (h : IsW w) : ∀ f a b n, a < 2 ^ w → n < 2 ^ w → tim w f a b n < 2 ^ w
  | 0, _, _, _, _, hn => hn
  | f + 1, a, b, n, ha, hn => by
    unfold tim
    split
    · exact hn
    · refine tim_lt h f _ _ _ (xt_lt h ha) ?_
      split
      · exact xor_lt hn ha
      · exact hn
/-- More rounds than bits change nothing. -/
theorem tim_more (w : Nat) : ∀ f a b n, b < 2 ^ f → ∀ k, tim w (f + k) a b n = tim w f a b n
  | 0, a, b, n, hb, k => by
    obtain rfl : b = 0 := by simpa using hb
    cases k <;> simp [tim]
  | f + 1, a, b, n, hb, k => by
    rw [show f + 1 + k = (f + k) + 1 by omega]
    unfold tim
    split
    · rfl
    · exact tim_more w f _ _ _ (by rw [Nat.pow_succ] at hb; omega) k
theorem tim_zero (w f a n : Nat) : tim w f a 0 n = n := by cases f <;> simp [tim]
theorem tim_round (n f a b m : Nat) (hb : b ≠ 0) (hf : b < 2 ^ f) : ∃ g, f = g + 1 ∧ b / 2 < 2 ^ g ∧ tim n f a b m = tim n g (xt n a) (b / 2) (if b % 2 = 1 then m ^^^ a else m) := by
  cases f with
  | zero => exact absurd (by simpa using hf) hb
  | succ g =>
    refine ⟨g, rfl, by rw [Nat.pow_succ] at hf; omega, ?_⟩
    conv => lhs; unfold tim
    rw [if_neg hb]
/-- The product. -/
def gm (w a b : Nat) : Nat := tim w 64 a b 0
theorem gm_lt {w a b : Nat} (h : IsW w) (ha : a < 2 ^ w) : gm w a b < 2 ^ w := tim_lt h _ _ _ _ ha (Nat.two_pow_pos w)
set_option linter.unusedSectionVars false
set_option linter.unusedVariables false
set_option linter.unusedSimpArgs false

/-! ### Numbers as bit strings -/
theorem bits_split (a : Nat) : a = (a % 2) ^^^ 2 * (a / 2) := by
  apply Nat.eq_of_testBit_eq
  intro i
  rw [Nat.testBit_xor]
  cases i with
  | zero => simp [Nat.testBit_zero]
  | succ i => simp [Nat.testBit_succ, Nat.mul_comm 2]
theorem two_xor (a b : Nat) : 2 * (a ^^^ b) = 2 * a ^^^ 2 * b := by
  apply Nat.eq_of_testBit_eq
  intro i
  rw [Nat.testBit_xor]
  cases i with
  | zero => simp [Nat.testBit_zero]
  | succ i => simp [Nat.testBit_succ, Nat.testBit_xor]
theorem xor_half (a b : Nat) : (a ^^^ b) / 2 = a / 2 ^^^ b / 2 := by
  have := Nat.shiftRight_xor_distrib (a := a) (b := b) (i := 1)
  simpa [Nat.shiftRight_succ] using this
theorem xor_odd (a b : Nat) : (a ^^^ b) % 2 = (a % 2 + b % 2) % 2 := by
  have h : ∀ n : Nat, n % 2 = (n.testBit 0).toNat := fun n => by
    rw [Nat.testBit_zero]
    rcases Nat.mod_two_eq_zero_or_one n with h | h <;> simp [h]
  rw [h, h a, h b, Nat.testBit_xor]
  cases a.testBit 0 <;> cases b.testBit 0 <;> rfl
theorem xor4 (a b c d : Nat) : (a ^^^ b) ^^^ (c ^^^ d) = (a ^^^ c) ^^^ (b ^^^ d) := by
  apply Nat.eq_of_testBit_eq; intro i
  simp only [Nat.testBit_xor]
  cases a.testBit i <;> cases b.testBit i <;> cases c.testBit i <;> cases d.testBit i <;> rfl
theorem xor_cancel (a b : Nat) : a ^^^ b ^^^ b = a := by rw [Nat.xor_assoc, Nat.xor_self, Nat.xor_zero]
theorem eq_of_xor_zero {a b : Nat} (h : a ^^^ b = 0) : a = b := by
  have := congrArg (· ^^^ b) h
  simpa [Nat.xor_assoc] using this

/-! ### Times x -/
theorem xt_eq (w a : Nat) (ha : a < 2 ^ w) : xt w a = (2 * a) ^^^ (if a.testBit (w - 1) then modN w else 0) := by
  have hp : 0 < 2 ^ w := Nat.two_pow_pos w
  have h1 : (a * 2 / 2 ^ w = 0) ↔ a.testBit (w - 1) = false := by
    cases w with
    | zero => simp at ha; subst ha; simp
    | succ w =>
      rw [Nat.add_sub_cancel, Nat.div_eq_zero_iff, Nat.pow_succ]
      constructor
      · intro h
        exact Nat.testBit_lt_two_pow (by rcases h with h | h <;> omega)
      · intro h
        right
        rcases Nat.lt_or_ge a (2 ^ w) with h2 | h2
        · omega
        · exfalso
          rw [Nat.pow_succ] at ha
          have : a / 2 ^ w = 1 := by
            apply Nat.le_antisymm
            · have := (Nat.div_lt_iff_lt_mul (Nat.two_pow_pos w) (x := a) (y := 2)).2 (by omega); omega
            · exact (Nat.le_div_iff_mul_le (Nat.two_pow_pos w)).2 (by omega)
          rw [Nat.testBit_eq_decide_div_mod_eq, this] at h
          simp at h
  unfold xt
  by_cases h : a * 2 / 2 ^ w = 0
  · rw [if_pos h, h1.1 h]; simp [Nat.mul_comm]
  · have : a.testBit (w - 1) = true := by
      cases hb : a.testBit (w - 1) with
      | true => rfl
      | false => exact absurd (h1.2 hb) h
    rw [if_neg h, this]; simp [Nat.mul_comm]
theorem xt_zero (w : Nat) : xt w 0 = 0 := by simp [xt]
theorem xt_xor (w : Nat) {a b : Nat} (ha : a < 2 ^ w) (hb : b < 2 ^ w) : xt w (a ^^^ b) = xt w a ^^^ xt w b := by
  rw [xt_eq w _ (xor_lt ha hb), xt_eq w _ ha, xt_eq w _ hb, two_xor, Nat.testBit_xor, xor4]
  congr 1
  cases a.testBit (w - 1) <;> cases b.testBit (w - 1) <;> simp

/-! ### A polynomial acts on the elements -/
/-- f bits of b, times v. -/
def act (w : Nat) : Nat → Nat → Nat → Nat
  | 0, _, _ => 0
  | f + 1, b, v => (if b % 2 = 1 then v else 0) ^^^ act w f (b / 2) (xt w v)
section
variable {w : Nat} (hw : IsW w)
include hw
theorem bit_lt {b v : Nat} (hv : v < 2 ^ w) : (if b % 2 = 1 then v else 0) < 2 ^ w := by
  split
  · exact hv
  · exact Nat.two_pow_pos w
theorem act_lt : ∀ (f b v : Nat), v < 2 ^ w → act w f b v < 2 ^ w
  | 0, _, _, _ => Nat.two_pow_pos w
  | f + 1, b, v, hv => xor_lt (bit_lt hw hv) (act_lt f _ _ (xt_lt hw hv))
omit hw in
theorem act_zero (w : Nat) : ∀ f v, act w f 0 v = 0
  | 0, _ => rfl
  | f + 1, v => by simp [act, act_zero w f]
omit hw in
theorem act_null (w : Nat) : ∀ f b, act w f b 0 = 0
  | 0, _ => rfl
  | f + 1, b => by simp [act, xt_zero, act_null w f]
omit hw in
theorem act_more (w : Nat) : ∀ f b v, b < 2 ^ f → ∀ k, act w (f + k) b v = act w f b v
  | 0, b, v, hb, k => by
    obtain rfl : b = 0 := by simpa using hb
    rw [act_zero, act_zero]
  | f + 1, b, v, hb, k => by
    rw [show f + 1 + k = (f + k) + 1 by omega]
    unfold act
    rw [act_more w f _ _ (by rw [Nat.pow_succ] at hb; omega) k]
omit hw in
theorem act_fuel (w : Nat) {f g b : Nat} (v : Nat) (hf : b < 2 ^ f) (hg : b < 2 ^ g) : act w f b v = act w g b v := by
  rcases Nat.le_total f g with h | h
  · have := act_more w f b v hf (g - f)
    rw [show f + (g - f) = g by omega] at this
    exact this.symm
  · have := act_more w g b v hg (f - g)
    rw [show g + (f - g) = f by omega] at this
    exact this
theorem act_xor_right : ∀ (f b u v : Nat), u < 2 ^ w → v < 2 ^ w → act w f b (u ^^^ v) = act w f b u ^^^ act w f b v
  | 0, _, _, _, _, _ => by simp [act]
  | f + 1, b, u, v, hu, hv => by
    unfold act
    rw [xt_xor w hu hv, act_xor_right f _ _ _ (xt_lt hw hu) (xt_lt hw hv), xor4 (if b % 2 = 1 then u else 0)]
    congr 1
    split <;> simp
theorem act_xor_left : ∀ (f a b v : Nat), v < 2 ^ w → act w f (a ^^^ b) v = act w f a v ^^^ act w f b v
  | 0, _, _, _, _ => by simp [act]
  | f + 1, a, b, v, hv => by
    unfold act
    rw [xor_half, act_xor_left f _ _ _ (xt_lt hw hv), xor4 (if a % 2 = 1 then v else 0)]
    congr 1
    rw [xor_odd]
    rcases Nat.mod_two_eq_zero_or_one a with h | h <;> rcases Nat.mod_two_eq_zero_or_one b with h' | h' <;> simp [h, h']
theorem act_xt : ∀ (f b v : Nat), v < 2 ^ w → act w f b (xt w v) = xt w (act w f b v)
  | 0, _, _, _ => by simp [act, xt_zero]
  | f + 1, b, v, hv => by
    unfold act
    rw [act_xt f _ _ (xt_lt hw hv), xt_xor w (bit_lt hw hv) (act_lt hw f _ _ (xt_lt hw hv))]
    congr 1
    split
    · rfl
    · rw [xt_zero]
theorem act_comm : ∀ (f g b a v : Nat), v < 2 ^ w → act w f b (act w g a v) = act w g a (act w f b v)
  | 0, g, _, a, _, _ => by simp [act, act_null]
  | f + 1, g, b, a, v, hv => by
    have e : ∀ x, act w (f + 1) b x = (if b % 2 = 1 then x else 0) ^^^ act w f (b / 2) (xt w x) := fun _ => rfl
    rw [e, e, ← act_xt hw g _ _ hv, act_comm f g _ _ _ (xt_lt hw hv), act_xor_right hw g _ _ _ (bit_lt hw hv) (act_lt hw f _ _ (xt_lt hw hv))]
    congr 1
    split
    · rfl
    · rw [act_null]
/-- The program's product is the action. -/
theorem tim_act : ∀ (f a b n : Nat), tim w f a b n = n ^^^ act w f b a
  | 0, _, _, _ => by simp [tim, act]
  | f + 1, a, b, n => by
    unfold tim act
    split
    · rename_i h; subst h; simp [act_zero]
    · rw [tim_act f]
      split
      · rw [Nat.xor_assoc]
      · simp
theorem gm_act (a b : Nat) : gm w a b = act w 64 b a := by unfold gm; rw [tim_act hw]; simp
/-- An element acts on 1 as itself. -/
theorem act_one : ∀ (f j a : Nat), f + j ≤ w → a < 2 ^ f → act w f a (2 ^ j) = a * 2 ^ j
  | 0, j, a, _, ha => by
    obtain rfl : a = 0 := by simpa using ha
    simp [act]
  | f + 1, j, a, hj, ha => by
    unfold act
    rcases Nat.lt_or_ge (j + 1) w with h1 | h1
    · have hx : xt w (2 ^ j) = 2 ^ (j + 1) := by
        unfold xt
        rw [← Nat.pow_succ, if_pos (Nat.div_eq_of_lt (Nat.pow_lt_pow_right (by omega) h1))]
      rw [hx, act_one f (j + 1) (a / 2) (by omega) (by rw [Nat.pow_succ] at ha; omega)]
      have e : a * 2 ^ j = (a % 2) * 2 ^ j ^^^ (2 * (a / 2)) * 2 ^ j := by
        conv => lhs; rw [bits_split a]
        rw [Nat.mul_comm (a % 2 ^^^ _), Nat.mul_comm (a % 2), Nat.mul_comm (2 * (a / 2))]
        simp only [← Nat.shiftLeft_eq, Nat.mul_comm (2 ^ j)]
        rw [Nat.shiftLeft_xor_distrib]
      rw [e]
      congr 1
      · rcases Nat.mod_two_eq_zero_or_one a with h | h <;> simp [h]
      · rw [Nat.pow_succ, Nat.mul_comm 2 (a / 2), Nat.mul_assoc, Nat.mul_comm 2]
    · obtain rfl : f = 0 := by omega
      have : a = 0 ∨ a = 1 := by simp at ha; omega
      rcases this with rfl | rfl <;> simp [act]
theorem one_lt' : 1 < 2 ^ w := Nat.one_lt_two_pow (by have := hw.pos; omega)
omit hw in
theorem lt64 {a : Nat} (hw : IsW w) (ha : a < 2 ^ w) : a < 2 ^ 64 := Nat.lt_of_lt_of_le ha (Nat.pow_le_pow_right (by omega) (by have := hw.le; omega))
theorem act_self {a : Nat} (ha : a < 2 ^ w) : act w 64 a 1 = a := by
  rw [act_fuel w 1 (lt64 hw ha) ha]
  have := act_one hw w 0 a (by omega) ha
  simpa using this

/-! ### The laws of the product -/
theorem gm_comm {a b : Nat} (ha : a < 2 ^ w) (hb : b < 2 ^ w) : gm w a b = gm w b a := by
  rw [gm_act hw, gm_act hw]
  conv => lhs; rw [← act_self hw ha]
  conv => rhs; rw [← act_self hw hb]
  rw [act_comm hw _ _ _ _ _ (one_lt' hw)]
theorem gm_assoc {a b c : Nat} (ha : a < 2 ^ w) (hb : b < 2 ^ w) (hc : c < 2 ^ w) : gm w (gm w a b) c = gm w a (gm w b c) := by
  rw [gm_comm hw ha (gm_lt hw hb), gm_act hw (gm w b c) a, gm_act hw b c, ← act_comm hw _ _ _ _ _ hb, ← gm_act hw b a, ← gm_act hw, gm_comm hw ha hb]
theorem gm_xor_left {a b c : Nat} (ha : a < 2 ^ w) (hb : b < 2 ^ w) : gm w (a ^^^ b) c = gm w a c ^^^ gm w b c := by
  rw [gm_act hw, gm_act hw, gm_act hw, act_xor_right hw _ _ _ _ ha hb]
theorem gm_xor_right {a b c : Nat} (ha : a < 2 ^ w) : gm w a (b ^^^ c) = gm w a b ^^^ gm w a c := by
  rw [gm_act hw, gm_act hw, gm_act hw, act_xor_left hw _ _ _ _ ha]
theorem gm_one {a : Nat} : gm w a 1 = a := by
  rw [gm_act hw]
  simp [act, act_zero]
theorem one_gm {a : Nat} (ha : a < 2 ^ w) : gm w 1 a = a := by rw [gm_comm hw (one_lt' hw) ha, gm_one hw]
theorem gm_zero {a : Nat} : gm w a 0 = 0 := by rw [gm_act hw, act_zero]
theorem zero_gm {a : Nat} : gm w 0 a = 0 := by rw [gm_act hw, act_null]
theorem gm_two {a : Nat} : gm w a 2 = xt w a := by
  rw [gm_act hw]
  simp [act, act_zero]
end

/-! ### Linear maps -/
/-- f is additive on the numbers below 2^w, and 0 at 0: then it is known from the powers of 2. -/
theorem add_zero_of_basis : ∀ (w : Nat) (f : Nat → Nat), f 0 = 0 → (∀ a b, a < 2 ^ w → b < 2 ^ w → f (a ^^^ b) = f a ^^^ f b) → (∀ i, i < w → f (2 ^ i) = 0) → ∀ a, a < 2 ^ w → f a = 0
  | 0, f, h0, _, _, a, ha => by
    obtain rfl : a = 0 := by simpa using ha
    exact h0
  | w + 1, f, h0, hadd, hb, a, ha => by
    have ha2 : a / 2 < 2 ^ w := by rw [Nat.pow_succ] at ha; omega
    have ih := add_zero_of_basis w (fun x => f (2 * x)) (by simpa using h0) (fun x y hx hy => by
      show f (2 * (x ^^^ y)) = _
      rw [two_xor]
      exact hadd _ _ (by rw [Nat.pow_succ]; omega) (by rw [Nat.pow_succ]; omega)) (fun i hi => by
      show f (2 * 2 ^ i) = 0
      rw [Nat.mul_comm, ← Nat.pow_succ]
      exact hb (i + 1) (by omega)) (a / 2) ha2
    have hp : 0 < 2 ^ w := Nat.two_pow_pos w
    rw [bits_split a, hadd _ _ (by rw [Nat.pow_succ]; omega) (by rw [Nat.pow_succ]; omega), ih, Nat.xor_zero]
    rcases Nat.mod_two_eq_zero_or_one a with h | h
    · rw [h]; exact h0
    · rw [h]; exact hb 0 (by omega)
/-- A linear map by its values at the powers of 2. -/
def lin : List Nat → Nat → Nat
  | [], _ => 0
  | m :: M, a => (if a % 2 = 1 then m else 0) ^^^ lin M (a / 2)
theorem lin_zero : ∀ M, lin M 0 = 0
  | [] => rfl
  | m :: M => by simp [lin, lin_zero M]
theorem lin_xor : ∀ M a b, lin M (a ^^^ b) = lin M a ^^^ lin M b
  | [], _, _ => by simp [lin]
  | m :: M, a, b => by
    unfold lin
    rw [xor_half, lin_xor M, xor4 (if a % 2 = 1 then m else 0)]
    congr 1
    rw [xor_odd]
    rcases Nat.mod_two_eq_zero_or_one a with h | h <;> rcases Nat.mod_two_eq_zero_or_one b with h' | h' <;> simp [h, h']

/-! ### Squares -/
def sq (w a : Nat) : Nat := gm w a a
def sqN (w : Nat) : Nat → Nat → Nat
  | 0, a => a
  | k + 1, a => sqN w k (sq w a)
def invM (w : Nat) : List Nat :=
  if w = 8 then [188, 42, 40, 134, 44, 0, 142, 222]
  else if w = 16 then [1842, 29368, 29370, 32406, 29374, 30898, 32414, 36026, 29358, 64036, 30866, 0, 32478, 58964, 35898, 22674]
  else [1425871460, 3262106980, 3262106982, 596276322, 3262106978, 2537278634, 596276330, 2004248338, 3262106994, 3250443606, 2537278602, 1462372684, 596276266, 3063135876, 2004248466, 2505424958, 3262106738, 1451497976, 3250444118, 2529415882, 2537277578, 1418076124, 1462370636, 3080433092, 596272170, 0, 3063127684, 3306814086, 2004232082, 3115950048, 2505392190, 930490298]
theorem basis_check {w : Nat} (hw : IsW w) : ∀ i, i < w → lin (invM w) (sq w (2 ^ i) ^^^ 2 ^ i) ^^^ 2 * (2 ^ i / 2) = 0 := by
  rcases hw with rfl | rfl | rfl <;> decide +kernel
theorem frob_check {w : Nat} (hw : IsW w) : sqN w w 2 = 2 ∧ sqN w w 1 = 1 := by
  rcases hw with rfl | rfl | rfl <;> decide +kernel
section
variable {w : Nat} (hw : IsW w)
include hw
theorem sq_lt {a : Nat} (ha : a < 2 ^ w) : sq w a < 2 ^ w := gm_lt hw ha
theorem sq_xor {a b : Nat} (ha : a < 2 ^ w) (hb : b < 2 ^ w) : sq w (a ^^^ b) = sq w a ^^^ sq w b := by
  unfold sq
  rw [gm_xor_left hw ha hb, gm_xor_right hw ha, gm_xor_right hw hb, gm_comm hw hb ha, xor4, Nat.xor_comm (gm w a b) (gm w b b), ← xor4, Nat.xor_self, Nat.xor_zero]
theorem sq_gm {a b : Nat} (ha : a < 2 ^ w) (hb : b < 2 ^ w) : sq w (gm w a b) = gm w (sq w a) (sq w b) := by
  unfold sq
  rw [gm_assoc hw ha hb (gm_lt hw ha), ← gm_assoc hw hb ha hb, gm_comm hw hb ha, gm_assoc hw ha hb hb, ← gm_assoc hw ha ha (gm_lt hw hb)]
theorem sqN_xor : ∀ k {a b : Nat}, a < 2 ^ w → b < 2 ^ w → sqN w k (a ^^^ b) = sqN w k a ^^^ sqN w k b
  | 0, _, _, _, _ => rfl
  | k + 1, a, b, ha, hb => by unfold sqN; rw [sq_xor hw ha hb, sqN_xor k (sq_lt hw ha) (sq_lt hw hb)]
theorem sqN_gm : ∀ k {a b : Nat}, a < 2 ^ w → b < 2 ^ w → sqN w k (gm w a b) = gm w (sqN w k a) (sqN w k b)
  | 0, _, _, _, _ => rfl
  | k + 1, a, b, ha, hb => by unfold sqN; rw [sq_gm hw ha hb, sqN_gm k (sq_lt hw ha) (sq_lt hw hb)]
theorem sqN_zero : ∀ k, sqN w k 0 = 0
  | 0 => rfl
  | k + 1 => by unfold sqN; rw [show sq w 0 = 0 from zero_gm hw]; exact sqN_zero k
theorem two_lt : 2 < 2 ^ w := Nat.lt_of_lt_of_le (by decide : 2 < 2 ^ 8) (Nat.pow_le_pow_right (by omega) hw.pos)
/-- a^(2^w) = a. -/
theorem frob {a : Nat} (ha : a < 2 ^ w) : sqN w w a = a := by
  have key : ∀ (f b v : Nat), v < 2 ^ w → sqN w w v = v → sqN w w (act w f b v) = act w f b v := by
    intro f
    induction f with
    | zero => intro b v _ _; exact sqN_zero hw w
    | succ f ih =>
      intro b v hv hs
      unfold act
      rw [sqN_xor hw w (bit_lt hw hv) (act_lt hw f _ _ (xt_lt hw hv))]
      have hx : sqN w w (xt w v) = xt w v := by
        rw [← gm_two hw, sqN_gm hw w hv (two_lt hw), hs, (frob_check hw).1]
      rw [ih _ _ (xt_lt hw hv) hx]
      congr 1
      split
      · exact hs
      · exact sqN_zero hw w
  rw [← act_self hw ha]
  exact key 64 a 1 (one_lt' hw) (frob_check hw).2
/-- Only 0 and 1 are their own squares. -/
theorem idem {a : Nat} (ha : a < 2 ^ w) (h : sq w a = a) : a = 0 ∨ a = 1 := by
  have := add_zero_of_basis w (fun x => lin (invM w) (sq w x ^^^ x) ^^^ 2 * (x / 2)) (by simp [show sq w 0 = 0 from zero_gm hw, lin_zero]) (fun x y hx hy => by
    show lin (invM w) (sq w (x ^^^ y) ^^^ (x ^^^ y)) ^^^ 2 * ((x ^^^ y) / 2) = _
    rw [sq_xor hw hx hy, xor_half, two_xor, xor4, lin_xor, xor4]) (basis_check hw) a ha
  simp only [h, Nat.xor_self, lin_zero, Nat.zero_xor] at this
  omega

/-! ### Powers and inverses -/
end
def pw (w a : Nat) : Nat → Nat
  | 0 => 1
  | n + 1 => gm w (pw w a n) a
section
variable {w : Nat} (hw : IsW w)
include hw
theorem pw_lt {a : Nat} : ∀ n, pw w a n < 2 ^ w
  | 0 => one_lt' hw
  | n + 1 => gm_lt hw (pw_lt n)
theorem pw_add {a : Nat} (ha : a < 2 ^ w) (m : Nat) : ∀ n, pw w a (m + n) = gm w (pw w a m) (pw w a n)
  | 0 => by rw [show pw w a 0 = 1 from rfl, gm_one hw]; rfl
  | n + 1 => by
    rw [← Nat.add_assoc]
    show gm w (pw w a (m + n)) a = gm w (pw w a m) (gm w (pw w a n) a)
    rw [pw_add ha m n, gm_assoc hw (pw_lt hw m) (pw_lt hw n) ha]
theorem pw_one {a : Nat} (ha : a < 2 ^ w) : pw w a 1 = a := one_gm hw ha
theorem pw_sqN {a : Nat} (ha : a < 2 ^ w) : ∀ k, pw w a (2 ^ k) = sqN w k a := by
  have step : ∀ k, sqN w (k + 1) a = sq w (sqN w k a) := by
    intro k
    have : ∀ k b, sqN w (k + 1) b = sq w (sqN w k b) := by
      intro k
      induction k with
      | zero => intro b; rfl
      | succ k ih => intro b; exact ih (sq w b)
    exact this k a
  intro k
  induction k with
  | zero => simpa [sqN] using pw_one hw ha
  | succ k ih => rw [step, ← ih, Nat.pow_succ, Nat.mul_two, pw_add hw ha]; rfl
theorem pw_frob {a : Nat} (ha : a < 2 ^ w) : pw w a (2 ^ w) = a := by rw [pw_sqN hw ha, frob hw ha]
/-- a^(2^w - 1) = 1 for an element that is not 0. -/
theorem pw_unit {a : Nat} (ha : a < 2 ^ w) (h0 : a ≠ 0) : pw w a (2 ^ w - 1) = 1 := by
  have h2 := two_lt hw
  have he : sq w (pw w a (2 ^ w - 1)) = pw w a (2 ^ w - 1) := by
    unfold sq
    rw [← pw_add hw ha, show 2 ^ w - 1 + (2 ^ w - 1) = 2 ^ w + (2 ^ w - 2) by omega, pw_add hw ha, pw_frob hw ha]
    conv => rhs; rw [show 2 ^ w - 1 = 1 + (2 ^ w - 2) by omega, pw_add hw ha, pw_one hw ha]
  rcases idem hw (pw_lt hw _) he with h | h
  · exfalso
    have := pw_frob hw ha
    rw [show 2 ^ w = (2 ^ w - 1) + 1 by omega] at this
    change gm w (pw w a (2 ^ w - 1)) a = a at this
    rw [h, zero_gm hw] at this
    exact h0 this.symm
  · exact h
end
/-- The inverse. -/
def inv (w a : Nat) : Nat := pw w a (2 ^ w - 2)
section
variable {w : Nat} (hw : IsW w)
include hw
theorem inv_lt (a : Nat) : inv w a < 2 ^ w := pw_lt hw _
theorem gm_inv {a : Nat} (ha : a < 2 ^ w) (h0 : a ≠ 0) : gm w a (inv w a) = 1 := by
  have h2 := two_lt hw
  have := pw_unit hw ha h0
  rw [show 2 ^ w - 1 = 1 + (2 ^ w - 2) by omega, pw_add hw ha, pw_one hw ha] at this
  exact this
theorem gm_eq_zero {a b : Nat} (ha : a < 2 ^ w) (hb : b < 2 ^ w) (h : gm w a b = 0) : a = 0 ∨ b = 0 := by
  by_cases h0 : a = 0
  · exact .inl h0
  · right
    have h1 := congrArg (gm w (inv w a)) h
    rw [← gm_assoc hw (inv_lt hw a) ha hb, gm_comm hw (inv_lt hw a) ha, gm_inv hw ha h0, one_gm hw hb, gm_zero hw] at h1
    exact h1
theorem inv_unique {a x : Nat} (ha : a < 2 ^ w) (hx : x < 2 ^ w) (h : gm w a x = 1) : x = inv w a := by
  have h0 : a ≠ 0 := by
    rintro rfl
    rw [zero_gm hw] at h
    exact absurd h (by decide)
  have h1 := congrArg (gm w (inv w a)) h
  rw [← gm_assoc hw (inv_lt hw a) ha hx, gm_comm hw (inv_lt hw a) ha, gm_inv hw ha h0, one_gm hw hx, gm_one hw] at h1
  exact h1
end
end Go.Proofs.YtblilfbhohnbgaaGreat
namespace Go.Proofs.YtblilfbhohnbgaaGreat
set_option linter.unusedVariables false
def Bytes (l : List Nat) : Prop := ∀ x ∈ l, x < 256
/-- The value of a polynomial. -/
def valF (p : List Nat) (x : Nat) : Nat := p.foldr (fun c v => gm 8 v x ^^^ c) 0
theorem valF_nil (x : Nat) : valF [] x = 0 := rfl
theorem valF_cons (c : Nat) (p : List Nat) (x : Nat) : valF (c :: p) x = gm 8 (valF p x) x ^^^ c := rfl
theorem Bytes.tail {c : Nat} {p : List Nat} (h : Bytes (c :: p)) : Bytes p := fun y hy => h y (by simp [hy])
theorem Bytes.head {c : Nat} {p : List Nat} (h : Bytes (c :: p)) : c < 256 := h c (by simp)
theorem Bytes.cons {c : Nat} {p : List Nat} (hc : c < 256) (h : Bytes p) : Bytes (c :: p) := fun y hy => by
  rcases List.mem_cons.1 hy with rfl | hy
  · exact hc
  · exact h y hy
theorem Bytes.nil : Bytes [] := fun _ h => by cases h
theorem Bytes.append {p q : List Nat} (hp : Bytes p) (hq : Bytes q) : Bytes (p ++ q) := fun y hy => by
  rcases List.mem_append.1 hy with h | h
  · exact hp y h
  · exact hq y h
theorem Bytes.take {p : List Nat} (hp : Bytes p) (k : Nat) : Bytes (p.take k) := fun y hy => hp y (List.mem_of_mem_take hy)
theorem Bytes.drop {p : List Nat} (hp : Bytes p) (k : Nat) : Bytes (p.drop k) := fun y hy => hp y (List.mem_of_mem_drop hy)
theorem Bytes.zeros (k : Nat) : Bytes (List.replicate k 0) := fun y hy => by rw [(List.mem_replicate.1 hy).2]; decide
theorem isW8 : IsW 8 := .inl rfl
theorem gm8_lt {a b : Nat} (ha : a < 256) : gm 8 a b < 256 := gm_lt isW8 ha
theorem xor8_lt {a b : Nat} (ha : a < 256) (hb : b < 256) : a ^^^ b < 256 := xor_lt (k := 8) ha hb
theorem valF_lt {p : List Nat} (hp : Bytes p) (x : Nat) : valF p x < 256 := by
  induction p with
  | nil => simp [valF]
  | cons c p ih => exact xor8_lt (gm8_lt (ih hp.tail)) hp.head
theorem valF_drop (p : List Nat) (x q : Nat) (h : q < p.length) : valF (p.drop q) x = gm 8 (valF (p.drop (q + 1)) x) x ^^^ p[q] := by
  rw [List.drop_eq_getElem_cons h]; rfl
theorem valF_zeros : ∀ (k x : Nat), valF (List.replicate k 0) x = 0
  | 0, _ => rfl
  | k + 1, x => by rw [List.replicate_succ, valF_cons, valF_zeros k x, zero_gm isW8]; rfl
/-- Zeros behind a polynomial change no value. -/
theorem valF_pad (p : List Nat) (k x : Nat) : valF (p ++ List.replicate k 0) x = valF p x := by
  induction p with
  | nil => rw [List.nil_append, valF_zeros]; rfl
  | cons c p ih => rw [List.cons_append, valF_cons, ih, valF_cons]
/-- The sum of two polynomials of one length; a multiple. -/
def addP (p q : List Nat) : List Nat := List.zipWith (· ^^^ ·) p q
def mulP (p : List Nat) (c : Nat) : List Nat := p.map fun x => gm 8 x c
theorem addP_len (p q : List Nat) (h : p.length = q.length) : (addP p q).length = p.length := by simp [addP, h]
theorem mulP_len (p : List Nat) (c : Nat) : (mulP p c).length = p.length := by simp [mulP]
theorem addP_bytes {p q : List Nat} (hp : Bytes p) (hq : Bytes q) : Bytes (addP p q) := by
  induction p generalizing q with
  | nil => intro y hy; simp [addP] at hy
  | cons a p ih =>
    cases q with
    | nil => intro y hy; simp [addP] at hy
    | cons b q => exact Bytes.cons (xor8_lt hp.head hq.head) (ih hp.tail hq.tail)
theorem mulP_bytes {p : List Nat} (hp : Bytes p) (c : Nat) : Bytes (mulP p c) := fun y hy => by
  obtain ⟨x, hx, rfl⟩ := List.mem_map.1 hy
  exact gm8_lt (hp x hx)
theorem addP_val {p q : List Nat} (hp : Bytes p) (hq : Bytes q) (h : p.length = q.length) (x : Nat) : valF (addP p q) x = valF p x ^^^ valF q x := by
  induction p generalizing q with
  | nil => cases q with
    | nil => simp [addP, valF]
    | cons b q => simp at h
  | cons a p ih =>
    cases q with
    | nil => simp at h
    | cons b q =>
      show gm 8 (valF (addP p q) x) x ^^^ (a ^^^ b) = _
      rw [ih hp.tail hq.tail (by simpa using h), gm_xor_left isW8 (valF_lt hp.tail x) (valF_lt hq.tail x), valF_cons, valF_cons]
      exact xor4 _ _ _ _
theorem mulP_val {p : List Nat} (hp : Bytes p) {c x : Nat} (hc : c < 256) (hx : x < 256) : valF (mulP p c) x = gm 8 (valF p x) c := by
  induction p with
  | nil => rw [valF_nil, zero_gm isW8]; rfl
  | cons a p ih =>
    show gm 8 (valF (mulP p c) x) x ^^^ gm 8 a c = _
    rw [ih hp.tail, valF_cons, gm_xor_left isW8 (gm8_lt (valF_lt hp.tail x)) hp.head]
    congr 1
    have hv := valF_lt hp.tail x
    rw [gm_assoc isW8 hv hc hx, gm_assoc isW8 hv hx hc, gm_comm isW8 hc hx]
/-- The product of all (x ^^^ place). -/
def prodX : List Nat → Nat → Nat
  | [], _ => 1
  | r :: rs, x => gm 8 (prodX rs x) (x ^^^ r)
theorem prodX_lt : ∀ (rs : List Nat) (x : Nat), prodX rs x < 256
  | [], _ => by show 1 < 256; decide
  | r :: rs, x => gm8_lt (prodX_lt rs x)
theorem prodX_zero : ∀ {rs : List Nat} {x : Nat}, x ∈ rs → prodX rs x = 0
  | r :: rs, x, h => by
    rcases List.mem_cons.1 h with rfl | h
    · rw [prodX, Nat.xor_self, gm_zero isW8]
    · rw [prodX, prodX_zero h, zero_gm isW8]
theorem prodX_ne : ∀ {rs : List Nat} {x : Nat}, Bytes rs → x < 256 → x ∉ rs → prodX rs x ≠ 0
  | [], _, _, _, _ => by show 1 ≠ 0; decide
  | r :: rs, x, hb, hx, h => fun h0 => by
    rcases gm_eq_zero isW8 (prodX_lt rs x) (xor8_lt hx hb.head) h0 with h1 | h1
    · exact prodX_ne hb.tail hx (fun hm => h (by simp [hm])) h1
    · exact h (by rw [eq_of_xor_zero h1]; simp)
theorem prodX_snoc : ∀ (rs : List Nat) (r x : Nat), Bytes rs → x < 256 → r < 256 → prodX (rs ++ [r]) x = gm 8 (prodX rs x) (x ^^^ r)
  | [], r, x, _, _, _ => rfl
  | s :: rs, r, x, hb, hx, hr => by
    rw [List.cons_append, prodX, prodX_snoc rs r x hb.tail hx hr, prodX]
    have h1 := prodX_lt rs x
    have h2 := xor8_lt hx hb.head
    have h3 := xor8_lt hx hr
    rw [gm_assoc isW8 h1 h3 h2, gm_assoc isW8 h1 h2 h3, gm_comm isW8 h3 h2]
/-- A step of the program: the polynomial times (X + x), cut to as many coefficients. -/
def upN (nodes : List Nat) (x : Nat) : List Nat := addP (0 :: nodes.take (nodes.length - 1)) (mulP nodes x)
def stepO (out nodes : List Nat) (x y : Nat) : List Nat := addP out (mulP (nodes.take (nodes.length - 1)) (gm 8 (y ^^^ valF out x) (inv 8 (valF nodes x))))
theorem upN_len {nodes : List Nat} (h : 0 < nodes.length) (x : Nat) : (upN nodes x).length = nodes.length := by
  unfold upN; rw [addP_len _ _ (by simp [mulP_len]; omega)]; simp; omega
theorem upN_bytes {nodes : List Nat} (h : Bytes nodes) (x : Nat) : Bytes (upN nodes x) := addP_bytes (Bytes.cons (by decide) (h.take _)) (mulP_bytes h x)
theorem stepO_len {out nodes : List Nat} (h : nodes.length = out.length + 1) (x y : Nat) : (stepO out nodes x y).length = out.length := by
  unfold stepO; rw [addP_len _ _ (by simp [mulP_len, h])]
theorem stepO_bytes {out nodes : List Nat} (h : Bytes out) (h' : Bytes nodes) (x y : Nat) : Bytes (stepO out nodes x y) := addP_bytes h (mulP_bytes (h'.take _) _)
/-- The last coefficient, if it is 0, may be cut. -/
theorem valF_cut {p : List Nat} (h : 0 < p.length) (h0 : p[p.length - 1]'(by omega) = 0) (x : Nat) : valF (p.take (p.length - 1)) x = valF p x := by
  have e : p = p.take (p.length - 1) ++ List.replicate 1 0 := by
    have h1 := List.take_succ_eq_append_getElem (l := p) (i := p.length - 1) (by omega)
    rw [show p.length - 1 + 1 = p.length by omega, List.take_length, h0] at h1
    exact h1
  conv => rhs; rw [e]
  rw [valF_pad]
/-- What holds of the program's lists behind the places rs (n places in all). -/
structure NewtonI (n : Nat) (rs : List (Nat × Nat)) (out nodes : List Nat) : Prop where
  lo : out.length = n
  ln : nodes.length = n + 1
  bo : Bytes out
  bn : Bytes nodes
  hi : ∀ j (h : j < nodes.length), rs.length < j → nodes[j] = 0
  val : ∀ x, x < 256 → valF nodes x = prodX (rs.map (·.1)) x
  hit : ∀ p ∈ rs, valF out p.1 = p.2
theorem NewtonI.start (n : Nat) : NewtonI n [] (List.replicate n 0) (1 :: List.replicate n 0) where
  lo := by simp
  ln := by simp
  bo := Bytes.zeros n
  bn := Bytes.cons (by decide) (Bytes.zeros n)
  hi := fun j h h0 => by
    obtain ⟨k, rfl⟩ : ∃ k, j = k + 1 := ⟨j - 1, by simp at h0; omega⟩
    simp
  val := fun x _ => by rw [valF_cons, valF_zeros, zero_gm isW8]; rfl
  hit := fun _ h => by cases h
def PtB (ps : List (Nat × Nat)) : Prop := ∀ p ∈ ps, p.1 < 256 ∧ p.2 < 256
theorem PtB.fst {ps : List (Nat × Nat)} (h : PtB ps) : Bytes (ps.map (·.1)) := fun y hy => by
  obtain ⟨p, hp, rfl⟩ := List.mem_map.1 hy; exact (h p hp).1
theorem NewtonI.step {n : Nat} {rs : List (Nat × Nat)} {out nodes : List Nat} (I : NewtonI n rs out nodes) (hr : rs.length < n) (hb : PtB rs) {x y : Nat} (hx : x < 256) (hy : y < 256) (hn : x ∉ rs.map (·.1)) :
    NewtonI n (rs ++ [(x, y)]) (stepO out nodes x y) (upN nodes x) := by
  have hl : nodes.length = out.length + 1 := by rw [I.lo, I.ln]
  have hcut : ∀ z, valF (nodes.take (nodes.length - 1)) z = valF nodes z := fun z => valF_cut (by rw [I.ln]; omega) (I.hi _ _ (by rw [I.ln]; omega)) z
  have hz : ∀ z, z < 256 → valF (stepO out nodes x y) z = valF out z ^^^ gm 8 (valF nodes z) (gm 8 (y ^^^ valF out x) (inv 8 (valF nodes x))) := fun z hz => by
    unfold stepO
    rw [addP_val I.bo (mulP_bytes (I.bn.take _) _) (by simp [mulP_len, hl]), mulP_val (I.bn.take _) (gm8_lt (xor8_lt hy (valF_lt I.bo x))) hz, hcut]
  refine ⟨by rw [stepO_len hl]; exact I.lo, by rw [upN_len (by omega)]; exact I.ln, stepO_bytes I.bo I.bn x y, upN_bytes I.bn x, ?_, ?_, ?_⟩
  · intro j h hj
    rw [upN_len (by omega)] at h
    simp only [List.length_append, List.length_cons, List.length_nil] at hj
    obtain ⟨k, rfl⟩ : ∃ k, j = k + 1 := ⟨j - 1, by omega⟩
    have h1 := I.hi (k + 1) h (by omega)
    have h2 := I.hi k (by omega) (by omega)
    simp [upN, addP, mulP, h1, h2, zero_gm isW8]
  · intro z hz2
    unfold upN
    rw [addP_val (Bytes.cons (by decide) (I.bn.take _)) (mulP_bytes I.bn x) (by simp [mulP_len]; omega), mulP_val I.bn hx hz2, valF_cons, hcut, Nat.xor_zero, I.val z hz2, List.map_append, List.map_cons, List.map_nil, prodX_snoc _ _ _ hb.fst hz2 hx]
    exact (gm_xor_right isW8 (prodX_lt _ _)).symm
  · intro p hp
    rcases List.mem_append.1 hp with hp | hp
    · rw [hz p.1 (hb p hp).1, I.hit p hp, I.val _ (hb p hp).1, prodX_zero (List.mem_map.2 ⟨p, hp, rfl⟩), zero_gm isW8, Nat.xor_zero]
    · rw [List.mem_singleton.1 hp]
      show valF _ x = y
      rw [hz x hx]
      have hv := valF_lt I.bo x
      have hw : valF nodes x < 256 := valF_lt I.bn x
      have hne : valF nodes x ≠ 0 := by rw [I.val x hx]; exact prodX_ne hb.fst hx hn
      have hc := xor8_lt hy hv
      have hi := inv_lt isW8 (valF nodes x)
      rw [gm_comm isW8 hc hi, ← gm_assoc isW8 hw hi hc, gm_inv isW8 hw hne, one_gm isW8 hc, Nat.xor_comm y, ← Nat.xor_assoc, Nat.xor_self, Nat.zero_xor]
/-- The document's polynomial: a sum over the points. -/
def others (ps : List (Nat × Nat)) (i : Nat) : List Nat := (ps.eraseIdx i).map (·.1)
set_option linter.unusedSectionVars false
def xtN (w : Nat) : Nat → Nat → Nat
  | 0, v => v
  | i + 1, v => xtN w i (xt w v)
/-- The rest of a polynomial. -/
def red (w n : Nat) : Nat := act w 64 n 1
section
variable {w : Nat} (hw : IsW w)
include hw
omit hw in
theorem act_shl (w : Nat) : ∀ (i f b v : Nat), act w (f + i) (b * 2 ^ i) v = act w f b (xtN w i v)
  | 0, _, _, _ => by simp [xtN]
  | i + 1, f, b, v => by
    have e : b * 2 ^ (i + 1) = 2 * (b * 2 ^ i) := by rw [Nat.pow_succ]; simp only [Nat.mul_comm, Nat.mul_left_comm]
    have e2 : ∀ x, act w (f + i + 1) (2 * x) v = act w (f + i) x (xt w v) := fun x => by
      show (if 2 * x % 2 = 1 then v else 0) ^^^ act w (f + i) (2 * x / 2) (xt w v) = _
      rw [if_neg (by omega), Nat.mul_div_cancel_left _ (by decide), Nat.zero_xor]
    rw [← Nat.add_assoc, e, e2, act_shl w i]
    rfl
theorem act_xtN : ∀ (i f b : Nat) {v : Nat}, v < 2 ^ w → act w f b (xtN w i v) = xtN w i (act w f b v)
  | 0, _, _, _, _ => rfl
  | i + 1, f, b, v, hv => by unfold xtN; rw [act_xtN i f b (xt_lt hw hv), act_xt hw f b v hv]
omit hw in
theorem red_modN {w : Nat} (hw : IsW w) : red w (modN w) = 0 := by rcases hw with rfl | rfl | rfl <;> decide +kernel
/-! The first loop: products are added up. -/
/-! The second loop: the rest. -/
end
end Go.Proofs.YtblilfbhohnbgaaGreat
namespace Go.Proofs.YtblilfbhohnbgaaGreat
set_option linter.unusedSectionVars false
set_option linter.unusedVariables false
/-- The product of two polynomials. -/
def cm (a b : Nat) : Nat := if h : a = 0 then 0 else (if a % 2 = 1 then b else 0) ^^^ 2 * cm (a / 2) b
termination_by a
decreasing_by omega
theorem cm_zero_left (b : Nat) : cm 0 b = 0 := by rw [cm]; simp
theorem cm_step (a b : Nat) : cm a b = (if a % 2 = 1 then b else 0) ^^^ 2 * cm (a / 2) b := by
  by_cases h : a = 0
  · subst h; simp [cm_zero_left]
  · rw [cm, dif_neg h]
theorem cm_ind {P : Nat → Prop} (h0 : P 0) (hs : ∀ a, a ≠ 0 → P (a / 2) → P a) : ∀ a, P a := by
  intro a
  induction a using Nat.strongRecOn with
  | _ a ih =>
    by_cases h : a = 0
    · subst h; exact h0
    · exact hs a h (ih _ (by omega))
theorem cm_zero_right (a : Nat) : cm a 0 = 0 := by
  refine cm_ind (P := fun a => cm a 0 = 0) (cm_zero_left 0) (fun a _ ih => ?_) a
  rw [cm_step, ih]; simp
theorem cm_xor_right (a b c : Nat) : cm a (b ^^^ c) = cm a b ^^^ cm a c := by
  refine cm_ind (P := fun a => cm a (b ^^^ c) = cm a b ^^^ cm a c) (by simp [cm_zero_left]) (fun a _ ih => ?_) a
  rw [cm_step, cm_step a b, cm_step a c, ih, two_xor, xor4 (if a % 2 = 1 then b else 0)]
  congr 1
  split <;> simp
theorem cm_xor_left (b : Nat) : ∀ (n s t : Nat), s + t ≤ n → cm (s ^^^ t) b = cm s b ^^^ cm t b := by
  intro n
  induction n with
  | zero =>
    intro s t h
    obtain rfl : s = 0 := by omega
    obtain rfl : t = 0 := by omega
    simp [cm_zero_left]
  | succ n ih =>
    intro s t h
    by_cases h0 : s = 0 ∧ t = 0
    · obtain ⟨rfl, rfl⟩ := h0; simp [cm_zero_left]
    · rw [cm_step, cm_step s, cm_step t, xor_half, ih (s / 2) (t / 2) (by omega), two_xor, xor4 (if s % 2 = 1 then b else 0)]
      congr 1
      rw [xor_odd]
      rcases Nat.mod_two_eq_zero_or_one s with h | h <;> rcases Nat.mod_two_eq_zero_or_one t with h' | h' <;> simp [h, h']
theorem cm_two_left (s b : Nat) : cm (2 * s) b = 2 * cm s b := by
  rw [cm_step, if_neg (by omega), Nat.zero_xor, Nat.mul_div_cancel_left _ (by decide)]
theorem cm_two_right (s b : Nat) : cm s (2 * b) = 2 * cm s b := by
  refine cm_ind (P := fun s => cm s (2 * b) = 2 * cm s b) (by simp [cm_zero_left]) (fun s _ ih => ?_) s
  rw [cm_step, cm_step s b, ih, two_xor]
  congr 1
  split <;> simp
theorem cm_shl (s b : Nat) : ∀ n, cm s (b * 2 ^ n) = cm (s * 2 ^ n) b
  | 0 => by simp
  | n + 1 => by
    rw [Nat.pow_succ, ← Nat.mul_assoc, Nat.mul_comm _ 2, cm_two_right, ← Nat.mul_assoc, Nat.mul_comm _ 2, cm_two_left, cm_shl s b n]
theorem cm_one_left (b : Nat) : cm 1 b = b := by rw [cm_step]; simp [cm_zero_left]
theorem cm_big {d v : Nat} (h1 : 2 ^ d ≤ v) (h2 : v < 2 ^ (d + 1)) (t : Nat) (ht : t ≠ 0) : 2 ^ d ≤ cm t v := by
  revert ht
  refine cm_ind (P := fun t => t ≠ 0 → 2 ^ d ≤ cm t v) (fun h => absurd rfl h) (fun t _ ih ht => ?_) t
  by_cases h0 : t / 2 = 0
  · obtain rfl : t = 1 := by omega
    rw [cm_one_left]; exact h1
  · have h3 := ih h0
    rw [cm_step]
    have hb : (if t % 2 = 1 then v else 0) < 2 ^ (d + 1) := by split; exact h2; exact Nat.two_pow_pos _
    generalize (if t % 2 = 1 then v else 0) = x at hb
    generalize cm (t / 2) v = y at h3
    have h4 : (x ^^^ 2 * y) / 2 ^ (d + 1) = 2 * y / 2 ^ (d + 1) := by
      rw [← Nat.shiftRight_eq_div_pow, Nat.shiftRight_xor_distrib, Nat.shiftRight_eq_div_pow, Nat.div_eq_of_lt hb, Nat.zero_xor, Nat.shiftRight_eq_div_pow]
    have h5 : 1 ≤ (x ^^^ 2 * y) / 2 ^ (d + 1) := by
      rw [h4]; exact (Nat.le_div_iff_mul_le (Nat.two_pow_pos _)).2 (by rw [Nat.pow_succ]; omega)
    have h6 := (Nat.le_div_iff_mul_le (Nat.two_pow_pos _)).1 h5
    rw [Nat.pow_succ] at h6
    omega
def Bez (u v : Nat) : Prop := ∃ s t, cm s u ^^^ cm t v = 1
theorem Bez.symm {u v : Nat} (h : Bez u v) : Bez v u := by obtain ⟨s, t, h⟩ := h; exact ⟨t, s, by rw [Nat.xor_comm]; exact h⟩
theorem Bez.step {u v : Nat} (h : Bez u v) (n : Nat) : Bez (u ^^^ v * 2 ^ n) v := by
  obtain ⟨s, t, h⟩ := h
  refine ⟨s, s * 2 ^ n ^^^ t, ?_⟩
  rw [cm_xor_right, cm_shl, cm_xor_left v _ _ _ (Nat.le_refl _), Nat.xor_assoc, ← Nat.xor_assoc (cm (s * 2 ^ n) v), Nat.xor_self, Nat.zero_xor]
  exact h
theorem Bez.zero {v : Nat} (h : Bez 0 v) : v = 1 := by
  obtain ⟨s, t, h⟩ := h
  rw [cm_zero_right, Nat.zero_xor] at h
  have ht : t ≠ 0 := by rintro rfl; rw [cm_zero_left] at h; exact absurd h (by decide)
  rcases Nat.lt_or_ge v 2 with h1 | h1
  · have : v = 0 ∨ v = 1 := by omega
    rcases this with rfl | rfl
    · rw [cm_zero_right] at h; exact absurd h (by decide)
    · rfl
  · exfalso
    have h2 := cm_big (d := Nat.log2 v) (Nat.log2_self_le (by omega)) Nat.lt_log2_self t ht
    have h3 : 2 ^ 1 ≤ 2 ^ Nat.log2 v := Nat.pow_le_pow_right (by omega) ((Nat.le_log2 (by omega)).2 (by simpa using h1))
    omega
section
variable {w : Nat} (hw : IsW w)
include hw
theorem act_cm : ∀ (f s v : Nat), v < 2 ^ w → s < 2 ^ f → ∃ q, act w f s v ^^^ cm s v = cm q (modN w)
  | 0, s, v, _, hs => by
    obtain rfl : s = 0 := by simpa using hs
    exact ⟨0, by simp [act, cm_zero_left]⟩
  | f + 1, s, v, hv, hs => by
    obtain ⟨q, hq⟩ := act_cm f (s / 2) (xt w v) (xt_lt hw hv) (by rw [Nat.pow_succ] at hs; omega)
    have e1 : cm (s / 2) (xt w v) = 2 * cm (s / 2) v ^^^ cm (if v.testBit (w - 1) then s / 2 else 0) (modN w) := by
      rw [xt_eq w v hv, cm_xor_right, cm_two_right]
      congr 1
      split
      · rfl
      · rw [cm_zero_right, cm_zero_left]
    refine ⟨q ^^^ (if v.testBit (w - 1) then s / 2 else 0), ?_⟩
    rw [cm_xor_left _ _ _ _ (Nat.le_refl _), ← hq, e1]
    show ((if s % 2 = 1 then v else 0) ^^^ act w f (s / 2) (xt w v)) ^^^ cm s v = _
    rw [cm_step s v, xor4, Nat.xor_self, Nat.zero_xor, Nat.xor_assoc, xor_cancel]
theorem bez_start {a : Nat} (ha : a < 2 ^ w) (h0 : a ≠ 0) : Bez a (modN w) := by
  obtain ⟨q, hq⟩ := act_cm hw 64 (inv w a) a ha (lt64 hw (inv_lt hw a))
  rw [← gm_act hw, gm_inv hw ha h0] at hq
  exact ⟨inv w a, q, by rw [← hq, Nat.xor_comm 1, ← Nat.xor_assoc, Nat.xor_self, Nat.zero_xor]⟩
end
/-- The state of Euclid's steps: lu and lv are the lengths of u and v. -/
structure Euc (w a u v x y lu lv : Nat) : Prop where
  u1 : 2 ^ (lu - 1) ≤ u
  u2 : u < 2 ^ lu
  u3 : 1 ≤ lu
  u4 : lu ≤ w + 1
  v1 : 2 ^ (lv - 1) ≤ v
  v2 : v < 2 ^ lv
  v3 : 2 ≤ lv
  v4 : lv ≤ w + 1
  x1 : x < 2 ^ (w + 2 - lv)
  y1 : y < 2 ^ (w + 2 - lu)
  xu : act w 64 u 1 = act w 64 x a
  yv : act w 64 v 1 = act w 64 y a
  bez : Bez u v
/-- What is known of a length. -/
def LenIs (u l : Nat) : Prop := u < 2 ^ l ∧ (u ≠ 0 → 1 ≤ l ∧ 2 ^ (l - 1) ≤ u)
theorem LenIs.unique {u l m : Nat} (h : LenIs u l) (h0 : u ≠ 0) (h1 : 2 ^ (m - 1) ≤ u) (h2 : u < 2 ^ m) (h3 : 1 ≤ m) : l = m := by
  obtain ⟨a1, a2⟩ := h
  obtain ⟨a2, a3⟩ := a2 h0
  rcases Nat.lt_trichotomy l m with hlt | heq | hgt
  · have := Nat.pow_le_pow_right (show 0 < 2 by omega) (show l ≤ m - 1 by omega); omega
  · exact heq
  · have := Nat.pow_le_pow_right (show 0 < 2 by omega) (show m ≤ l - 1 by omega); omega
section
variable {w : Nat} (hw : IsW w)
include hw
theorem Euc.start {a : Nat} (ha : a < 2 ^ w) (h0 : a ≠ 0) : ∃ lu, Euc w a a (modN w) 1 0 lu (w + 1) := by
  have hp := hw.pos
  refine ⟨Nat.log2 a + 1, ⟨by simpa using Nat.log2_self_le h0, Nat.lt_log2_self, by omega, ?_, by simpa using modN_ge hw, by rw [Nat.pow_succ]; exact modN_lt hw, by omega, by omega, by simp, Nat.two_pow_pos _, ?_, ?_, bez_start hw ha h0⟩⟩
  · have := (Nat.log2_lt h0).2 ha; omega
  · rw [act_self hw ha, show act w 64 1 a = gm w a 1 from (gm_act hw a 1).symm, gm_one hw]
  · rw [act_zero]; exact red_modN hw
theorem shl_act {v n x : Nat} (hv : v * 2 ^ n < 2 ^ 64) (hn : n < 64) (hx : x < 2 ^ w) : act w 64 (v * 2 ^ n) x = xtN w n (act w 64 v x) := by
  have h := act_shl w n 64 v x
  rw [act_more w 64 _ x hv n] at h
  rw [h, act_xtN hw n 64 v hx]
theorem Euc.next {a u v x y lu lv : Nat} (ha : a < 2 ^ w) (h : Euc w a u v x y lu lv) (hle : lv ≤ lu) :
    v * 2 ^ (lu - lv) < 18446744073709551616 ∧ y * 2 ^ (lu - lv) < 18446744073709551616 ∧ u < 9223372036854775808 ∧ x < 9223372036854775808 ∧
      ∃ lu', lu' < lu ∧ Euc w a (u ^^^ v * 2 ^ (lu - lv)) v (x ^^^ y * 2 ^ (lu - lv)) y lu' lv := by
  have hwl := hw.le
  have h1 := h.u1; have h2 := h.u2; have h3 := h.u3; have h4 := h.u4; have h5 := h.v1; have h6 := h.v2; have h7 := h.v3; have h8 := h.v4; have h9 := h.x1; have h10 := h.y1
  have e1 : 2 ^ lu = 2 ^ lv * 2 ^ (lu - lv) := by rw [← Nat.pow_add]; congr 1; omega
  have e2 : 2 ^ (lu - 1) = 2 ^ (lv - 1) * 2 ^ (lu - lv) := by rw [← Nat.pow_add]; congr 1; omega
  have e3 : 2 ^ (w + 2 - lv) = 2 ^ (w + 2 - lu) * 2 ^ (lu - lv) := by rw [← Nat.pow_add]; congr 1; omega
  have g1 : v * 2 ^ (lu - lv) < 2 ^ lu := by rw [e1]; exact Nat.mul_lt_mul_of_pos_right h6 (Nat.two_pow_pos _)
  have g2 : 2 ^ (lu - 1) ≤ v * 2 ^ (lu - lv) := by rw [e2]; exact Nat.mul_le_mul_right _ h5
  have g3 : y * 2 ^ (lu - lv) < 2 ^ (w + 2 - lv) := by rw [e3]; exact Nat.mul_lt_mul_of_pos_right h10 (Nat.two_pow_pos _)
  have p1 : (2 : Nat) ^ lu ≤ 2 ^ 33 := Nat.pow_le_pow_right (by omega) (by omega)
  have p2 : (2 : Nat) ^ (w + 2 - lv) ≤ 2 ^ 32 := Nat.pow_le_pow_right (by omega) (by omega)
  refine ⟨by omega, by omega, by omega, by omega, ?_⟩
  have e4 : 2 ^ lu = 2 ^ (lu - 1) * 2 := by rw [← Nat.pow_succ]; congr 1; omega
  have hu' : u ^^^ v * 2 ^ (lu - lv) < 2 ^ (lu - 1) := top_clear (by rw [← e4]; exact h2) h1 (by rw [← e4]; exact g1) g2
  have hbez := h.bez.step (lu - lv)
  have hne : u ^^^ v * 2 ^ (lu - lv) ≠ 0 := by
    intro h0
    rw [h0] at hbez
    have := hbez.zero
    subst this
    have : (2 : Nat) ^ 1 ≤ 2 ^ (lv - 1) := Nat.pow_le_pow_right (by omega) (by omega)
    omega
  have hl : Nat.log2 (u ^^^ v * 2 ^ (lu - lv)) < lu - 1 := (Nat.log2_lt hne).2 hu'
  refine ⟨Nat.log2 (u ^^^ v * 2 ^ (lu - lv)) + 1, by omega, ⟨by simpa using Nat.log2_self_le hne, Nat.lt_log2_self, by omega, by omega, h5, h6, h7, h8, xor_lt h9 g3, Nat.lt_of_lt_of_le h10 (Nat.pow_le_pow_right (by omega) (by omega)), ?_, h.yv, hbez⟩⟩
  rw [act_xor_left hw _ _ _ _ (one_lt' hw), act_xor_left hw _ _ _ _ ha, h.xu, shl_act hw (by omega) (by omega) (one_lt' hw), shl_act hw (by omega) (by omega) ha, h.yv]
theorem Euc.done {a v x y lu lv : Nat} (ha : a < 2 ^ w) (h : Euc w a 1 v x y lu lv) : x = inv w a := by
  have hx : x < 2 ^ w := Nat.lt_of_lt_of_le h.x1 (Nat.pow_le_pow_right (by omega) (by have := h.v3; omega))
  refine inv_unique hw ha hx ?_
  rw [gm_act hw, ← h.xu, act_self hw (one_lt' hw)]
end
end Go.Proofs.YtblilfbhohnbgaaGreat
