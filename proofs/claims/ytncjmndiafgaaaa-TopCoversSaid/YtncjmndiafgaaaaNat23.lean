/- The contracts of frac and fit at small numbers, and of common at 3 and 6. Conditions: as each statement says. -/
import Derived.Test.YtncjmndiafgaaaaNat22
namespace Go.Proofs.Ytncjmndiafgaaaa
open Go.RowKit
set_option linter.unusedVariables false
theorem NumR.len_pos {w : World} {B n c v : Nat} {A : Option Addr} (h : NumR w B A n c v) (hv : 0 < v) : 0 < n := by
  obtain ⟨l, h1, h2, h3⟩ := h.ex
  have := h3.1
  rcases Nat.eq_zero_or_pos n with h0 | h0
  · subst h0
    have : l = [] := by simpa using this
    subst this; simp [valL] at h2; omega
  · exact h0
theorem Of_numI (v : Nat) (vI : Int) (w : World) (hvI : vI = v) (hv : v ≤ 4000000000) : Calls Try.prog 5 #[.int .u64 vI] w (RetNum w v) := by
  subst hvI; exact Of_num v w hv
theorem ordI_same (v : Nat) : ordI v v = 0 := by simp [ordI]
set_option maxRecDepth 100000 in
set_option maxHeartbeats 1000000 in
theorem frac_num (f : FV) (n d : Nat) (nI dI : Int) (w : World) (hn : nI = n) (hd : dI = d) (hn9 : n ≤ 1000) (hd9 : d ≤ 1000) (hd0 : 0 < d) (hf : f.ok w w.heap.size) (hv9 : f.v ≤ 1000000) (hu9 : f.u ≤ 1000000) (heq : f.v * d = n * f.u) :
    Calls Try.prog 20 #[.agg #[.slice f.A f.n f.c, .slice f.B f.m f.d], .int .u64 nI, .int .u64 dI] w fun e w' => e = .returned (.bool true) ∧ Below w.heap.size w w' := by
  have hm := hf.den.len_pos hf.pos
  have hp1 : f.v * d ≤ 1000000 * 1000 := Nat.mul_le_mul hv9 hd9
  have hp2 : n * f.u ≤ 1000 * 1000000 := Nat.mul_le_mul hn9 hu9
  have HN := Lib.hid hn; have HD := Lib.hid hd; have HF := Lib.hid hf; have HE := Lib.hid heq
  have HC : Hid (ordI (f.v * d) (n * f.u) = 0) := Lib.hid (by rw [heq, ordI_same])
  clear hn hd hf heq
  go_enter Try.func20, Try.ntmps20
  go_wp2_with fail
  have hk0 := BlkN.new w #[.slice f.A f.n f.c, .slice f.B f.m f.d] 29
  have HB0 : Hid (Below w.heap.size w (w.alloc (.cells #[.slice f.A f.n f.c, .slice f.B f.m f.d] 29))) := Lib.hid ((Below.refl _ _).alloc (Nat.le_refl _) _)
  have hlt : w.heap.size < (w.alloc (.cells #[.slice f.A f.n f.c, .slice f.B f.m f.d] 29)).heap.size := hk0.lt
  have b0 : FBox (w.alloc (.cells #[.slice f.A f.n f.c, .slice f.B f.m f.d] 29)) w.heap.size f := ⟨hk0.cell 0, hk0.cell 1⟩
  generalize w.alloc (.cells #[.slice f.A f.n f.c, .slice f.B f.m f.d] 29) = W at hk0 HB0 b0 hlt ⊢
  clear hk0
  go_region_held3 (fun w' => FBox w' w.heap.size f) (first | exact b0 | exact b1 | exact b2 | exact b3)
    ((first
      | (have hsecond := b1
         go_at_call 5
         refine (Of_numI d dI _ HD.out (by omega)).mono ?_
         rintro e w2 ⟨A2, n2, c2, rfl, hr2, hb2⟩
         have b2 := FBox.past b1 hb2 (Nat.lt_of_lt_of_le hlt HB1.out.size)
         have HB2 := Lib.hid (bnextN HB1.out hb2); have HR2 := Lib.hid hr2; have HR1' := Lib.hid (HR1.out.next hb2)
         clear hr2 hb2)
      | (go_at_call 5
         refine (Of_numI n nI _ HN.out (by omega)).mono ?_
         rintro e w1 ⟨A1, n1, c1, rfl, hr1, hb1⟩
         have b1 := FBox.past (w := World.drew W) b0 hb1 hlt
         have HB1 := Lib.hid ((Qw.below (⟨1, rfl⟩ : Qw W (World.drew W)) W.heap.size).trans hb1); have HR1 := Lib.hid hr1
         clear hr1 hb1)
      | (go_at_call 8
         refine (compare_num f ⟨A1, n1, c1, n, A2, n2, c2, d⟩ _ ((HF.out.past HB0.out HB0.out.size).next HB2.out) ⟨HR1'.out, HR2.out, hd0⟩ (by simpa using (by omega : f.v * d ≤ 4000000000)) (by simpa using (by omega : n * f.u ≤ 4000000000))).mono ?_
         rintro e w3 ⟨he, hb3⟩
         rw [HC.out] at he
         obtain rfl := he
         have b3 := FBox.past b2 hb3 (Nat.lt_of_lt_of_le hlt HB2.out.size)
         have HB3 := Lib.hid (bnextN HB2.out hb3)
         clear hb3)))
  have hm0 : (0 : Int) < (f.m : Int) := by omega
  go_wp2_with fail
  go_ret
  exact ⟨rfl, HB0.out.trans (HB3.out.mono HB0.out.size)⟩
theorem fit_num {A : Option Addr} {n c v : Nat} {w : World} (h : NumR w w.heap.size A n c v) : Calls Try.prog 49 #[.slice A n c] w fun e w' => ∃ A' n' c', e = .returned (.tuple #[.slice A' n' c', .int .i64 0]) ∧ NumR w' w'.heap.size A' n' c' v ∧ Below w.heap.size w w' := by
  obtain ⟨l, h1, h2, h3⟩ := h.ex
  have g := h.n2
  have hl : l.length = n := by have := h3.1; simpa using this
  have hlt : (trimL l).length ≤ n := by have h1 := trimN_le l l.length; rw [trimL_len]; omega
  subst h2
  refine (fit_any A n c l w (by omega) (by omega) h.nc h3).mono ?_
  rintro e w' ⟨A', n', c', rfl, hn', hc', hown, hb⟩
  exact ⟨A', n', c', rfl, ⟨⟨trimL l, trimL_limbs h1, trimL_val l, Rd.own hown⟩, by omega, hc'⟩, hb⟩
/-- A number in a block of the call's own. -/
structure OwnN (w : World) (base g n c v : Nat) : Prop where
  ex : ∃ l, Limbs l ∧ valL l = v ∧ w.ownsRow base 47 1 (.slice (some ⟨g, 0, none⟩) n c) n (limC l)
  n2 : n ≤ 1
  nc : n ≤ c
theorem OwnN.num {w : World} {base g n c v : Nat} (h : OwnN w base g n c v) : NumR w w.heap.size (some ⟨g, 0, none⟩) n c v := by
  obtain ⟨l, h1, h2, h3⟩ := h.ex
  exact ⟨⟨l, h1, h2, Rd.own h3⟩, Nat.le_succ_of_le h.n2, h.nc⟩
theorem OwnN.lt {w : World} {base g n c v : Nat} (h : OwnN w base g n c v) : g < w.heap.size := by
  obtain ⟨l, h1, h2, h3⟩ := h.ex; exact own_in h3
theorem OwnN.base {w : World} {base g n c v : Nat} (h : OwnN w base g n c v) : base ≤ g := by
  obtain ⟨l, h1, h2, h3⟩ := h.ex; exact own_base h3 rfl
theorem OwnN.mono {w : World} {base base' g n c v : Nat} (h : OwnN w base g n c v) (hb : base' ≤ base) : OwnN w base' g n c v := by
  obtain ⟨l, h1, h2, h3⟩ := h.ex; exact ⟨⟨l, h1, h2, ownsRow_mono h3 hb⟩, h.n2, h.nc⟩
theorem OwnN.next {w w' : World} {base g n c v : Nat} (h : OwnN w base g n c v) (hb : Below w.heap.size w w') : OwnN w' base g n c v := by
  obtain ⟨l, h1, h2, h3⟩ := h.ex; exact ⟨⟨l, h1, h2, ownsRow_below h3 hb (Nat.le_refl _)⟩, h.n2, h.nc⟩
theorem OwnN.grown {w w' : World} {base g h n c v : Nat} (k : OwnN w base g n c v) (hg : w.grownBy w' (some h)) (hne : g ≠ h) : OwnN w' base g n c v := by
  obtain ⟨l, h1, h2, h3⟩ := k.ex
  exact ⟨⟨l, h1, h2, ownsRow_grown h3 hg (fun j hj => by simp [Value.ownBlock] at hj; subst hj; simpa using hne)⟩, k.n2, k.nc⟩
/-- A call that returns a new number, which is small and not 0. -/
theorem RetLim.own {w w' : World} {l : List Nat} {e : Ending} (hl : Limbs l) (hlen : l.length ≤ 1) (h0 : 0 < l.length) (h : RetLim w l e w') : ∃ g n c, e = .returned (.slice (some ⟨g, 0, none⟩) n c) ∧ OwnN w' w.heap.size g n c (valL l) ∧ Below w.heap.size w w' := by
  obtain ⟨A, n, c, rfl, hn, hc, hown, hb⟩ := h
  rcases hown.2 with ⟨h1, _⟩ | ⟨g, cap, cur, hv, _⟩
  · injection h1 with e1 e2 e3; omega
  · injection hv with e1 e2 e3
    subst e1
    exact ⟨g, n, c, rfl, ⟨⟨l, hl, rfl, hown⟩, by omega, hc⟩, hb⟩
theorem clone_own {A : Option Addr} {n c v : Nat} {w : World} (h : NumR w w.heap.size A n c v) (hv : 0 < v) (hv9 : v ≤ 4000000000) : Calls Try.prog 14 #[.slice A n c] w fun e w' => ∃ g n' c', e = .returned (.slice (some ⟨g, 0, none⟩) n' c') ∧ OwnN w' w.heap.size g n' c' v ∧ Below w.heap.size w w' := by
  obtain ⟨l, h1, h2, h3⟩ := h.ex
  have g := h.n2
  subst h2
  refine (clone_any A n c l w (by omega) h.nc h3).mono fun e w' hr => ?_
  have hl : l.length = n := by have := h3.1; simpa using this
  have hlt : (trimL l).length ≤ n := by have h1 := trimN_le l l.length; rw [trimL_len]; omega
  have hpos : 0 < (trimL l).length := by
    rcases Nat.eq_zero_or_pos (trimL l).length with h0 | h0
    · exfalso
      have e0 : trimL l = [] := List.length_eq_zero_iff.1 h0
      have := trimL_val l
      rw [e0] at this; simp [valL] at this; omega
    · exact h0
  obtain ⟨g', n', c', he, ho, hb⟩ := RetLim.own (trimL_limbs h1) (small_len (trimL_nrm l) (trimL_val l) hv9) hpos hr
  rw [trimL_val] at ho
  exact ⟨g', n', c', he, ho, hb⟩
theorem bit_num {A : Option Addr} {n c v : Nat} {w : World} (h : NumR w w.heap.size A n c v) (hv : 0 < v) : Calls Try.prog 62 #[.slice A n c, .int .i64 0] w fun e w' => e = .returned (.int .u32 (v % 2 : Nat)) ∧ w = w' := by
  have hp := h.len_pos hv
  obtain ⟨l, h1, h2, h3⟩ := h.ex
  have g := h.n2
  subst h2
  have := bit_any A n c 0 w.heap.size l w (by omega) (by omega) h1 h3
  simpa [bitV] using this
theorem half_own {g n c base v : Nat} {w : World} (h : OwnN w base g n c v) : Calls Try.prog 64 #[.slice (some ⟨g, 0, none⟩) n c] w fun e w' => ∃ m, e = .returned (.slice (some ⟨g, 0, none⟩) m c) ∧ OwnN w' base g m c (v / 2) ∧ w.grownBy w' (some g) := by
  obtain ⟨l, h1, h2, h3⟩ := h.ex
  have g2 := h.n2; have gc := h.nc
  subst h2
  refine (half_any g n c base l w (by omega) h.nc h1 h3).mono ?_
  rintro e w' ⟨m, rfl, hm, hmt, ho, hg⟩
  refine ⟨m, rfl, ⟨⟨(halfL l).take m, (halfL_limbs h1).take m, ?_, ?_⟩, by omega, by omega⟩, hg⟩
  · have hl : l.length = n := by have := h3.1; simpa using this
    rw [hmt, trimN_val _ _ (by rw [halfL_len, hl]; exact Nat.le_refl _), List.take_of_length_le (by rw [halfL_len, hl]; exact Nat.le_refl _), halfL_val]
  · have := own_pre ho hm
    rwa [show limC ((halfL l).take m) = (limC (halfL l)).take m from List.map_take]
theorem minus_zero {A A' : Option Addr} {n c n' c' v : Nat} {w : World} (h : NumR w w.heap.size A n c v) (h' : NumR w w.heap.size A' n' c' v) (hn : n' ≤ n) : Calls Try.prog 63 #[.slice A n c, .slice A' n' c'] w fun e w' => ∃ A2 c2, e = .returned (.slice A2 0 c2) ∧ Below w.heap.size w w' := by
  obtain ⟨l, h1, h2, h3⟩ := h.ex; obtain ⟨l', h1', h2', h3'⟩ := h'.ex
  have g := h.n2; have g' := h'.n2
  refine (minus_any A A' n c n' c' l l' w (by omega) hn h1 h1' (by omega) h3 h3').mono ?_
  rintro e w' ⟨r, r1, r2, r3, A2, n2, c2, rfl, hn2, hc2, hown, hb⟩
  have e0 : r.length = 0 := by
    rcases Nat.eq_zero_or_pos r.length with h0 | h0
    · exact h0
    · have h5 := nrm_pos r2 h0
      have h6 : 0 < 4294967296 ^ (r.length - 1) := Nat.pow_pos (by decide)
      omega
  rw [e0] at hn2
  subst hn2
  exact ⟨A2, c2, rfl, hb⟩
#print axioms frac_num
#print axioms minus_zero
#print axioms half_own
end Go.Proofs.Ytncjmndiafgaaaa
