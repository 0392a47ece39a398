/- Small numbers: slices of at most two limbs, by their values. Conditions: as each statement says. -/
import Derived.Test.YtncjmndiafgaaaaNat10
import Derived.Deep.RegionHeld3
namespace Go.Proofs.Ytncjmndiafgaaaa
open Go.RowKit
set_option linter.unusedVariables false
/-- A slice that reads as a small number, in the blocks below B. -/
structure NumR (w : World) (B : Nat) (A : Option Addr) (n c v : Nat) : Prop where
  ex : ∃ l, Limbs l ∧ valL l = v ∧ Rd w B 1 A n (limC l)
  n2 : n ≤ 2
  nc : n ≤ c
theorem NumR.below {w w' : World} {B n c v : Nat} {A : Option Addr} (h : NumR w B A n c v) (hb : Below B w w') : NumR w' B A n c v := by
  obtain ⟨l, h1, h2, h3⟩ := h.ex
  exact ⟨⟨l, h1, h2, h3.below hb⟩, h.n2, h.nc⟩
theorem NumR.mono {w : World} {B B' n c v : Nat} {A : Option Addr} (h : NumR w B A n c v) (hB : B ≤ B') : NumR w B' A n c v := by
  obtain ⟨l, h1, h2, h3⟩ := h.ex
  exact ⟨⟨l, h1, h2, h3.mono hB⟩, h.n2, h.nc⟩
theorem NumR.past {w w' : World} {B n c v : Nat} {A : Option Addr} (h : NumR w B A n c v) (hb : Below B w w') (hB : B ≤ w'.heap.size) : NumR w' w'.heap.size A n c v := (h.below hb).mono hB
theorem NumR.next {w w' : World} {n c v : Nat} {A : Option Addr} (h : NumR w w.heap.size A n c v) (hb : Below w.heap.size w w') : NumR w' w'.heap.size A n c v := h.past hb hb.size
theorem NumR.q {w w' : World} {B n c v : Nat} {A : Option Addr} (h : NumR w B A n c v) (hq : Qw w w') : NumR w' B A n c v := by
  obtain ⟨l, h1, h2, h3⟩ := h.ex
  exact ⟨⟨l, h1, h2, h3.q hq⟩, h.n2, h.nc⟩
theorem num_zero (w : World) (B : Nat) (A : Option Addr) : NumR w B A 0 0 0 := ⟨⟨[], fun x hx => by simp at hx, rfl, Rd.nil _ _ _ _⟩, by omega, by omega⟩
theorem num_lit (w : World) (x : Int) (v : Nat) (hx : x = v) (hv : v ≤ 4000000000) : NumR (w.alloc (.cells #[.int .u32 x] 47)) (w.heap.size + 1) (some ⟨w.heap.size, 0, none⟩) 1 1 v := by
  subst hx
  refine ⟨⟨[v], fun y hy => by simp at hy; omega, by simp [valL], ?_⟩, by omega, by omega⟩
  have := Rd.new w #[.int .u32 (v : Int)] 47 1 1 rfl
  simpa using this
theorem small_len {l : List Nat} {v : Nat} (hn : Nrm l) (hv : valL l = v) (h : v ≤ 4000000000) : l.length ≤ 1 := by
  rcases Nat.lt_or_ge l.length 2 with h2 | h2
  · omega
  · exfalso
    have h3 := nrm_pos hn (by omega)
    have h4 : 4294967296 ^ 1 ≤ 4294967296 ^ (l.length - 1) := Nat.pow_le_pow_right (by decide) (by omega)
    rw [hv] at h3
    generalize 4294967296 ^ (l.length - 1) = z at h3 h4
    omega
/-- A call that returns a small number. -/
def RetNum (w : World) (v : Nat) (e : Ending) (w' : World) : Prop := ∃ A n c, e = .returned (.slice A n c) ∧ NumR w' w'.heap.size A n c v ∧ Below w.heap.size w w'
def TwoNum (w : World) (v u : Nat) (e : Ending) (w' : World) : Prop := ∃ A n c A' n' c', e = .returned (.tuple #[.slice A n c, .slice A' n' c']) ∧ NumR w' w'.heap.size A n c v ∧ NumR w' w'.heap.size A' n' c' u ∧ Below w.heap.size w w'
theorem RetNum.of {w w' : World} {l : List Nat} {e : Ending} (hl : Limbs l) (hlen : l.length ≤ 2) (h : RetLim w l e w') : RetNum w (valL l) e w' := by
  obtain ⟨A, n, c, rfl, hn, hc, hown, hb⟩ := h
  exact ⟨A, n, c, rfl, ⟨⟨l, hl, rfl, Rd.own hown⟩, by omega, hc⟩, hb⟩
theorem RetVal.num {w w' : World} {v : Nat} {e : Ending} (h : RetVal w v e w') (hv : v ≤ 4000000000) : RetNum w v e w' := by
  obtain ⟨l, hl, hn, rfl, hr⟩ := h
  have := small_len hn rfl hv
  exact RetNum.of hl (by omega) hr
theorem natOwn_num {w w' : World} {A : Option Addr} {n c v : Nat} (h : NatOwn w w' A n c v) (hv : v ≤ 4000000000) : NumR w' w'.heap.size A n c v := by
  obtain ⟨l, hl, hn, h1, h2, h3⟩ := h.ex
  have := small_len hn h1 hv
  exact ⟨⟨l, hl, h1, Rd.own h3⟩, by omega, h.nc⟩
theorem plus_num {A A' : Option Addr} {n c n' c' v u : Nat} {w : World} (h : NumR w w.heap.size A n c v) (h' : NumR w w.heap.size A' n' c' u) (hv : v + u ≤ 4000000000) :
    Calls Try.prog 44 #[.slice A n c, .slice A' n' c'] w (RetNum w (v + u)) := by
  obtain ⟨l, h1, h2, h3⟩ := h.ex; obtain ⟨l', h1', h2', h3'⟩ := h'.ex
  have g := h.n2; have g' := h'.n2
  subst h2; subst h2'
  exact (plus_any A A' n c n' c' l l' w (by omega) (by omega) h1 h1' h3 h3').mono fun _ _ hr => hr.num hv
theorem times_num {A A' : Option Addr} {n c n' c' v u : Nat} {w : World} (h : NumR w w.heap.size A n c v) (h' : NumR w w.heap.size A' n' c' u) (hv : v * u ≤ 4000000000) :
    Calls Try.prog 28 #[.slice A n c, .slice A' n' c'] w (RetNum w (v * u)) := by
  obtain ⟨l, h1, h2, h3⟩ := h.ex; obtain ⟨l', h1', h2', h3'⟩ := h'.ex
  have g := h.n2; have g' := h'.n2
  subst h2; subst h2'
  exact (ntimes_any A A' n c n' c' l l' w (by omega) (by omega) h1 h1' h3 h3').mono fun _ _ hr => hr.num hv
theorem order_num {A A' : Option Addr} {n c n' c' v u : Nat} {w : World} (h : NumR w w.heap.size A n c v) (h' : NumR w w.heap.size A' n' c' u) :
    Calls Try.prog 18 #[.slice A n c, .slice A' n' c'] w fun e w' => e = .returned (.int .i64 (ordI v u)) ∧ Qw w w' := by
  obtain ⟨l, h1, h2, h3⟩ := h.ex; obtain ⟨l', h1', h2', h3'⟩ := h'.ex
  have g := h.n2; have g' := h'.n2
  subst h2; subst h2'
  exact norder_any A A' n c n' c' l l' w (by omega) (by omega) h.nc h'.nc h1 h1' h3 h3'
theorem clone_num {A : Option Addr} {n c v : Nat} {w : World} (h : NumR w w.heap.size A n c v) : Calls Try.prog 14 #[.slice A n c] w (RetNum w v) := by
  obtain ⟨l, h1, h2, h3⟩ := h.ex
  have g := h.n2
  subst h2
  refine (clone_any A n c l w (by omega) h.nc h3).mono fun _ _ hr => ?_
  have hl : l.length = n := by have := h3.1; simpa using this
  have := RetNum.of (trimL_limbs h1) (by have := trimN_le l l.length; rw [trimL_len]; omega) hr
  rwa [trimL_val] at this
theorem Of_num (v : Nat) (w : World) (hv : v ≤ 4000000000) : Calls Try.prog 5 #[.int .u64 v] w (RetNum w v) := by
  refine (Of_any v w (by omega)).mono fun _ _ hr => ?_
  have h0 : ofL v = trimL [v % 4294967296, v / 4294967296 % 4294967296] := rfl
  have := RetNum.of (ofL_limbs v) (by rw [h0, trimL_len]; exact trimN_le _ _) hr
  rwa [ofL_val (by omega)] at this
theorem split_num {A A' : Option Addr} {n c n' c' v u : Nat} {w : World} (h : NumR w w.heap.size A n c v) (h' : NumR w w.heap.size A' n' c' u) (hu : 0 < u) (hv : v ≤ 4000000000) (hv' : u ≤ 4000000000) :
    Calls Try.prog 45 #[.slice A n c, .slice A' n' c'] w (TwoNum w (v / u) (v % u)) := by
  obtain ⟨l, h1, h2, h3⟩ := h.ex; obtain ⟨l', h1', h2', h3'⟩ := h'.ex
  have g := h.n2; have g' := h'.n2
  subst h2; subst h2'
  refine (split_any A A' n c n' c' l l' w (by omega) (by omega) h.nc h'.nc h1 h1' hu h3 h3').mono ?_
  rintro e w' ⟨A1, n1, c1, A2, n2, c2, rfl, k1, k2, hb⟩
  have e1 : valL l / valL l' ≤ valL l := Nat.div_le_self _ _
  have e2 := Nat.mod_lt (valL l) hu
  exact ⟨A1, n1, c1, A2, n2, c2, rfl, natOwn_num k1 (by omega), natOwn_num k2 (by omega), hb⟩
theorem size_pos {A : Option Addr} {n c v : Nat} {w : World} (h : NumR w w.heap.size A n c v) (hv : 0 < v) : Calls Try.prog 33 #[.slice A n c] w fun e w' => (∃ z : Int, 0 < z ∧ e = .returned (.int .i64 z)) ∧ w = w' := by
  obtain ⟨l, h1, h2, h3⟩ := h.ex
  have g := h.n2
  subst h2
  refine (size_of A n c l w (by omega) h.nc h1 h3).mono ?_
  rintro e w' ⟨⟨sz, hs, hl, rfl⟩, rfl⟩
  refine ⟨⟨sz, ?_, rfl⟩, rfl⟩
  have := hs.1
  rcases Nat.eq_zero_or_pos sz with h0 | h0
  · subst h0; simp at this; omega
  · omega
#print axioms split_num
end Go.Proofs.Ytncjmndiafgaaaa
/- The contracts of next, choose and cross at small numbers. Conditions: as each statement says. -/
namespace Go.Proofs.Ytncjmndiafgaaaa
open Go.RowKit
set_option linter.unusedVariables false
set_option maxHeartbeats 1000000 in
theorem next_num {A : Option Addr} {n c v : Nat} {w : World} (NI kI : Int) (d k : Nat) (hk : kI = k) (hd : NI - kI = d) (hk1 : k ≤ 1000) (hd1 : d ≤ 1000) (h : NumR w w.heap.size A n c v) (hv : v * d ≤ 4000000000) :
    Calls Try.prog 43 #[.slice A n c, .int .i64 NI, .int .i64 kI] w (RetNum w (v * d / (k + 1))) := by
  obtain ⟨dI, hdI⟩ : ∃ dI : Int, dI = (d : Int) := ⟨_, rfl⟩
  obtain ⟨k1, hk1I⟩ : ∃ k1 : Int, k1 = ((k + 1 : Nat) : Int) := ⟨_, rfl⟩
  have w1 : IntKind.u32.wrap (NI - kI) = dI := by rw [IntKind.wrap_u32]; omega
  have w2 : IntKind.u32.wrap (kI + 1) = k1 := by rw [IntKind.wrap_u32]; omega
  have b1 : 0 ≤ kI := by omega
  have b2 : kI ≤ 1000 := by omega
  have b3 : 0 ≤ NI := by omega
  have b4 : NI ≤ 2000 := by omega
  have HN := Lib.hid h; have HD := Lib.hid hdI; have HK := Lib.hid hk1I
  clear h hdI hk1I hk hd
  go_enter Try.func43, Try.ntmps43
  go_wp2_with fail
  refine (times_num (HN.out.next ((Below.refl _ _).alloc (Nat.le_refl _) (.cells #[.int .u32 dI] 47))) ((num_lit w dI d HD.out (by omega)).mono (by simp)) hv).mono ?_
  rintro e w1' ⟨A1, n1, c1, rfl, hr1, hb1⟩
  have HR1 := Lib.hid hr1; have HB1 := Lib.hid (((Below.refl w.heap.size w).alloc (Nat.le_refl _) (.cells #[.int .u32 dI] 47)).trans (hb1.mono (by simp)))
  clear hr1 hb1
  go_wp2_with fail
  refine (split_num (HR1.out.next ((Below.refl _ _).alloc (Nat.le_refl _) (.cells #[.int .u32 k1] 47))) ((num_lit w1' k1 (k + 1) HK.out (by omega)).mono (by simp)) (by omega) hv (by omega)).mono ?_
  rintro e w2' ⟨A2, n2, c2, A3, n3, c3, rfl, hr2, hr3, hb2⟩
  have HR2 := Lib.hid hr2; have HB2 := Lib.hid (HB1.out.trans (((Below.refl w.heap.size w1').alloc HB1.out.size (.cells #[.int .u32 k1] 47)).trans (hb2.mono (by have := HB1.out.size; simp; omega))))
  clear hr2 hr3 hb2
  go_wp2_with fail
  go_ret
  exact ⟨A2, n2, c2, rfl, HR2.out, HB2.out⟩
/-- Two boxes of two cells each. -/
abbrev FourC (w : World) (g : Nat) (x y z u : Value) : Prop := w.cell? ⟨g, 0, none⟩ = some x ∧ w.cell? ⟨g, 1, none⟩ = some y ∧ w.cell? ⟨g + 1, 0, none⟩ = some z ∧ w.cell? ⟨g + 1, 1, none⟩ = some u
theorem four_new (w : World) (x y z u : Value) (t : TypeId) : FourC ((w.alloc (.cells #[x, y] t)).alloc (.cells #[z, u] t)) w.heap.size x y z u := by
  have k1 : ((w.alloc (.cells #[x, y] t)).alloc (.cells #[z, u] t)).heap[w.heap.size]? = some (.cells #[x, y] t (0, 0)) := by
    simp only [World.alloc]
    rw [Array.getElem?_push_lt (by simp)]
    simp
  have k2 : ((w.alloc (.cells #[x, y] t)).alloc (.cells #[z, u] t)).heap[w.heap.size + 1]? = some (.cells #[z, u] t (0, 0)) := by
    have := heap_alloc_new (w.alloc (.cells #[x, y] t)) (.cells #[z, u] t)
    simpa using this
  refine ⟨?_, ?_, ?_, ?_⟩
  · rw [cell_of_row _ _ _ _ _ _ k1]; rfl
  · rw [cell_of_row _ _ _ _ _ _ k1]; rfl
  · rw [cell_of_row _ _ _ _ _ _ k2]; rfl
  · rw [cell_of_row _ _ _ _ _ _ k2]; rfl
theorem FourC.past {w w' : World} {B g : Nat} {x y z u : Value} (h : FourC w g x y z u) (hb : Below B w w') (hg : g + 1 < B) : FourC w' g x y z u := by
  obtain ⟨a, b, c, d⟩ := h
  exact ⟨(hb.cell (p := ⟨g, 0, none⟩) (by show g < B; omega)).trans a, (hb.cell (p := ⟨g, 1, none⟩) (by show g < B; omega)).trans b, (hb.cell (p := ⟨g + 1, 0, none⟩) (by show g + 1 < B; omega)).trans c, (hb.cell (p := ⟨g + 1, 1, none⟩) (by show g + 1 < B; omega)).trans d⟩
set_option maxHeartbeats 1000000 in
theorem cross_num {A B C D : Option Addr} {na ca nb cb nc cc nd cd a b c d : Nat} {w : World} (h1 : NumR w w.heap.size A na ca a) (h2 : NumR w w.heap.size B nb cb b) (h3 : NumR w w.heap.size C nc cc c) (h4 : NumR w w.heap.size D nd cd d) (hv : a * d ≤ 4000000000) (hu : c * b ≤ 4000000000) :
    Calls Try.prog 17 #[.agg #[.slice A na ca, .slice B nb cb], .agg #[.slice C nc cc, .slice D nd cd]] w (TwoNum w (a * d) (c * b)) := by
  have H1 := Lib.hid h1; have H2 := Lib.hid h2; have H3 := Lib.hid h3; have H4 := Lib.hid h4
  clear h1 h2 h3 h4
  go_enter Try.func17, Try.ntmps17
  go_wp2_with fail
  have HF0 := Lib.hid (four_new w (.slice A na ca) (.slice B nb cb) (.slice C nc cc) (.slice D nd cd) 29)
  have HB0 : Hid (Below w.heap.size w ((w.alloc (.cells #[.slice A na ca, .slice B nb cb] 29)).alloc (.cells #[.slice C nc cc, .slice D nd cd] 29))) := Lib.hid (((Below.refl _ _).alloc (Nat.le_refl _) _).alloc (by simp) _)
  have hsz : w.heap.size + 1 < ((w.alloc (.cells #[.slice A na ca, .slice B nb cb] 29)).alloc (.cells #[.slice C nc cc, .slice D nd cd] 29)).heap.size := by simp
  generalize (w.alloc (.cells #[.slice A na ca, .slice B nb cb] 29)).alloc (.cells #[.slice C nc cc, .slice D nd cd] 29) = W at HF0 HB0 hsz ⊢
  have f0 := HF0.out
  go_region_held3 (fun w' => FourC w' w.heap.size (.slice A na ca) (.slice B nb cb) (.slice C nc cc) (.slice D nd cd)) (first | exact f0 | exact f1 | exact f2)
    ((first
      | (have hsecond := f1
         go_at_call 28
         refine (times_num ((H3.out.past HB1.out HB1.out.size)) ((H2.out.past HB1.out HB1.out.size)) hu).mono ?_
         rintro e w3 ⟨A2, n2, c2, rfl, hr2, hb2⟩
         have HR2 := Lib.hid hr2
         have HR1' := Lib.hid (HR1.out.next hb2)
         have f2 := FourC.past f1 hb2 (by have := HB1.out.size; omega)
         have HB2 := Lib.hid (HB1.out.trans (hb2.mono HB1.out.size))
         clear hr2 hb2)
      | (go_at_call 28
         refine (times_num ((H1.out.past HB0.out HB0.out.size).q (w' := World.drew _) ⟨1, rfl⟩) ((H4.out.past HB0.out HB0.out.size).q (w' := World.drew _) ⟨1, rfl⟩) hv).mono ?_
         rintro e w2 ⟨A1, n1, c1, rfl, hr1, hb1⟩
         have HR1 := Lib.hid hr1
         have f1 := FourC.past (w := World.drew W) f0 hb1 hsz
         have hsz1 : w.heap.size + 1 < w2.heap.size := Nat.lt_of_lt_of_le hsz hb1.size
         have HB1 := Lib.hid ((HB0.out.trans ((Qw.below (w' := World.drew _) ⟨1, rfl⟩ _))).trans (hb1.mono HB0.out.size))
         clear hr1 hb1)))
  go_wp2_with fail
  go_ret2
  exact ⟨_, _, _, _, _, _, rfl, HR1'.out, HR2.out, HB2.out⟩
#print axioms cross_num
end Go.Proofs.Ytncjmndiafgaaaa
/- Binomials, and the contract of choose at small numbers. Conditions: as each statement says. -/
namespace Go.Proofs.Ytncjmndiafgaaaa
open Go.RowKit
set_option linter.unusedVariables false
/-- How many sets of k there are among n things. -/
def bin : Nat → Nat → Nat
  | _, 0 => 1
  | 0, _ + 1 => 0
  | n + 1, k + 1 => bin n k + bin n (k + 1)
theorem bin_zero (n : Nat) : bin n 0 = 1 := by cases n <;> rfl
theorem bin_over : ∀ (n k : Nat), n < k → bin n k = 0
  | _, 0, h => by omega
  | 0, k + 1, _ => rfl
  | n + 1, k + 1, h => by rw [bin, bin_over n k (by omega), bin_over n (k + 1) (by omega)]
theorem bin_mul : ∀ (n k : Nat), bin n (k + 1) * (k + 1) = bin n k * (n - k)
  | 0, k => by
    have : bin 0 (k + 1) = 0 := rfl
    rw [this]; simp
  | n + 1, 0 => by
    have h := bin_mul n 0
    simp only [bin_zero, Nat.zero_add, Nat.mul_one, Nat.sub_zero, Nat.one_mul] at h ⊢
    show bin n 0 + bin n 1 = _
    rw [bin_zero]; omega
  | n + 1, k + 1 => by
    have h1 := bin_mul n k
    have h2 := bin_mul n (k + 1)
    rw [bin, bin, Nat.add_mul, h2]
    rcases Nat.lt_or_ge k n with hk | hk
    · obtain ⟨d, rfl⟩ : ∃ d, n = k + 1 + d := ⟨n - (k + 1), by omega⟩
      rw [show k + 1 + d - k = d + 1 by omega] at h1
      rw [show k + 1 + d - (k + 1) = d by omega, show k + 1 + d + 1 - (k + 1) = d + 1 by omega, Nat.add_mul]
      generalize bin (k + 1 + d) k = x at *
      generalize bin (k + 1 + d) (k + 1) = y at *
      rw [Nat.mul_add y (k + 1) 1, Nat.mul_add y d 1, h1]; omega
    · have e1 : bin n (k + 1) = 0 := bin_over _ _ (by omega)
      rw [e1, show n + 1 - (k + 1) = n - k by omega]
      rw [e1] at h1
      have : bin n k * (n - k) = 0 := by omega
      rw [Nat.add_mul, this]; simp
theorem bin_step (n k : Nat) (h : k ≤ n) : bin n (k + 1) = bin n k * (n - k) / (k + 1) := by
  rw [← bin_mul, Nat.mul_div_cancel _ (by omega)]
theorem bin_le_all : ∀ n : Fin 11, ∀ k : Fin 12, bin n k ≤ 252 := by decide
theorem bin_le (n : Nat) (hn : n ≤ 10) (k : Nat) : bin n k ≤ 252 := by
  rcases Nat.lt_or_ge k 12 with h | h
  · exact bin_le_all ⟨n, by omega⟩ ⟨k, h⟩
  · rw [bin_over n k (by omega)]; omega
theorem bin_symm_all : ∀ n : Fin 11, ∀ k : Fin 11, k.val ≤ n.val → bin n (n.val - k.val) = bin n k := by decide
theorem bin_symm (n : Nat) (hn : n ≤ 10) (k : Nat) (hk : k ≤ n) : bin n (n - k) = bin n k := bin_symm_all ⟨n, by omega⟩ ⟨k, by omega⟩ hk
theorem bin_pos_all : ∀ n : Fin 11, ∀ k : Fin 11, k.val ≤ n.val → 0 < bin n k := by decide
theorem bin_pos (n : Nat) (hn : n ≤ 10) (k : Nat) (hk : k ≤ n) : 0 < bin n k := bin_pos_all ⟨n, by omega⟩ ⟨k, by omega⟩ hk
set_option maxRecDepth 100000 in
set_option maxHeartbeats 400000 in
theorem choose_num {w : World} (N k : Nat) (NI kI : Int) (hNI : NI = N) (hkI : kI = k) (hN : N ≤ 10) (hk : k ≤ N) :
    Calls Try.prog 29 #[.int .i64 NI, .int .i64 kI] w (RetNum w (bin N k)) := by
  have c1 : NI ≤ N := by omega
  have c2 : (N : Int) ≤ NI := by omega
  have c3 : kI ≤ k := by omega
  have c4 : (k : Int) ≤ kI := by omega
  clear hNI hkI
  have b0 : 0 ≤ kI := by omega
  have b1 : kI ≤ NI := by omega
  have b2 : NI ≤ 10 := by omega
  have b3 : ¬ kI < 0 := by omega
  have b4 : ¬ NI < kI := by omega
  have hcs : (kI < NI - kI) ∨ (NI - kI < kI) ∨ (¬ kI < NI - kI ∧ ¬ NI - kI < kI) := by omega
  rcases hcs with g | g | ⟨g, g'⟩
  · go_enter Try.func29, Try.ntmps29
    go_wp2_with fail
    have HL0 : Hid (NumR (w.alloc (.cells #[.int .u32 1] 47)) (w.alloc (.cells #[.int .u32 1] 47)).heap.size (some ⟨w.heap.size, 0, none⟩) 1 1 (bin N 0)) := Lib.hid (by rw [bin_zero]; exact (num_lit w 1 1 rfl (by omega)).mono (by simp))
    have HB0 : Hid (Below w.heap.size w (w.alloc (.cells #[.int .u32 1] 47))) := Lib.hid ((Below.refl _ _).alloc (Nat.le_refl _) _)
    generalize w.alloc (.cells #[.int .u32 1] 47) = w1 at HL0 HB0 ⊢
    go_loopw [5, 20] (fun cv i wr => ∃ (j : Nat) (A : Option Addr) (n c : Nat), (j : Int) ≤ kI ∧ i = .int .i64 j ∧ cv = .slice A n c ∧ NumR wr wr.heap.size A n c (bin N j) ∧ Below w.heap.size w wr) (fun _ i _ => N - (intOf i).toNat)
    case atStart => exact ⟨0, _, _, _, by omega, rfl, rfl, HL0.out, HB0.out⟩
    case round =>
      obtain ⟨j, A, n, c, hj, rfl, rfl, hr, hb⟩ := hrel
      obtain ⟨wa, rfl⟩ : ∃ z : World, z = wr := ⟨_, rfl⟩
      have HR := Lib.hid hr; have HB := Lib.hid hb
      clear hr hb HL0 HB0
      by_cases hlt : (j : Int) < kI
      · obtain ⟨d, hd⟩ : ∃ d : Nat, NI - (j : Int) = d := ⟨N - j, by omega⟩
        have HS := Lib.hid (bin_step N j (by omega))
        have hb1 : bin N j ≤ 252 := bin_le N (by omega) j
        have hb2 : bin N j * d ≤ 252 * 10 := Nat.mul_le_mul hb1 (by omega)
        have HD := Lib.hid hd
        go_wp2_with fail
        refine (next_num NI (j : Int) d j rfl HD.out (by omega) (by omega) HR.out (by omega)).mono ?_
        rintro e w2 ⟨A2, n2, c2, rfl, hr2, hb2⟩
        have HE : Hid (bin N j * d / (j + 1) = bin N (j + 1)) := Lib.hid (by
          have h1 := HD.out
          rw [HS.out, show N - j = d by omega])
        rw [HE.out] at hr2
        have HR2 := Lib.hid hr2; have HB2 := Lib.hid (HB.out.trans (hb2.mono HB.out.size))
        clear hr2 hb2
        go_wp2_with fail
        go_roundw
        case rel => exact ⟨j + 1, A2, n2, c2, by omega, by go_num, rfl, HR2.out, HB2.out⟩
        case measure => simp [intOf]; omega
      · have hjm : (j : Int) = kI := by omega
        have HV : Hid (bin N j = bin N k) := Lib.hid (by rw [show j = k by omega])
        clear hjm
        go_wp2_with fail
        go_ret
        exact ⟨A, n, c, rfl, by rw [← HV.out]; exact HR.out, HB.out⟩
  · go_enter Try.func29, Try.ntmps29
    go_wp2_with fail
    have HL0 : Hid (NumR (w.alloc (.cells #[.int .u32 1] 47)) (w.alloc (.cells #[.int .u32 1] 47)).heap.size (some ⟨w.heap.size, 0, none⟩) 1 1 (bin N 0)) := Lib.hid (by rw [bin_zero]; exact (num_lit w 1 1 rfl (by omega)).mono (by simp))
    have HB0 : Hid (Below w.heap.size w (w.alloc (.cells #[.int .u32 1] 47))) := Lib.hid ((Below.refl _ _).alloc (Nat.le_refl _) _)
    generalize w.alloc (.cells #[.int .u32 1] 47) = w1 at HL0 HB0 ⊢
    go_loopw [5, 20] (fun cv i wr => ∃ (j : Nat) (A : Option Addr) (n c : Nat), (j : Int) ≤ NI - kI ∧ i = .int .i64 j ∧ cv = .slice A n c ∧ NumR wr wr.heap.size A n c (bin N j) ∧ Below w.heap.size w wr) (fun _ i _ => N - (intOf i).toNat)
    case atStart => exact ⟨0, _, _, _, by omega, rfl, rfl, HL0.out, HB0.out⟩
    case round =>
      obtain ⟨j, A, n, c, hj, rfl, rfl, hr, hb⟩ := hrel
      obtain ⟨wa, rfl⟩ : ∃ z : World, z = wr := ⟨_, rfl⟩
      have HR := Lib.hid hr; have HB := Lib.hid hb
      clear hr hb HL0 HB0
      by_cases hlt : (j : Int) < NI - kI
      · obtain ⟨d, hd⟩ : ∃ d : Nat, NI - (j : Int) = d := ⟨N - j, by omega⟩
        have HS := Lib.hid (bin_step N j (by omega))
        have hb1 : bin N j ≤ 252 := bin_le N (by omega) j
        have hb2 : bin N j * d ≤ 252 * 10 := Nat.mul_le_mul hb1 (by omega)
        have HD := Lib.hid hd
        go_wp2_with fail
        refine (next_num NI (j : Int) d j rfl HD.out (by omega) (by omega) HR.out (by omega)).mono ?_
        rintro e w2 ⟨A2, n2, c2, rfl, hr2, hb2⟩
        have HE : Hid (bin N j * d / (j + 1) = bin N (j + 1)) := Lib.hid (by
          have h1 := HD.out
          rw [HS.out, show N - j = d by omega])
        rw [HE.out] at hr2
        have HR2 := Lib.hid hr2; have HB2 := Lib.hid (HB.out.trans (hb2.mono HB.out.size))
        clear hr2 hb2
        go_wp2_with fail
        go_roundw
        case rel => exact ⟨j + 1, A2, n2, c2, by omega, by go_num, rfl, HR2.out, HB2.out⟩
        case measure => simp [intOf]; omega
      · have hjm : (j : Int) = NI - kI := by omega
        have HV : Hid (bin N j = bin N k) := Lib.hid (by rw [show j = N - k by omega]; exact bin_symm N hN k (by omega))
        clear hjm
        go_wp2_with fail
        go_ret
        exact ⟨A, n, c, rfl, by rw [← HV.out]; exact HR.out, HB.out⟩
  · go_enter Try.func29, Try.ntmps29
    go_wp2_with fail
    have HL0 : Hid (NumR (w.alloc (.cells #[.int .u32 1] 47)) (w.alloc (.cells #[.int .u32 1] 47)).heap.size (some ⟨w.heap.size, 0, none⟩) 1 1 (bin N 0)) := Lib.hid (by rw [bin_zero]; exact (num_lit w 1 1 rfl (by omega)).mono (by simp))
    have HB0 : Hid (Below w.heap.size w (w.alloc (.cells #[.int .u32 1] 47))) := Lib.hid ((Below.refl _ _).alloc (Nat.le_refl _) _)
    generalize w.alloc (.cells #[.int .u32 1] 47) = w1 at HL0 HB0 ⊢
    go_loopw [5, 20] (fun cv i wr => ∃ (j : Nat) (A : Option Addr) (n c : Nat), (j : Int) ≤ kI ∧ i = .int .i64 j ∧ cv = .slice A n c ∧ NumR wr wr.heap.size A n c (bin N j) ∧ Below w.heap.size w wr) (fun _ i _ => N - (intOf i).toNat)
    case atStart => exact ⟨0, _, _, _, by omega, rfl, rfl, HL0.out, HB0.out⟩
    case round =>
      obtain ⟨j, A, n, c, hj, rfl, rfl, hr, hb⟩ := hrel
      obtain ⟨wa, rfl⟩ : ∃ z : World, z = wr := ⟨_, rfl⟩
      have HR := Lib.hid hr; have HB := Lib.hid hb
      clear hr hb HL0 HB0
      by_cases hlt : (j : Int) < kI
      · obtain ⟨d, hd⟩ : ∃ d : Nat, NI - (j : Int) = d := ⟨N - j, by omega⟩
        have HS := Lib.hid (bin_step N j (by omega))
        have hb1 : bin N j ≤ 252 := bin_le N (by omega) j
        have hb2 : bin N j * d ≤ 252 * 10 := Nat.mul_le_mul hb1 (by omega)
        have HD := Lib.hid hd
        go_wp2_with fail
        refine (next_num NI (j : Int) d j rfl HD.out (by omega) (by omega) HR.out (by omega)).mono ?_
        rintro e w2 ⟨A2, n2, c2, rfl, hr2, hb2⟩
        have HE : Hid (bin N j * d / (j + 1) = bin N (j + 1)) := Lib.hid (by
          have h1 := HD.out
          rw [HS.out, show N - j = d by omega])
        rw [HE.out] at hr2
        have HR2 := Lib.hid hr2; have HB2 := Lib.hid (HB.out.trans (hb2.mono HB.out.size))
        clear hr2 hb2
        go_wp2_with fail
        go_roundw
        case rel => exact ⟨j + 1, A2, n2, c2, by omega, by go_num, rfl, HR2.out, HB2.out⟩
        case measure => simp [intOf]; omega
      · have hjm : (j : Int) = kI := by omega
        have HV : Hid (bin N j = bin N k) := Lib.hid (by rw [show j = k by omega])
        clear hjm
        go_wp2_with fail
        go_ret
        exact ⟨A, n, c, rfl, by rw [← HV.out]; exact HR.out, HB.out⟩
#print axioms choose_num
end Go.Proofs.Ytncjmndiafgaaaa
/- The contracts of Check, check, sane, valid and FracCompare at small numbers. Conditions: as each statement says. -/
namespace Go.Proofs.Ytncjmndiafgaaaa
open Go.RowKit
set_option linter.unusedVariables false
theorem Check_ok (A : Option Addr) (n c : Nat) (w : World) (hn : n ≤ 64) : Calls Try.prog 46 #[.slice A n c] w fun e w' => e = .returned (.int .i64 0) ∧ w = w' := by
  have h : ¬ (64 : Int) < (n : Int) := by omega
  go_enter Try.func46, Try.ntmps46
  go_wp2_with fail
  go_ret
  exact ⟨rfl, rfl⟩
theorem check_ok (A A' : Option Addr) (n c n' c' : Nat) (w : World) (hn : n ≤ 64) (hn' : n' ≤ 64) : Calls Try.prog 32 #[.slice A n c, .slice A' n' c'] w fun e w' => e = .returned (.int .i64 0) ∧ w = w' := by
  go_enter Try.func32, Try.ntmps32
  go_wp2_with fail
  refine (Check_ok A n c _ hn).mono ?_
  rintro e w' ⟨rfl, rfl⟩
  go_wp2_with fail
  refine (Check_ok A' n' c' _ hn').mono ?_
  rintro e w' ⟨rfl, rfl⟩
  go_wp2_with fail
  go_ret
  exact ⟨rfl, rfl⟩
theorem sane_yes (nI kI : Int) (w : World) (h0 : 0 ≤ kI) (h1 : kI ≤ nI) (h2 : nI ≤ 512) : Calls Try.prog 27 #[.int .i64 nI, .int .i64 kI] w fun e w' => e = .returned (.bool true) ∧ w = w' := by
  have h3 : 0 ≤ nI := by omega
  go_enter Try.func27, Try.ntmps27
  go_wp2_with fail
  go_ret
  exact ⟨rfl, rfl⟩
/-- A fraction's two slices, and their values. -/
structure FV where
  A : Option Addr
  n : Nat
  c : Nat
  v : Nat
  B : Option Addr
  m : Nat
  d : Nat
  u : Nat
def FV.val (f : FV) : Value := .agg #[.slice f.A f.n f.c, .slice f.B f.m f.d]
structure FV.ok (f : FV) (w : World) (B : Nat) : Prop where
  num : NumR w B f.A f.n f.c f.v
  den : NumR w B f.B f.m f.d f.u
  pos : 0 < f.u
theorem FV.ok.past {f : FV} {w w' : World} {B : Nat} (h : f.ok w B) (hb : Below B w w') (hB : B ≤ w'.heap.size) : f.ok w' w'.heap.size := ⟨h.num.past hb hB, h.den.past hb hB, h.pos⟩
theorem FV.ok.next {f : FV} {w w' : World} (h : f.ok w w.heap.size) (hb : Below w.heap.size w w') : f.ok w' w'.heap.size := h.past hb hb.size
theorem FV.ok.q {f : FV} {w w' : World} {B : Nat} (h : f.ok w B) (hq : Qw w w') : f.ok w' B := ⟨h.num.q hq, h.den.q hq, h.pos⟩
/-- A list of fractions. -/
structure FsAt (w : World) (b m : Nat) (F : Nat → FV) : Prop where
  lt : b < w.heap.size
  c0 : ∀ i, i < m → w.cell? ⟨b, i * 2, none⟩ = some (.slice (F i).A (F i).n (F i).c)
  c1 : ∀ i, i < m → w.cell? ⟨b, i * 2 + 1, none⟩ = some (.slice (F i).B (F i).m (F i).d)
  ok : ∀ i, i < m → (F i).ok w w.heap.size
theorem FsAt.next {w w' : World} {b m : Nat} {F : Nat → FV} (h : FsAt w b m F) (hb : Below w.heap.size w w') : FsAt w' b m F :=
  ⟨Nat.lt_of_lt_of_le h.lt hb.size, fun i hi => (hb.cell (p := ⟨b, i * 2, none⟩) h.lt).trans (h.c0 i hi), fun i hi => (hb.cell (p := ⟨b, i * 2 + 1, none⟩) h.lt).trans (h.c1 i hi), fun i hi => (h.ok i hi).next hb⟩
set_option maxHeartbeats 1000000 in
theorem valid_ok (b m : Nat) (F : Nat → FV) (w : World) (hm : m ≤ 1000) (h : FsAt w b m F) :
    Calls Try.prog 16 #[.slice (some ⟨b, 0, none⟩) m m] w fun e w' => e = .returned (.int .i64 0) ∧ Below w.heap.size w w' := by
  have H := Lib.hid h
  clear h
  go_enter Try.func16, Try.ntmps16
  go_wp2_with fail
  go_loopw [10] (fun i wr => ∃ k : Nat, k ≤ m ∧ i = .int .i64 k ∧ FsAt wr b m F ∧ Below w.heap.size w wr) (fun i _ => m - (intOf i).toNat)
  case atStart => exact ⟨0, Nat.zero_le _, rfl, H.out, Below.refl _ _⟩
  case round =>
    obtain ⟨k, hk, rfl, hf, hb⟩ := hrel
    obtain ⟨wa, rfl⟩ : ∃ z : World, z = wr := ⟨_, rfl⟩
    have HF := Lib.hid hf; have HB := Lib.hid hb
    clear hf hb
    by_cases hlt : k < m
    · have hki : (k : Int) < (m : Int) := by omega
      have r0 := HF.out.c0 k hlt; have r1 := HF.out.c1 k hlt
      have ho := HF.out.ok k hlt
      have n1 := ho.num.n2; have n2 := ho.den.n2
      clear ho
      generalize F k = f at r0 r1 n1 n2
      go_wp2_with fail
      refine (check_ok f.A f.B f.n f.c f.m f.d _ (by omega) (by omega)).mono ?_
      rintro e w' ⟨rfl, rfl⟩
      go_wp2_with fail
      go_roundw
      case rel => exact ⟨k + 1, by omega, by go_num, HF.out.next ((Below.refl _ _).alloc (Nat.le_refl _) _), HB.out.alloc HB.out.size _⟩
      case measure => simp [intOf]; omega
    · have hki : ¬ (k : Int) < (m : Int) := by omega
      go_wp2_with fail
      go_loopw [25] (fun i wr => ∃ k : Nat, k ≤ m ∧ i = .int .i64 k ∧ FsAt wr b m F ∧ Below w.heap.size w wr) (fun i _ => m - (intOf i).toNat)
      case atStart => exact ⟨0, Nat.zero_le _, rfl, HF.out, HB.out⟩
      case round =>
        clear hk hlt hki
        obtain ⟨k2, hk, rfl, hf, hb⟩ := hrel
        obtain ⟨wb, rfl⟩ : ∃ z : World, z = wr := ⟨_, rfl⟩
        have HF2 := Lib.hid hf; have HB2 := Lib.hid hb
        clear hf hb HF HB
        by_cases hlt : k2 < m
        · have hki : (k2 : Int) < (m : Int) := by omega
          have r0 := HF2.out.c0 k2 hlt; have r1 := HF2.out.c1 k2 hlt
          have HO := Lib.hid (HF2.out.ok k2 hlt)
          generalize F k2 = f at r0 r1 HO
          go_wp2_with fail
          refine (size_pos (HO.out.den.next ((Below.refl _ _).alloc (Nat.le_refl _) _)) HO.out.pos).mono ?_
          rintro e w' ⟨⟨z, hz, rfl⟩, rfl⟩
          have hz1 : (z == 0) = false := by simp; omega
          have hz2 : ¬ z = 0 := by omega
          go_wp2_with fail
          go_roundw
          case rel => exact ⟨k2 + 1, by omega, by go_num, HF2.out.next ((Below.refl _ _).alloc (Nat.le_refl _) _), HB2.out.alloc HB2.out.size _⟩
          case measure => simp [intOf]; omega
        · have hki : ¬ (k2 : Int) < (m : Int) := by omega
          go_wp2_with fail
          go_ret
          exact ⟨rfl, HB2.out⟩
/-- A fraction in a box. -/
abbrev FBox (w : World) (g : Nat) (f : FV) : Prop := w.cell? ⟨g, 0, none⟩ = some (.slice f.A f.n f.c) ∧ w.cell? ⟨g, 1, none⟩ = some (.slice f.B f.m f.d)
theorem FBox.past {w w' : World} {B g : Nat} {f : FV} (h : FBox w g f) (hb : Below B w w') (hg : g < B) : FBox w' g f :=
  ⟨(hb.cell (p := ⟨g, 0, none⟩) hg).trans h.1, (hb.cell (p := ⟨g, 1, none⟩) hg).trans h.2⟩
theorem fs_one (w : World) (f : FV) (t : TypeId) (h : f.ok w w.heap.size) : FsAt (w.alloc (.cells #[.slice f.A f.n f.c, .slice f.B f.m f.d] t)) w.heap.size 1 (fun _ => f) := by
  have k1 := heap_alloc_new w (.cells #[.slice f.A f.n f.c, .slice f.B f.m f.d] t)
  refine ⟨by simp, fun i hi => ?_, fun i hi => ?_, fun i hi => h.past ((Below.refl _ _).alloc (Nat.le_refl _) _) (by simp)⟩
  all_goals
    obtain rfl : i = 0 := by omega
    rw [cell_of_row _ _ _ _ _ _ k1]; rfl
theorem fs_two (w : World) (f g : FV) (t : TypeId) (h : f.ok w w.heap.size) (h' : g.ok w w.heap.size) : FsAt (w.alloc (.cells #[.slice f.A f.n f.c, .slice f.B f.m f.d, .slice g.A g.n g.c, .slice g.B g.m g.d] t)) w.heap.size 2 (fun i => if i = 0 then f else g) := by
  have k1 := heap_alloc_new w (.cells #[.slice f.A f.n f.c, .slice f.B f.m f.d, .slice g.A g.n g.c, .slice g.B g.m g.d] t)
  refine ⟨by simp, fun i hi => ?_, fun i hi => ?_, fun i hi => ?_⟩
  · rcases (by omega : i = 0 ∨ i = 1) with rfl | rfl <;> (rw [cell_of_row _ _ _ _ _ _ k1]; rfl)
  · rcases (by omega : i = 0 ∨ i = 1) with rfl | rfl <;> (rw [cell_of_row _ _ _ _ _ _ k1]; rfl)
  · rcases (by omega : i = 0 ∨ i = 1) with rfl | rfl
    · exact h.past ((Below.refl _ _).alloc (Nat.le_refl _) _) (by simp)
    · exact h'.past ((Below.refl _ _).alloc (Nat.le_refl _) _) (by simp)
set_option maxHeartbeats 1000000 in
theorem compare_num (f g : FV) (w : World) (h : f.ok w w.heap.size) (h' : g.ok w w.heap.size) (hv : f.v * g.u ≤ 4000000000) (hu : g.v * f.u ≤ 4000000000) :
    Calls Try.prog 8 #[.agg #[.slice f.A f.n f.c, .slice f.B f.m f.d], .agg #[.slice g.A g.n g.c, .slice g.B g.m g.d]] w
      fun e w' => e = .returned (.tuple #[.int .i64 (ordI (f.v * g.u) (g.v * f.u)), .int .i64 0]) ∧ Below w.heap.size w w' := by
  have H := Lib.hid h; have H' := Lib.hid h'
  clear h h'
  go_enter Try.func8, Try.ntmps8
  go_wp2_with fail
  have HF0 := Lib.hid (four_new w (.slice f.A f.n f.c) (.slice f.B f.m f.d) (.slice g.A g.n g.c) (.slice g.B g.m g.d) 29)
  have HB0 : Hid (Below w.heap.size w ((w.alloc (.cells #[.slice f.A f.n f.c, .slice f.B f.m f.d] 29)).alloc (.cells #[.slice g.A g.n g.c, .slice g.B g.m g.d] 29))) := Lib.hid (((Below.refl _ _).alloc (Nat.le_refl _) _).alloc (by simp) _)
  have HS : Hid (((w.alloc (.cells #[.slice f.A f.n f.c, .slice f.B f.m f.d] 29)).alloc (.cells #[.slice g.A g.n g.c, .slice g.B g.m g.d] 29)).heap.size = w.heap.size + 1 + 1) := Lib.hid (by simp)
  generalize (w.alloc (.cells #[.slice f.A f.n f.c, .slice f.B f.m f.d] 29)).alloc (.cells #[.slice g.A g.n g.c, .slice g.B g.m g.d] 29) = W at HF0 HB0 HS ⊢
  have HV := Lib.hid (fs_two W f g 29 (H.out.past HB0.out HB0.out.size) (H'.out.past HB0.out HB0.out.size))
  rw [HS.out] at HV
  refine (valid_ok (w.heap.size + 1 + 1) 2 _ _ (by omega) HV.out).mono ?_
  rintro e w2 ⟨rfl, hb2⟩
  have hb3 : Below W.heap.size W w2 := ((Below.refl _ _).alloc (Nat.le_refl _) _).trans (hb2.mono (by simp))
  have hf2 := FourC.past HF0.out hb3 (by rw [HS.out]; omega)
  have HB2 := Lib.hid (bnextN HB0.out hb3)
  clear hb2 hb3 HF0
  go_wp2_with fail
  refine (cross_num (H.out.num.past HB2.out HB2.out.size) (H.out.den.past HB2.out HB2.out.size) (H'.out.num.past HB2.out HB2.out.size) (H'.out.den.past HB2.out HB2.out.size) hv hu).mono ?_
  rintro e w3 ⟨A1, n1, c1, A2, n2, c2, rfl, hr1, hr2, hb3⟩
  have HR1 := Lib.hid hr1; have HR2 := Lib.hid hr2; have HB3 := Lib.hid (bnextN HB2.out hb3)
  clear hr1 hr2 hb3 hf2
  go_wp2_with fail
  refine (order_num HR1.out HR2.out).mono ?_
  rintro e w4 ⟨rfl, hq⟩
  have HB4 := Lib.hid (HB3.out.trans (hq.below _))
  clear hq
  go_wp2_with fail
  go_ret2
  exact ⟨rfl, HB4.out⟩
#print axioms compare_num
end Go.Proofs.Ytncjmndiafgaaaa
/- The contract of ways at small numbers. Conditions: as each statement says. -/
namespace Go.Proofs.Ytncjmndiafgaaaa
open Go.RowKit
set_option linter.unusedVariables false
/-- How many sets of s among T things have fewer than k of b bad ones. -/
def waysS (T b s : Nat) : Nat → Nat
  | 0 => 0
  | k + 1 => waysS T b s k + bin b k * bin (T - b) (s - k)
theorem ways_le (T b s : Nat) (hT : T ≤ 10) (hb : b ≤ T) : ∀ k, waysS T b s k ≤ k * 63504
  | 0 => by simp [waysS]
  | k + 1 => by
    have h1 := ways_le T b s hT hb k
    have h2 : bin b k * bin (T - b) (s - k) ≤ 252 * 252 := Nat.mul_le_mul (bin_le b (by omega) k) (bin_le _ (by omega) _)
    rw [waysS]; omega
theorem ways_low (T b s : Nat) (hT : T ≤ 10) (hb : b ≤ T) : ∀ k : Nat, (k : Int) ≤ (s : Int) - ((T : Int) - (b : Int)) → waysS T b s k = 0
  | 0, _ => rfl
  | k + 1, h => by
    rw [waysS, ways_low T b s hT hb k (by omega), bin_over (T - b) (s - k) (by omega)]; simp
theorem ways_high (T b s : Nat) : ∀ d, waysS T b s (b + 1 + d) = waysS T b s (b + 1)
  | 0 => rfl
  | d + 1 => by
    rw [← Nat.add_assoc, waysS, ways_high T b s d, bin_over b (b + 1 + d) (by omega)]; simp
theorem ways_over (T b s k : Nat) (h : b ≤ k) : waysS T b s (k + 1) = waysS T b s (b + 1) := by
  obtain ⟨d, rfl⟩ : ∃ d, k = b + d := ⟨k - b, by omega⟩
  rw [show b + d + 1 = b + 1 + d by omega]; exact ways_high T b s d
theorem bin_down (M l : Nat) (h0 : 0 < l) (h : l ≤ M) : bin M (l - 1) = bin M l * l / (M - l + 1) := by
  have h1 := bin_mul M (l - 1)
  rw [show l - 1 + 1 = l by omega, show M - (l - 1) = M - l + 1 by omega] at h1
  rw [h1, Nat.mul_div_cancel _ (by omega)]
set_option maxRecDepth 100000 in
set_option maxHeartbeats 4000000 in
theorem ways_num {w : World} (T b s se : Nat) (TI bI sI seI : Int) (hTI : TI = T) (hbI : bI = b) (hsI : sI = s) (hseI : seI = se) (hT : T ≤ 10) (hb : b ≤ T) (hs : s ≤ T) (hse : se ≤ s) :
    Calls Try.prog 31 #[.int .i64 TI, .int .i64 bI, .int .i64 sI, .int .i64 seI] w (RetNum w (waysS T b s (se + 1))) := by
  have c1 : TI ≤ T := by omega
  have c2 : (T : Int) ≤ TI := by omega
  have c3 : bI ≤ b := by omega
  have c4 : (b : Int) ≤ bI := by omega
  have c5 : sI ≤ s := by omega
  have c6 : (s : Int) ≤ sI := by omega
  have c7 : seI ≤ se := by omega
  have c8 : (se : Int) ≤ seI := by omega
  clear hTI hbI hsI hseI
  have d1 : 0 ≤ bI := by omega
  have d2 : bI ≤ TI := by omega
  have d3 : TI ≤ 10 := by omega
  have d4 : 0 ≤ sI := by omega
  have d5 : sI ≤ TI := by omega
  have d6 : 0 ≤ seI := by omega
  have d7 : seI ≤ sI := by omega
  have d8 : ¬ sI < seI := by omega
  have hcs : (bI < seI ∧ ¬ sI < bI) ∨ ¬ bI < seI := by omega
  have hcf : (0 < sI - (TI - bI)) ∨ (¬ 0 < sI - (TI - bI)) := by omega
  rcases hcs with ⟨g1, g2⟩ | g1 <;> rcases hcf with g3 | g3
  · skip
    by_cases hnil : bI < sI - (TI - bI)
    · have HZ : Hid (waysS T b s (se + 1) = 0) := Lib.hid (by rw [ways_over T b s se (by omega)]; exact ways_low T b s hT hb (b + 1) (by omega))
      go_enter Try.func31, Try.ntmps31
      go_wp2_with fail
      go_ret
      exact ⟨none, 0, 0, rfl, by rw [HZ.out]; exact num_zero _ _ _, Below.refl _ _⟩
    · obtain ⟨f, hf1, hf2⟩ : ∃ f : Nat, sI - (TI - bI) ≤ f ∧ (f : Int) ≤ sI - (TI - bI) := ⟨(sI - (TI - bI)).toNat, by omega, by omega⟩
      obtain ⟨m, hm1, hm2⟩ : ∃ m : Nat, bI ≤ m ∧ (m : Int) ≤ bI := ⟨(bI).toNat, by omega, by omega⟩
      have hfm : f ≤ m := by omega
      have hfs : s ≤ f + (T - b) := by omega
      have hms : m ≤ s := by omega
      have hmb : m ≤ b := by omega
      have HW0 : Hid (waysS T b s f = 0) := Lib.hid (by first | exact ways_low T b s hT hb f (by omega) | (rw [show f = 0 by omega]; rfl))
      have HWE : Hid (waysS T b s (m + 1) = waysS T b s (se + 1)) := Lib.hid (by first | rw [show m = se by omega] | (rw [show m = b by omega]; exact (ways_over T b s se (by omega)).symm))
      go_enter Try.func31, Try.ntmps31
      go_wp2_with fail
      refine (choose_num b f bI (sI - (TI - bI)) (by omega) (by omega) (by omega) (by omega)).mono ?_
      rintro e w1 ⟨A1, n1, k1, rfl, hr1, hb1⟩
      have HR1 := Lib.hid hr1; have HB1 := Lib.hid hb1
      clear hr1 hb1
      go_wp2_with fail
      refine (choose_num (T - b) (s - f) (TI - bI) _ (by omega) (by omega) (by omega) (by omega)).mono ?_
      rintro e w2 ⟨A2, n2, k2, rfl, hr2, hb2⟩
      have HR2 := Lib.hid hr2; have HB2 := Lib.hid (bnextN HB1.out hb2); have HR1' := Lib.hid (HR1.out.next hb2)
      clear hr2 hb2 HR1
      go_wp2_with fail
      go_loopw [9, 11, 12, 13] (fun sv av bv i wr => ∃ (j : Nat) (jI : Int) (A1 : Option Addr) (n1 k1 : Nat) (A2 : Option Addr) (n2 k2 : Nat) (A3 : Option Addr) (n3 k3 : Nat), f ≤ j ∧ j ≤ m + 1 ∧ jI ≤ j ∧ (j : Int) ≤ jI ∧ i = .int .i64 jI ∧ sv = .slice A1 n1 k1 ∧ av = .slice A2 n2 k2 ∧ bv = .slice A3 n3 k3 ∧ NumR wr wr.heap.size A1 n1 k1 (waysS T b s j) ∧ NumR wr wr.heap.size A2 n2 k2 (bin b j) ∧ NumR wr wr.heap.size A3 n3 k3 (bin (T - b) (s - j)) ∧ Below w.heap.size w wr) (fun _ _ _ i _ => m + 1 - (intOf i).toNat)
      case atStart => exact ⟨f, sI - (TI - bI), none, 0, 0, A1, n1, k1, A2, n2, k2, Nat.le_refl _, by omega, by omega, by omega, rfl, rfl, rfl, rfl, by rw [HW0.out]; exact num_zero _ _ _, HR1'.out, HR2.out, HB2.out⟩
      case round =>
        clear HR1' HR2 HB1 HB2
        obtain ⟨j, jI, A1, n1, k1, A2, n2, k2, A3, n3, k3, hj1, hj2, hj3, hj4, rfl, rfl, rfl, rfl, hr1, hr2, hr3, hbw⟩ := hrel
        obtain ⟨wa, rfl⟩ : ∃ z : World, z = wr := ⟨_, rfl⟩
        have HR1 := Lib.hid hr1; have HR2 := Lib.hid hr2; have HR3 := Lib.hid hr3; have HB := Lib.hid hbw
        clear hr1 hr2 hr3 hbw
        by_cases hlt : j ≤ m
        · have hki : jI ≤ bI := by omega
          have hj0 : 0 ≤ jI := by omega
          have hw := ways_le T b s hT hb j
          have hx := bin_le b (by omega) j
          have hy := bin_le (T - b) (by omega) (s - j)
          have hxy : bin b j * bin (T - b) (s - j) ≤ 252 * 252 := Nat.mul_le_mul hx hy
          have hxb : bin b j * (b - j) ≤ 252 * 10 := Nat.mul_le_mul hx (by omega)
          have hyl : bin (T - b) (s - j) * (s - j) ≤ 252 * 10 := Nat.mul_le_mul hy (by omega)
          have hjw : j * 63504 ≤ 10 * 63504 := Nat.mul_le_mul_right _ (by omega)
          have HS : Hid (waysS T b s j + bin b j * bin (T - b) (s - j) = waysS T b s (j + 1)) := Lib.hid rfl
          have HN : Hid (bin b j * (b - j) / (j + 1) = bin b (j + 1)) := Lib.hid (bin_step b j (by omega)).symm
          go_wp2_with fail
          refine (times_num HR2.out HR3.out (by omega)).mono ?_
          rintro e w1 ⟨B1, q1, p1, rfl, hr, hb'⟩
          have HT := Lib.hid hr; have HB1 := Lib.hid (bnextN HB.out hb'); have HR1' := Lib.hid (HR1.out.next hb'); have HR2' := Lib.hid (HR2.out.next hb'); have HR3' := Lib.hid (HR3.out.next hb')
          clear hr hb' HR1 HR2 HR3
          go_wp2_with fail
          refine (plus_num HR1'.out HT.out (by omega)).mono ?_
          rintro e w2 ⟨B2, q2, p2, rfl, hr, hb'⟩
          rw [HS.out] at hr
          have HSUM := Lib.hid hr; have HB2 := Lib.hid (bnextN HB1.out hb'); have HR2 := Lib.hid (HR2'.out.next hb'); have HR3 := Lib.hid (HR3'.out.next hb')
          clear hr hb' HR1' HR2' HR3' HB1 HT
          go_wp2_with fail
          refine (next_num bI jI (b - j) j (by omega) (by omega) (by omega) (by omega) HR2.out (by omega)).mono ?_
          rintro e w3 ⟨B3, q3, p3, rfl, hr, hb'⟩
          rw [HN.out] at hr
          have HA := Lib.hid hr; have HB3 := Lib.hid (bnextN HB2.out hb'); have HSUM2 := Lib.hid (HSUM.out.next hb'); have HR3' := Lib.hid (HR3.out.next hb')
          clear hr hb' HR2 HSUM HB2 HR3
          by_cases hl : j < s
          · have hl1 : jI < sI := by omega
            obtain ⟨lI, hlI⟩ : ∃ lI : Int, lI = ((s - j : Nat) : Int) := ⟨_, rfl⟩
            obtain ⟨mI, hmI⟩ : ∃ mI : Int, mI = ((T - b - (s - j) + 1 : Nat) : Int) := ⟨_, rfl⟩
            have x1 : IntKind.u32.wrap (sI - jI) = lI := by rw [IntKind.wrap_u32]; omega
            have x2 : IntKind.u32.wrap (TI - bI - (sI - jI) + 1) = mI := by rw [IntKind.wrap_u32]; omega
            have HL := Lib.hid hlI; have HM := Lib.hid hmI
            have HD : Hid (bin (T - b) (s - j) * (s - j) / (T - b - (s - j) + 1) = bin (T - b) (s - (j + 1))) := Lib.hid (by
              rw [← bin_down (T - b) (s - j) (by omega) (by omega)]; congr 1)
            clear hlI hmI
            go_wp2_with fail
            refine (times_num (HR3'.out.next ((Below.refl _ _).alloc (Nat.le_refl _) (.cells #[.int .u32 lI] 47))) ((num_lit w3 lI (s - j) HL.out (by omega)).mono (by simp)) (by omega)).mono ?_
            rintro e w4 ⟨B4, q4, p4, rfl, hr, hb'⟩
            have hb4 : Below w3.heap.size w3 w4 := ((Below.refl _ _).alloc (Nat.le_refl _) _).trans (hb'.mono (by simp))
            have HQ := Lib.hid hr; have HB4 := Lib.hid (bnextN HB3.out hb4); have HSUM3 := Lib.hid (HSUM2.out.next hb4); have HA2 := Lib.hid (HA.out.next hb4)
            clear hr hb' hb4 HSUM2 HA HB3
            go_wp2_with fail
            refine (split_num (HQ.out.next ((Below.refl _ _).alloc (Nat.le_refl _) (.cells #[.int .u32 mI] 47))) ((num_lit w4 mI _ HM.out (by omega)).mono (by simp)) (by omega) (by omega) (by omega)).mono ?_
            rintro e w5 ⟨B5, q5, p5, B6, q6, p6, rfl, hr, hr6, hb'⟩
            have hb5 : Below w4.heap.size w4 w5 := ((Below.refl _ _).alloc (Nat.le_refl _) _).trans (hb'.mono (by simp))
            rw [HD.out] at hr
            have HC := Lib.hid hr; have HB5 := Lib.hid (bnextN HB4.out hb5); have HSUM4 := Lib.hid (HSUM3.out.next hb5); have HA3 := Lib.hid (HA2.out.next hb5)
            clear hr hr6 hb' hb5 HSUM3 HA2 HB4
            go_wp2_with fail
            go_roundw
            case rel => exact ⟨j + 1, _, _, _, _, _, _, _, _, _, _, by omega, by omega, by omega, by omega, rfl, rfl, rfl, rfl, HSUM4.out, HA3.out, HC.out, HB5.out⟩
            case measure => simp [intOf]; omega
          · have hl1 : ¬ jI < sI := by omega
            have HD : Hid (bin (T - b) (s - (j + 1)) = bin (T - b) (s - j)) := Lib.hid (by congr 1; omega)
            have hl3 : sI - jI = 0 := by omega
            clear hl hl1
            go_wp2_with fail
            go_roundw
            case rel => exact ⟨j + 1, _, _, _, _, _, _, _, _, _, _, by omega, by omega, by omega, by omega, rfl, rfl, rfl, rfl, HSUM2.out, HA.out, by rw [HD.out]; exact HR3'.out, HB3.out⟩
            case measure => simp [intOf]; omega
        · have hki : ¬ jI ≤ bI := by omega
          have HE : Hid (waysS T b s j = waysS T b s (se + 1)) := Lib.hid (by rw [← HWE.out, show j = m + 1 by omega])
          go_wp2_with fail
          go_ret
          exact ⟨_, _, _, rfl, by rw [← HE.out]; exact HR1.out, HB.out⟩
  · skip
    by_cases hnil : bI < (0 : Int)
    · exfalso; omega
    · obtain ⟨f, hf1, hf2⟩ : ∃ f : Nat, (0 : Int) ≤ f ∧ (f : Int) ≤ (0 : Int) := ⟨((0 : Int)).toNat, by omega, by omega⟩
      obtain ⟨m, hm1, hm2⟩ : ∃ m : Nat, bI ≤ m ∧ (m : Int) ≤ bI := ⟨(bI).toNat, by omega, by omega⟩
      have hfm : f ≤ m := by omega
      have hfs : s ≤ f + (T - b) := by omega
      have hms : m ≤ s := by omega
      have hmb : m ≤ b := by omega
      have HW0 : Hid (waysS T b s f = 0) := Lib.hid (by first | exact ways_low T b s hT hb f (by omega) | (rw [show f = 0 by omega]; rfl))
      have HWE : Hid (waysS T b s (m + 1) = waysS T b s (se + 1)) := Lib.hid (by first | rw [show m = se by omega] | (rw [show m = b by omega]; exact (ways_over T b s se (by omega)).symm))
      go_enter Try.func31, Try.ntmps31
      go_wp2_with fail
      refine (choose_num b f bI ((0 : Int)) (by omega) (by omega) (by omega) (by omega)).mono ?_
      rintro e w1 ⟨A1, n1, k1, rfl, hr1, hb1⟩
      have HR1 := Lib.hid hr1; have HB1 := Lib.hid hb1
      clear hr1 hb1
      go_wp2_with fail
      refine (choose_num (T - b) (s - f) (TI - bI) _ (by omega) (by omega) (by omega) (by omega)).mono ?_
      rintro e w2 ⟨A2, n2, k2, rfl, hr2, hb2⟩
      have HR2 := Lib.hid hr2; have HB2 := Lib.hid (bnextN HB1.out hb2); have HR1' := Lib.hid (HR1.out.next hb2)
      clear hr2 hb2 HR1
      go_wp2_with fail
      go_loopw [9, 11, 12, 13] (fun sv av bv i wr => ∃ (j : Nat) (jI : Int) (A1 : Option Addr) (n1 k1 : Nat) (A2 : Option Addr) (n2 k2 : Nat) (A3 : Option Addr) (n3 k3 : Nat), f ≤ j ∧ j ≤ m + 1 ∧ jI ≤ j ∧ (j : Int) ≤ jI ∧ i = .int .i64 jI ∧ sv = .slice A1 n1 k1 ∧ av = .slice A2 n2 k2 ∧ bv = .slice A3 n3 k3 ∧ NumR wr wr.heap.size A1 n1 k1 (waysS T b s j) ∧ NumR wr wr.heap.size A2 n2 k2 (bin b j) ∧ NumR wr wr.heap.size A3 n3 k3 (bin (T - b) (s - j)) ∧ Below w.heap.size w wr) (fun _ _ _ i _ => m + 1 - (intOf i).toNat)
      case atStart => exact ⟨f, (0 : Int), none, 0, 0, A1, n1, k1, A2, n2, k2, Nat.le_refl _, by omega, by omega, by omega, rfl, rfl, rfl, rfl, by rw [HW0.out]; exact num_zero _ _ _, HR1'.out, HR2.out, HB2.out⟩
      case round =>
        clear HR1' HR2 HB1 HB2
        obtain ⟨j, jI, A1, n1, k1, A2, n2, k2, A3, n3, k3, hj1, hj2, hj3, hj4, rfl, rfl, rfl, rfl, hr1, hr2, hr3, hbw⟩ := hrel
        obtain ⟨wa, rfl⟩ : ∃ z : World, z = wr := ⟨_, rfl⟩
        have HR1 := Lib.hid hr1; have HR2 := Lib.hid hr2; have HR3 := Lib.hid hr3; have HB := Lib.hid hbw
        clear hr1 hr2 hr3 hbw
        by_cases hlt : j ≤ m
        · have hki : jI ≤ bI := by omega
          have hj0 : 0 ≤ jI := by omega
          have hw := ways_le T b s hT hb j
          have hx := bin_le b (by omega) j
          have hy := bin_le (T - b) (by omega) (s - j)
          have hxy : bin b j * bin (T - b) (s - j) ≤ 252 * 252 := Nat.mul_le_mul hx hy
          have hxb : bin b j * (b - j) ≤ 252 * 10 := Nat.mul_le_mul hx (by omega)
          have hyl : bin (T - b) (s - j) * (s - j) ≤ 252 * 10 := Nat.mul_le_mul hy (by omega)
          have hjw : j * 63504 ≤ 10 * 63504 := Nat.mul_le_mul_right _ (by omega)
          have HS : Hid (waysS T b s j + bin b j * bin (T - b) (s - j) = waysS T b s (j + 1)) := Lib.hid rfl
          have HN : Hid (bin b j * (b - j) / (j + 1) = bin b (j + 1)) := Lib.hid (bin_step b j (by omega)).symm
          go_wp2_with fail
          refine (times_num HR2.out HR3.out (by omega)).mono ?_
          rintro e w1 ⟨B1, q1, p1, rfl, hr, hb'⟩
          have HT := Lib.hid hr; have HB1 := Lib.hid (bnextN HB.out hb'); have HR1' := Lib.hid (HR1.out.next hb'); have HR2' := Lib.hid (HR2.out.next hb'); have HR3' := Lib.hid (HR3.out.next hb')
          clear hr hb' HR1 HR2 HR3
          go_wp2_with fail
          refine (plus_num HR1'.out HT.out (by omega)).mono ?_
          rintro e w2 ⟨B2, q2, p2, rfl, hr, hb'⟩
          rw [HS.out] at hr
          have HSUM := Lib.hid hr; have HB2 := Lib.hid (bnextN HB1.out hb'); have HR2 := Lib.hid (HR2'.out.next hb'); have HR3 := Lib.hid (HR3'.out.next hb')
          clear hr hb' HR1' HR2' HR3' HB1 HT
          go_wp2_with fail
          refine (next_num bI jI (b - j) j (by omega) (by omega) (by omega) (by omega) HR2.out (by omega)).mono ?_
          rintro e w3 ⟨B3, q3, p3, rfl, hr, hb'⟩
          rw [HN.out] at hr
          have HA := Lib.hid hr; have HB3 := Lib.hid (bnextN HB2.out hb'); have HSUM2 := Lib.hid (HSUM.out.next hb'); have HR3' := Lib.hid (HR3.out.next hb')
          clear hr hb' HR2 HSUM HB2 HR3
          by_cases hl : j < s
          · have hl1 : jI < sI := by omega
            obtain ⟨lI, hlI⟩ : ∃ lI : Int, lI = ((s - j : Nat) : Int) := ⟨_, rfl⟩
            obtain ⟨mI, hmI⟩ : ∃ mI : Int, mI = ((T - b - (s - j) + 1 : Nat) : Int) := ⟨_, rfl⟩
            have x1 : IntKind.u32.wrap (sI - jI) = lI := by rw [IntKind.wrap_u32]; omega
            have x2 : IntKind.u32.wrap (TI - bI - (sI - jI) + 1) = mI := by rw [IntKind.wrap_u32]; omega
            have HL := Lib.hid hlI; have HM := Lib.hid hmI
            have HD : Hid (bin (T - b) (s - j) * (s - j) / (T - b - (s - j) + 1) = bin (T - b) (s - (j + 1))) := Lib.hid (by
              rw [← bin_down (T - b) (s - j) (by omega) (by omega)]; congr 1)
            clear hlI hmI
            go_wp2_with fail
            refine (times_num (HR3'.out.next ((Below.refl _ _).alloc (Nat.le_refl _) (.cells #[.int .u32 lI] 47))) ((num_lit w3 lI (s - j) HL.out (by omega)).mono (by simp)) (by omega)).mono ?_
            rintro e w4 ⟨B4, q4, p4, rfl, hr, hb'⟩
            have hb4 : Below w3.heap.size w3 w4 := ((Below.refl _ _).alloc (Nat.le_refl _) _).trans (hb'.mono (by simp))
            have HQ := Lib.hid hr; have HB4 := Lib.hid (bnextN HB3.out hb4); have HSUM3 := Lib.hid (HSUM2.out.next hb4); have HA2 := Lib.hid (HA.out.next hb4)
            clear hr hb' hb4 HSUM2 HA HB3
            go_wp2_with fail
            refine (split_num (HQ.out.next ((Below.refl _ _).alloc (Nat.le_refl _) (.cells #[.int .u32 mI] 47))) ((num_lit w4 mI _ HM.out (by omega)).mono (by simp)) (by omega) (by omega) (by omega)).mono ?_
            rintro e w5 ⟨B5, q5, p5, B6, q6, p6, rfl, hr, hr6, hb'⟩
            have hb5 : Below w4.heap.size w4 w5 := ((Below.refl _ _).alloc (Nat.le_refl _) _).trans (hb'.mono (by simp))
            rw [HD.out] at hr
            have HC := Lib.hid hr; have HB5 := Lib.hid (bnextN HB4.out hb5); have HSUM4 := Lib.hid (HSUM3.out.next hb5); have HA3 := Lib.hid (HA2.out.next hb5)
            clear hr hr6 hb' hb5 HSUM3 HA2 HB4
            go_wp2_with fail
            go_roundw
            case rel => exact ⟨j + 1, _, _, _, _, _, _, _, _, _, _, by omega, by omega, by omega, by omega, rfl, rfl, rfl, rfl, HSUM4.out, HA3.out, HC.out, HB5.out⟩
            case measure => simp [intOf]; omega
          · have hl1 : ¬ jI < sI := by omega
            have HD : Hid (bin (T - b) (s - (j + 1)) = bin (T - b) (s - j)) := Lib.hid (by congr 1; omega)
            have hl3 : sI - jI = 0 := by omega
            clear hl hl1
            go_wp2_with fail
            go_roundw
            case rel => exact ⟨j + 1, _, _, _, _, _, _, _, _, _, _, by omega, by omega, by omega, by omega, rfl, rfl, rfl, rfl, HSUM2.out, HA.out, by rw [HD.out]; exact HR3'.out, HB3.out⟩
            case measure => simp [intOf]; omega
        · have hki : ¬ jI ≤ bI := by omega
          have HE : Hid (waysS T b s j = waysS T b s (se + 1)) := Lib.hid (by rw [← HWE.out, show j = m + 1 by omega])
          go_wp2_with fail
          go_ret
          exact ⟨_, _, _, rfl, by rw [← HE.out]; exact HR1.out, HB.out⟩
  · skip
    by_cases hnil : seI < sI - (TI - bI)
    · have HZ : Hid (waysS T b s (se + 1) = 0) := Lib.hid (by rw [ways_low T b s hT hb (se + 1) (by omega)])
      go_enter Try.func31, Try.ntmps31
      go_wp2_with fail
      go_ret
      exact ⟨none, 0, 0, rfl, by rw [HZ.out]; exact num_zero _ _ _, Below.refl _ _⟩
    · obtain ⟨f, hf1, hf2⟩ : ∃ f : Nat, sI - (TI - bI) ≤ f ∧ (f : Int) ≤ sI - (TI - bI) := ⟨(sI - (TI - bI)).toNat, by omega, by omega⟩
      obtain ⟨m, hm1, hm2⟩ : ∃ m : Nat, seI ≤ m ∧ (m : Int) ≤ seI := ⟨(seI).toNat, by omega, by omega⟩
      have hfm : f ≤ m := by omega
      have hfs : s ≤ f + (T - b) := by omega
      have hms : m ≤ s := by omega
      have hmb : m ≤ b := by omega
      have HW0 : Hid (waysS T b s f = 0) := Lib.hid (by first | exact ways_low T b s hT hb f (by omega) | (rw [show f = 0 by omega]; rfl))
      have HWE : Hid (waysS T b s (m + 1) = waysS T b s (se + 1)) := Lib.hid (by first | rw [show m = se by omega] | (rw [show m = b by omega]; exact (ways_over T b s se (by omega)).symm))
      go_enter Try.func31, Try.ntmps31
      go_wp2_with fail
      refine (choose_num b f bI (sI - (TI - bI)) (by omega) (by omega) (by omega) (by omega)).mono ?_
      rintro e w1 ⟨A1, n1, k1, rfl, hr1, hb1⟩
      have HR1 := Lib.hid hr1; have HB1 := Lib.hid hb1
      clear hr1 hb1
      go_wp2_with fail
      refine (choose_num (T - b) (s - f) (TI - bI) _ (by omega) (by omega) (by omega) (by omega)).mono ?_
      rintro e w2 ⟨A2, n2, k2, rfl, hr2, hb2⟩
      have HR2 := Lib.hid hr2; have HB2 := Lib.hid (bnextN HB1.out hb2); have HR1' := Lib.hid (HR1.out.next hb2)
      clear hr2 hb2 HR1
      go_wp2_with fail
      go_loopw [9, 11, 12, 13] (fun sv av bv i wr => ∃ (j : Nat) (jI : Int) (A1 : Option Addr) (n1 k1 : Nat) (A2 : Option Addr) (n2 k2 : Nat) (A3 : Option Addr) (n3 k3 : Nat), f ≤ j ∧ j ≤ m + 1 ∧ jI ≤ j ∧ (j : Int) ≤ jI ∧ i = .int .i64 jI ∧ sv = .slice A1 n1 k1 ∧ av = .slice A2 n2 k2 ∧ bv = .slice A3 n3 k3 ∧ NumR wr wr.heap.size A1 n1 k1 (waysS T b s j) ∧ NumR wr wr.heap.size A2 n2 k2 (bin b j) ∧ NumR wr wr.heap.size A3 n3 k3 (bin (T - b) (s - j)) ∧ Below w.heap.size w wr) (fun _ _ _ i _ => m + 1 - (intOf i).toNat)
      case atStart => exact ⟨f, sI - (TI - bI), none, 0, 0, A1, n1, k1, A2, n2, k2, Nat.le_refl _, by omega, by omega, by omega, rfl, rfl, rfl, rfl, by rw [HW0.out]; exact num_zero _ _ _, HR1'.out, HR2.out, HB2.out⟩
      case round =>
        clear HR1' HR2 HB1 HB2
        obtain ⟨j, jI, A1, n1, k1, A2, n2, k2, A3, n3, k3, hj1, hj2, hj3, hj4, rfl, rfl, rfl, rfl, hr1, hr2, hr3, hbw⟩ := hrel
        obtain ⟨wa, rfl⟩ : ∃ z : World, z = wr := ⟨_, rfl⟩
        have HR1 := Lib.hid hr1; have HR2 := Lib.hid hr2; have HR3 := Lib.hid hr3; have HB := Lib.hid hbw
        clear hr1 hr2 hr3 hbw
        by_cases hlt : j ≤ m
        · have hki : jI ≤ seI := by omega
          have hj0 : 0 ≤ jI := by omega
          have hw := ways_le T b s hT hb j
          have hx := bin_le b (by omega) j
          have hy := bin_le (T - b) (by omega) (s - j)
          have hxy : bin b j * bin (T - b) (s - j) ≤ 252 * 252 := Nat.mul_le_mul hx hy
          have hxb : bin b j * (b - j) ≤ 252 * 10 := Nat.mul_le_mul hx (by omega)
          have hyl : bin (T - b) (s - j) * (s - j) ≤ 252 * 10 := Nat.mul_le_mul hy (by omega)
          have hjw : j * 63504 ≤ 10 * 63504 := Nat.mul_le_mul_right _ (by omega)
          have HS : Hid (waysS T b s j + bin b j * bin (T - b) (s - j) = waysS T b s (j + 1)) := Lib.hid rfl
          have HN : Hid (bin b j * (b - j) / (j + 1) = bin b (j + 1)) := Lib.hid (bin_step b j (by omega)).symm
          go_wp2_with fail
          refine (times_num HR2.out HR3.out (by omega)).mono ?_
          rintro e w1 ⟨B1, q1, p1, rfl, hr, hb'⟩
          have HT := Lib.hid hr; have HB1 := Lib.hid (bnextN HB.out hb'); have HR1' := Lib.hid (HR1.out.next hb'); have HR2' := Lib.hid (HR2.out.next hb'); have HR3' := Lib.hid (HR3.out.next hb')
          clear hr hb' HR1 HR2 HR3
          go_wp2_with fail
          refine (plus_num HR1'.out HT.out (by omega)).mono ?_
          rintro e w2 ⟨B2, q2, p2, rfl, hr, hb'⟩
          rw [HS.out] at hr
          have HSUM := Lib.hid hr; have HB2 := Lib.hid (bnextN HB1.out hb'); have HR2 := Lib.hid (HR2'.out.next hb'); have HR3 := Lib.hid (HR3'.out.next hb')
          clear hr hb' HR1' HR2' HR3' HB1 HT
          go_wp2_with fail
          refine (next_num bI jI (b - j) j (by omega) (by omega) (by omega) (by omega) HR2.out (by omega)).mono ?_
          rintro e w3 ⟨B3, q3, p3, rfl, hr, hb'⟩
          rw [HN.out] at hr
          have HA := Lib.hid hr; have HB3 := Lib.hid (bnextN HB2.out hb'); have HSUM2 := Lib.hid (HSUM.out.next hb'); have HR3' := Lib.hid (HR3.out.next hb')
          clear hr hb' HR2 HSUM HB2 HR3
          by_cases hl : j < s
          · have hl1 : jI < sI := by omega
            obtain ⟨lI, hlI⟩ : ∃ lI : Int, lI = ((s - j : Nat) : Int) := ⟨_, rfl⟩
            obtain ⟨mI, hmI⟩ : ∃ mI : Int, mI = ((T - b - (s - j) + 1 : Nat) : Int) := ⟨_, rfl⟩
            have x1 : IntKind.u32.wrap (sI - jI) = lI := by rw [IntKind.wrap_u32]; omega
            have x2 : IntKind.u32.wrap (TI - bI - (sI - jI) + 1) = mI := by rw [IntKind.wrap_u32]; omega
            have HL := Lib.hid hlI; have HM := Lib.hid hmI
            have HD : Hid (bin (T - b) (s - j) * (s - j) / (T - b - (s - j) + 1) = bin (T - b) (s - (j + 1))) := Lib.hid (by
              rw [← bin_down (T - b) (s - j) (by omega) (by omega)]; congr 1)
            clear hlI hmI
            go_wp2_with fail
            refine (times_num (HR3'.out.next ((Below.refl _ _).alloc (Nat.le_refl _) (.cells #[.int .u32 lI] 47))) ((num_lit w3 lI (s - j) HL.out (by omega)).mono (by simp)) (by omega)).mono ?_
            rintro e w4 ⟨B4, q4, p4, rfl, hr, hb'⟩
            have hb4 : Below w3.heap.size w3 w4 := ((Below.refl _ _).alloc (Nat.le_refl _) _).trans (hb'.mono (by simp))
            have HQ := Lib.hid hr; have HB4 := Lib.hid (bnextN HB3.out hb4); have HSUM3 := Lib.hid (HSUM2.out.next hb4); have HA2 := Lib.hid (HA.out.next hb4)
            clear hr hb' hb4 HSUM2 HA HB3
            go_wp2_with fail
            refine (split_num (HQ.out.next ((Below.refl _ _).alloc (Nat.le_refl _) (.cells #[.int .u32 mI] 47))) ((num_lit w4 mI _ HM.out (by omega)).mono (by simp)) (by omega) (by omega) (by omega)).mono ?_
            rintro e w5 ⟨B5, q5, p5, B6, q6, p6, rfl, hr, hr6, hb'⟩
            have hb5 : Below w4.heap.size w4 w5 := ((Below.refl _ _).alloc (Nat.le_refl _) _).trans (hb'.mono (by simp))
            rw [HD.out] at hr
            have HC := Lib.hid hr; have HB5 := Lib.hid (bnextN HB4.out hb5); have HSUM4 := Lib.hid (HSUM3.out.next hb5); have HA3 := Lib.hid (HA2.out.next hb5)
            clear hr hr6 hb' hb5 HSUM3 HA2 HB4
            go_wp2_with fail
            go_roundw
            case rel => exact ⟨j + 1, _, _, _, _, _, _, _, _, _, _, by omega, by omega, by omega, by omega, rfl, rfl, rfl, rfl, HSUM4.out, HA3.out, HC.out, HB5.out⟩
            case measure => simp [intOf]; omega
          · have hl1 : ¬ jI < sI := by omega
            have HD : Hid (bin (T - b) (s - (j + 1)) = bin (T - b) (s - j)) := Lib.hid (by congr 1; omega)
            have hl3 : sI - jI = 0 := by omega
            clear hl hl1
            go_wp2_with fail
            go_roundw
            case rel => exact ⟨j + 1, _, _, _, _, _, _, _, _, _, _, by omega, by omega, by omega, by omega, rfl, rfl, rfl, rfl, HSUM2.out, HA.out, by rw [HD.out]; exact HR3'.out, HB3.out⟩
            case measure => simp [intOf]; omega
        · have hki : ¬ jI ≤ seI := by omega
          have HE : Hid (waysS T b s j = waysS T b s (se + 1)) := Lib.hid (by rw [← HWE.out, show j = m + 1 by omega])
          go_wp2_with fail
          go_ret
          exact ⟨_, _, _, rfl, by rw [← HE.out]; exact HR1.out, HB.out⟩
  · skip
    by_cases hnil : seI < (0 : Int)
    · exfalso; omega
    · obtain ⟨f, hf1, hf2⟩ : ∃ f : Nat, (0 : Int) ≤ f ∧ (f : Int) ≤ (0 : Int) := ⟨((0 : Int)).toNat, by omega, by omega⟩
      obtain ⟨m, hm1, hm2⟩ : ∃ m : Nat, seI ≤ m ∧ (m : Int) ≤ seI := ⟨(seI).toNat, by omega, by omega⟩
      have hfm : f ≤ m := by omega
      have hfs : s ≤ f + (T - b) := by omega
      have hms : m ≤ s := by omega
      have hmb : m ≤ b := by omega
      have HW0 : Hid (waysS T b s f = 0) := Lib.hid (by first | exact ways_low T b s hT hb f (by omega) | (rw [show f = 0 by omega]; rfl))
      have HWE : Hid (waysS T b s (m + 1) = waysS T b s (se + 1)) := Lib.hid (by first | rw [show m = se by omega] | (rw [show m = b by omega]; exact (ways_over T b s se (by omega)).symm))
      go_enter Try.func31, Try.ntmps31
      go_wp2_with fail
      refine (choose_num b f bI ((0 : Int)) (by omega) (by omega) (by omega) (by omega)).mono ?_
      rintro e w1 ⟨A1, n1, k1, rfl, hr1, hb1⟩
      have HR1 := Lib.hid hr1; have HB1 := Lib.hid hb1
      clear hr1 hb1
      go_wp2_with fail
      refine (choose_num (T - b) (s - f) (TI - bI) _ (by omega) (by omega) (by omega) (by omega)).mono ?_
      rintro e w2 ⟨A2, n2, k2, rfl, hr2, hb2⟩
      have HR2 := Lib.hid hr2; have HB2 := Lib.hid (bnextN HB1.out hb2); have HR1' := Lib.hid (HR1.out.next hb2)
      clear hr2 hb2 HR1
      go_wp2_with fail
      go_loopw [9, 11, 12, 13] (fun sv av bv i wr => ∃ (j : Nat) (jI : Int) (A1 : Option Addr) (n1 k1 : Nat) (A2 : Option Addr) (n2 k2 : Nat) (A3 : Option Addr) (n3 k3 : Nat), f ≤ j ∧ j ≤ m + 1 ∧ jI ≤ j ∧ (j : Int) ≤ jI ∧ i = .int .i64 jI ∧ sv = .slice A1 n1 k1 ∧ av = .slice A2 n2 k2 ∧ bv = .slice A3 n3 k3 ∧ NumR wr wr.heap.size A1 n1 k1 (waysS T b s j) ∧ NumR wr wr.heap.size A2 n2 k2 (bin b j) ∧ NumR wr wr.heap.size A3 n3 k3 (bin (T - b) (s - j)) ∧ Below w.heap.size w wr) (fun _ _ _ i _ => m + 1 - (intOf i).toNat)
      case atStart => exact ⟨f, (0 : Int), none, 0, 0, A1, n1, k1, A2, n2, k2, Nat.le_refl _, by omega, by omega, by omega, rfl, rfl, rfl, rfl, by rw [HW0.out]; exact num_zero _ _ _, HR1'.out, HR2.out, HB2.out⟩
      case round =>
        clear HR1' HR2 HB1 HB2
        obtain ⟨j, jI, A1, n1, k1, A2, n2, k2, A3, n3, k3, hj1, hj2, hj3, hj4, rfl, rfl, rfl, rfl, hr1, hr2, hr3, hbw⟩ := hrel
        obtain ⟨wa, rfl⟩ : ∃ z : World, z = wr := ⟨_, rfl⟩
        have HR1 := Lib.hid hr1; have HR2 := Lib.hid hr2; have HR3 := Lib.hid hr3; have HB := Lib.hid hbw
        clear hr1 hr2 hr3 hbw
        by_cases hlt : j ≤ m
        · have hki : jI ≤ seI := by omega
          have hj0 : 0 ≤ jI := by omega
          have hw := ways_le T b s hT hb j
          have hx := bin_le b (by omega) j
          have hy := bin_le (T - b) (by omega) (s - j)
          have hxy : bin b j * bin (T - b) (s - j) ≤ 252 * 252 := Nat.mul_le_mul hx hy
          have hxb : bin b j * (b - j) ≤ 252 * 10 := Nat.mul_le_mul hx (by omega)
          have hyl : bin (T - b) (s - j) * (s - j) ≤ 252 * 10 := Nat.mul_le_mul hy (by omega)
          have hjw : j * 63504 ≤ 10 * 63504 := Nat.mul_le_mul_right _ (by omega)
          have HS : Hid (waysS T b s j + bin b j * bin (T - b) (s - j) = waysS T b s (j + 1)) := Lib.hid rfl
          have HN : Hid (bin b j * (b - j) / (j + 1) = bin b (j + 1)) := Lib.hid (bin_step b j (by omega)).symm
          go_wp2_with fail
          refine (times_num HR2.out HR3.out (by omega)).mono ?_
          rintro e w1 ⟨B1, q1, p1, rfl, hr, hb'⟩
          have HT := Lib.hid hr; have HB1 := Lib.hid (bnextN HB.out hb'); have HR1' := Lib.hid (HR1.out.next hb'); have HR2' := Lib.hid (HR2.out.next hb'); have HR3' := Lib.hid (HR3.out.next hb')
          clear hr hb' HR1 HR2 HR3
          go_wp2_with fail
          refine (plus_num HR1'.out HT.out (by omega)).mono ?_
          rintro e w2 ⟨B2, q2, p2, rfl, hr, hb'⟩
          rw [HS.out] at hr
          have HSUM := Lib.hid hr; have HB2 := Lib.hid (bnextN HB1.out hb'); have HR2 := Lib.hid (HR2'.out.next hb'); have HR3 := Lib.hid (HR3'.out.next hb')
          clear hr hb' HR1' HR2' HR3' HB1 HT
          go_wp2_with fail
          refine (next_num bI jI (b - j) j (by omega) (by omega) (by omega) (by omega) HR2.out (by omega)).mono ?_
          rintro e w3 ⟨B3, q3, p3, rfl, hr, hb'⟩
          rw [HN.out] at hr
          have HA := Lib.hid hr; have HB3 := Lib.hid (bnextN HB2.out hb'); have HSUM2 := Lib.hid (HSUM.out.next hb'); have HR3' := Lib.hid (HR3.out.next hb')
          clear hr hb' HR2 HSUM HB2 HR3
          by_cases hl : j < s
          · have hl1 : jI < sI := by omega
            obtain ⟨lI, hlI⟩ : ∃ lI : Int, lI = ((s - j : Nat) : Int) := ⟨_, rfl⟩
            obtain ⟨mI, hmI⟩ : ∃ mI : Int, mI = ((T - b - (s - j) + 1 : Nat) : Int) := ⟨_, rfl⟩
            have x1 : IntKind.u32.wrap (sI - jI) = lI := by rw [IntKind.wrap_u32]; omega
            have x2 : IntKind.u32.wrap (TI - bI - (sI - jI) + 1) = mI := by rw [IntKind.wrap_u32]; omega
            have HL := Lib.hid hlI; have HM := Lib.hid hmI
            have HD : Hid (bin (T - b) (s - j) * (s - j) / (T - b - (s - j) + 1) = bin (T - b) (s - (j + 1))) := Lib.hid (by
              rw [← bin_down (T - b) (s - j) (by omega) (by omega)]; congr 1)
            clear hlI hmI
            go_wp2_with fail
            refine (times_num (HR3'.out.next ((Below.refl _ _).alloc (Nat.le_refl _) (.cells #[.int .u32 lI] 47))) ((num_lit w3 lI (s - j) HL.out (by omega)).mono (by simp)) (by omega)).mono ?_
            rintro e w4 ⟨B4, q4, p4, rfl, hr, hb'⟩
            have hb4 : Below w3.heap.size w3 w4 := ((Below.refl _ _).alloc (Nat.le_refl _) _).trans (hb'.mono (by simp))
            have HQ := Lib.hid hr; have HB4 := Lib.hid (bnextN HB3.out hb4); have HSUM3 := Lib.hid (HSUM2.out.next hb4); have HA2 := Lib.hid (HA.out.next hb4)
            clear hr hb' hb4 HSUM2 HA HB3
            go_wp2_with fail
            refine (split_num (HQ.out.next ((Below.refl _ _).alloc (Nat.le_refl _) (.cells #[.int .u32 mI] 47))) ((num_lit w4 mI _ HM.out (by omega)).mono (by simp)) (by omega) (by omega) (by omega)).mono ?_
            rintro e w5 ⟨B5, q5, p5, B6, q6, p6, rfl, hr, hr6, hb'⟩
            have hb5 : Below w4.heap.size w4 w5 := ((Below.refl _ _).alloc (Nat.le_refl _) _).trans (hb'.mono (by simp))
            rw [HD.out] at hr
            have HC := Lib.hid hr; have HB5 := Lib.hid (bnextN HB4.out hb5); have HSUM4 := Lib.hid (HSUM3.out.next hb5); have HA3 := Lib.hid (HA2.out.next hb5)
            clear hr hr6 hb' hb5 HSUM3 HA2 HB4
            go_wp2_with fail
            go_roundw
            case rel => exact ⟨j + 1, _, _, _, _, _, _, _, _, _, _, by omega, by omega, by omega, by omega, rfl, rfl, rfl, rfl, HSUM4.out, HA3.out, HC.out, HB5.out⟩
            case measure => simp [intOf]; omega
          · have hl1 : ¬ jI < sI := by omega
            have HD : Hid (bin (T - b) (s - (j + 1)) = bin (T - b) (s - j)) := Lib.hid (by congr 1; omega)
            have hl3 : sI - jI = 0 := by omega
            clear hl hl1
            go_wp2_with fail
            go_roundw
            case rel => exact ⟨j + 1, _, _, _, _, _, _, _, _, _, _, by omega, by omega, by omega, by omega, rfl, rfl, rfl, rfl, HSUM2.out, HA.out, by rw [HD.out]; exact HR3'.out, HB3.out⟩
            case measure => simp [intOf]; omega
        · have hki : ¬ jI ≤ seI := by omega
          have HE : Hid (waysS T b s j = waysS T b s (se + 1)) := Lib.hid (by rw [← HWE.out, show j = m + 1 by omega])
          go_wp2_with fail
          go_ret
          exact ⟨_, _, _, rfl, by rw [← HE.out]; exact HR1.out, HB.out⟩
#print axioms ways_num
end Go.Proofs.Ytncjmndiafgaaaa
/- Sums of products of binomials. Conditions: none beyond those in each statement. -/
namespace Go.Proofs.Ytncjmndiafgaaaa
open Go.RowKit
set_option linter.unusedVariables false
def sumB (b c s : Nat) : Nat → Nat
  | 0 => 0
  | k + 1 => sumB b c s k + bin b k * bin c (s - k)
theorem bin_succ (b k : Nat) : bin (b + 1) (k + 1) = bin b k + bin b (k + 1) := rfl
theorem sumB_mono (b c s : Nat) {k m : Nat} (h : k ≤ m) : sumB b c s k ≤ sumB b c s m := by
  induction m with
  | zero => rw [show k = 0 by omega]; exact Nat.le_refl _
  | succ m ih =>
    rcases Nat.lt_or_ge k (m + 1) with h1 | h1
    · exact Nat.le_trans (ih (by omega)) (by rw [sumB]; omega)
    · rw [show k = m + 1 by omega]; exact Nat.le_refl _
/-- One more bad thing. -/
theorem sumB_bad (b c s : Nat) : ∀ k, k ≤ s → sumB (b + 1) c (s + 1) (k + 2) = sumB b c (s + 1) (k + 2) + sumB b c s (k + 1)
  | 0, _ => by
    simp only [sumB, bin_zero, bin_succ, Nat.zero_add, Nat.one_mul, Nat.sub_zero]
    rw [show s + 1 - 1 = s by omega, Nat.add_mul]; omega
  | k + 1, h => by
    have e1 : sumB (b + 1) c (s + 1) (k + 1 + 2) = sumB (b + 1) c (s + 1) (k + 2) + (bin b (k + 1) + bin b (k + 2)) * bin c (s + 1 - (k + 2)) := rfl
    have e2 : sumB b c (s + 1) (k + 1 + 2) = sumB b c (s + 1) (k + 2) + bin b (k + 2) * bin c (s + 1 - (k + 2)) := rfl
    have e3 : sumB b c s (k + 1 + 1) = sumB b c s (k + 1) + bin b (k + 1) * bin c (s - (k + 1)) := rfl
    have h0 := sumB_bad b c s k (by omega)
    rw [e1, e2, e3, h0, show s + 1 - (k + 2) = s - (k + 1) by omega, Nat.add_mul]; omega
theorem sumB_bad0 (b c s : Nat) : sumB (b + 1) c s 1 = sumB b c s 1 := by simp [sumB, bin_zero]
/-- One more good thing. -/
theorem sumB_good (b c s : Nat) : ∀ k, k ≤ s + 1 → sumB b (c + 1) (s + 1) k = sumB b c (s + 1) k + sumB b c s k
  | 0, _ => rfl
  | k + 1, h => by
    rw [sumB, sumB_good b c s k (by omega), sumB, sumB, show s + 1 - k = (s - k) + 1 by omega, bin_succ, Nat.mul_add]; omega
/-- All of them. -/
theorem sumB_all : ∀ (b c s : Nat), sumB b c s (s + 1) = bin (b + c) s
  | 0, c, s => by
    have h : ∀ k, sumB 0 c s (k + 1) = bin c s := fun k => by
      induction k with
      | zero => simp [sumB, bin_zero]
      | succ k ih => rw [sumB, ih, bin_over 0 (k + 1) (by omega)]; simp
    rw [h, Nat.zero_add]
  | b + 1, c, 0 => by simp [sumB, bin_zero]
  | b + 1, c, s + 1 => by
    rw [sumB_bad b c s s (Nat.le_refl _), sumB_all b c (s + 1), sumB_all b c s, show b + 1 + c = (b + c) + 1 by omega, bin_succ]; omega
theorem sumB_le (b c s k : Nat) (h : k ≤ s + 1) : sumB b c s k ≤ bin (b + c) s := by
  rw [← sumB_all]; exact sumB_mono _ _ _ h
/-- With one more bad thing there are fewer samples with few bad ones. -/
theorem sumB_down (b c s k : Nat) (h : k ≤ s) : sumB (b + 1) c s (k + 1) ≤ sumB b (c + 1) s (k + 1) := by
  cases s with
  | zero =>
    obtain rfl : k = 0 := by omega
    simp [sumB, bin_zero]
  | succ s =>
    rcases Nat.lt_or_ge k (s + 1) with h1 | h1
    · rw [sumB_good b c s (k + 1) (by omega)]
      cases k with
      | zero => rw [sumB_bad0]; simp only [Nat.zero_add]; omega
      | succ k =>
        rw [sumB_bad b c s k (by omega)]
        have := sumB_mono b c s (show k + 1 ≤ k + 1 + 1 by omega)
        show sumB b c (s + 1) (k + 2) + _ ≤ sumB b c (s + 1) (k + 2) + _
        omega
    · obtain rfl : k = s + 1 := by omega
      rw [sumB_all, sumB_all, show b + 1 + c = b + (c + 1) by omega]; exact Nat.le_refl _
end Go.Proofs.Ytncjmndiafgaaaa
/- The contract of the test that Bound makes. Conditions: as each statement says. -/
namespace Go.Proofs.Ytncjmndiafgaaaa
open Go.RowKit
set_option linter.unusedVariables false
theorem waysS_sum (T b s : Nat) : ∀ k, waysS T b s k = sumB b (T - b) s k
  | 0 => rfl
  | k + 1 => by rw [waysS, waysS_sum T b s k, sumB]
theorem ways_le_bin (T b s k : Nat) (hb : b ≤ T) (h : k ≤ s + 1) : waysS T b s k ≤ bin T s := by
  rw [waysS_sum]
  have := sumB_le b (T - b) s k h
  rwa [show b + (T - b) = T by omega] at this
theorem ways_down (T b s k : Nat) (hb : b < T) (h : k ≤ s) : waysS T (b + 1) s (k + 1) ≤ waysS T b s (k + 1) := by
  rw [waysS_sum, waysS_sum]
  have := sumB_down b (T - (b + 1)) s k h
  rwa [show T - (b + 1) + 1 = T - b by omega] at this
/-- Whether a number of bad things is not excluded. -/
def possB (T s se v u b : Nat) : Bool := decide (v * bin T s < waysS T b s (se + 1) * u)
/-- The boxes that Bound's test reads. -/
abbrev BxC (w : World) (g : Nat) (TI sI seI : Int) (f : FV) : Prop := w.cell? ⟨g, 0, none⟩ = some (.int .i64 TI) ∧ w.cell? ⟨g + 1, 0, none⟩ = some (.int .i64 sI) ∧ w.cell? ⟨g + 1 + 1, 0, none⟩ = some (.int .i64 seI) ∧ w.cell? ⟨g + 1 + 1 + 1, 0, none⟩ = some (.slice f.A f.n f.c) ∧ w.cell? ⟨g + 1 + 1 + 1, 1, none⟩ = some (.slice f.B f.m f.d)
theorem BxC.past {w w' : World} {B g : Nat} {TI sI seI : Int} {f : FV} (h : BxC w g TI sI seI f) (hb : Below B w w') (hg : g + 1 + 1 + 1 < B) : BxC w' g TI sI seI f := by
  obtain ⟨a, b, c, d, e⟩ := h
  exact ⟨(hb.cell (p := ⟨g, 0, none⟩) (by show g < B; omega)).trans a, (hb.cell (p := ⟨g + 1, 0, none⟩) (by show g + 1 < B; omega)).trans b, (hb.cell (p := ⟨g + 1 + 1, 0, none⟩) (by show g + 1 + 1 < B; omega)).trans c, (hb.cell (p := ⟨g + 1 + 1 + 1, 0, none⟩) (by show g + 1 + 1 + 1 < B; omega)).trans d, (hb.cell (p := ⟨g + 1 + 1 + 1, 1, none⟩) (by show g + 1 + 1 + 1 < B; omega)).trans e⟩
abbrev BxL (w : World) (g h : Nat) (TI sI seI : Int) (f : FV) (A : Option Addr) (n c : Nat) : Prop := BxC w g TI sI seI f ∧ w.cell? ⟨h, 0, none⟩ = some (.slice A n c)
theorem BxL.past {w w' : World} {B g h : Nat} {TI sI seI : Int} {f : FV} {A : Option Addr} {n c : Nat} (h1 : BxL w g h TI sI seI f A n c) (hb : Below B w w') (hg : g + 1 + 1 + 1 < h) (hh : h < B) : BxL w' g h TI sI seI f A n c :=
  ⟨BxC.past h1.1 hb (by omega), (hb.cell (p := ⟨h, 0, none⟩) hh).trans h1.2⟩
def PossP (T s se v u b : Nat) (w : World) (e : Ending) (w' : World) : Prop := e = .returned (.bool (possB T s se v u b)) ∧ Below w.heap.size w w'
theorem ord_poss {v u : Nat} : (0 < ordI u v) ↔ v < u := by
  unfold ordI; split
  · constructor <;> intro h <;> omega
  · split <;> constructor <;> intro h <;> omega
set_option maxRecDepth 100000 in
set_option maxHeartbeats 2000000 in
theorem possible_num (g h : Nat) (f : FV) (A : Option Addr) (n c : Nat) (w : World) (T s se b : Nat) (TI sI seI bI : Int) (hTI : TI = T) (hsI : sI = s) (hseI : seI = se) (hbI : bI = b) (hT : T ≤ 10) (hs : s ≤ T) (hse : se ≤ s) (hb : b ≤ T)
    (hC : BxL w g h TI sI seI f A n c) (hgh : g + 1 + 1 + 1 < h) (hh : h < w.heap.size) (hf : f.ok w w.heap.size) (hl : NumR w w.heap.size A n c (f.v * bin T s)) (hu : f.u ≤ 1000000) (hv : f.v ≤ 1000000) :
    Calls Try.prog 30 #[.int .i64 bI, .pointer (some ⟨g, 0, none⟩), .pointer (some ⟨g + 1, 0, none⟩), .pointer (some ⟨g + 1 + 1, 0, none⟩), .pointer (some ⟨g + 1 + 1 + 1, 0, none⟩), .pointer (some ⟨h, 0, none⟩)] w (PossP T s se f.v f.u b w) := by
  have hwb := ways_le_bin T b s (se + 1) hb (by omega)
  have hbn := bin_le T hT s
  have hprod : waysS T b s (se + 1) * f.u ≤ 252 * 1000000 := Nat.mul_le_mul (by omega) hu
  have HTI := Lib.hid hTI; have HSI := Lib.hid hsI; have HSE := Lib.hid hseI; have HBI := Lib.hid hbI
  have HF := Lib.hid hf; have HL := Lib.hid hl; have HC := Lib.hid hC
  clear hTI hsI hseI hbI hf hl hC
  have HPV : Hid (possB T s se f.v f.u b = decide (f.v * bin T s < waysS T b s (se + 1) * f.u)) := Lib.hid rfl
  go_enter Try.func30, Try.ntmps30
  go_wp2_with fail
  have c0 := HC.out
  go_region_held3 (fun w' => BxL w' g h TI sI seI f A n c) (first | exact c0 | exact c1 | exact c2 | exact c3)
    ((first
      | (go_at_call 31
         refine (ways_num T b s se TI bI sI seI HTI.out HBI.out HSI.out HSE.out hT hb hs hse).mono ?_
         rintro e w1 ⟨A1, n1, k1, rfl, hr1, hb1⟩
         have HB1 := Lib.hid ((Qw.below (⟨1, rfl⟩ : Qw w (World.drew w)) w.heap.size).trans hb1)
         have HR1 := Lib.hid hr1
         have c1 := BxL.past HC.out HB1.out hgh hh
         clear hr1 hb1)
      | (go_at_call 28
         refine (times_num HR1.out (HF.out.den.next HB1.out) (by omega)).mono ?_
         rintro e w2 ⟨A2, n2, k2, rfl, hr2, hb2⟩
         have HB2 := Lib.hid (bnextN HB1.out hb2)
         have HR2 := Lib.hid hr2
         have c2 := BxL.past HC.out HB2.out hgh hh
         clear hr2 hb2)
      | (go_at_call 18
         refine (order_num HR2.out (HL.out.next HB2.out)).mono ?_
         rintro e w3 ⟨he, hq⟩
         obtain ⟨z, hz, rfl⟩ : ∃ z, z = ordI (waysS T b s (se + 1) * f.u) (f.v * bin T s) ∧ e = .returned (.int .i64 z) := ⟨_, rfl, he⟩
         have HZ := Lib.hid hz
         have HB3 := Lib.hid (HB2.out.trans (hq.below _))
         have c3 := BxL.past HC.out HB3.out hgh hh
         clear hz hq he)))
  have HP : Hid (possB T s se f.v f.u b = decide (0 < z)) := Lib.hid (by
    rw [HPV.out, HZ.out]
    exact decide_eq_decide.2 ord_poss.symm)
  go_wp2_with fail
  go_ret
  exact ⟨by rw [HP.out]; rfl, HB3.out⟩
#print axioms possible_num
end Go.Proofs.Ytncjmndiafgaaaa
