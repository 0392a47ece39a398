/- Small numbers: slices of at most two limbs, by their values. Conditions: as each statement says. -/
import Derived.Test.YtncjmndiafgaaaaNat14
import Derived.Deep.RegionHeld3
namespace Go.Proofs.Ytncjmndiafgaaaa
open Go.RowKit
set_option linter.unusedVariables false
/-- A slice that reads as a small number, in the blocks below B. -/
structure NumR (w : World) (B : Nat) (A : Option Addr) (n c v : Nat) : Prop where
  ex : ∃ l, Limbs l ∧ valL l = v ∧ Rd w B 1 A n (limC l)
  n2 : n ≤ 2
  nc : n ≤ c
theorem NumR.below {w w' : World} {B n c v : Nat} {A : Option Addr} (h : NumR w B A n c v) (hb : Below B w w') : NumR w' B A n c v := by
  obtain ⟨l, h1, h2, h3⟩ := h.ex
  exact ⟨⟨l, h1, h2, h3.below hb⟩, h.n2, h.nc⟩
theorem NumR.mono {w : World} {B B' n c v : Nat} {A : Option Addr} (h : NumR w B A n c v) (hB : B ≤ B') : NumR w B' A n c v := by
  obtain ⟨l, h1, h2, h3⟩ := h.ex
  exact ⟨⟨l, h1, h2, h3.mono hB⟩, h.n2, h.nc⟩
theorem NumR.past {w w' : World} {B n c v : Nat} {A : Option Addr} (h : NumR w B A n c v) (hb : Below B w w') (hB : B ≤ w'.heap.size) : NumR w' w'.heap.size A n c v := (h.below hb).mono hB
theorem NumR.next {w w' : World} {n c v : Nat} {A : Option Addr} (h : NumR w w.heap.size A n c v) (hb : Below w.heap.size w w') : NumR w' w'.heap.size A n c v := h.past hb hb.size
theorem NumR.q {w w' : World} {B n c v : Nat} {A : Option Addr} (h : NumR w B A n c v) (hq : Qw w w') : NumR w' B A n c v := by
  obtain ⟨l, h1, h2, h3⟩ := h.ex
  exact ⟨⟨l, h1, h2, h3.q hq⟩, h.n2, h.nc⟩
theorem num_zero (w : World) (B : Nat) (A : Option Addr) : NumR w B A 0 0 0 := ⟨⟨[], fun x hx => by simp at hx, rfl, Rd.nil _ _ _ _⟩, by omega, by omega⟩
theorem num_lit (w : World) (x : Int) (v : Nat) (hx : x = v) (hv : v ≤ 4000000000) : NumR (w.alloc (.cells #[.int .u32 x] 47)) (w.heap.size + 1) (some ⟨w.heap.size, 0, none⟩) 1 1 v := by
  subst hx
  refine ⟨⟨[v], fun y hy => by simp at hy; omega, by simp [valL], ?_⟩, by omega, by omega⟩
  have := Rd.new w #[.int .u32 (v : Int)] 47 1 1 rfl
  simpa using this
theorem small_len {l : List Nat} {v : Nat} (hn : Nrm l) (hv : valL l = v) (h : v ≤ 4000000000) : l.length ≤ 1 := by
  rcases Nat.lt_or_ge l.length 2 with h2 | h2
  · omega
  · exfalso
    have h3 := nrm_pos hn (by omega)
    have h4 : 4294967296 ^ 1 ≤ 4294967296 ^ (l.length - 1) := Nat.pow_le_pow_right (by decide) (by omega)
    rw [hv] at h3
    generalize 4294967296 ^ (l.length - 1) = z at h3 h4
    omega
/-- A call that returns a small number. -/
def RetNum (w : World) (v : Nat) (e : Ending) (w' : World) : Prop := ∃ A n c, e = .returned (.slice A n c) ∧ NumR w' w'.heap.size A n c v ∧ Below w.heap.size w w'
def TwoNum (w : World) (v u : Nat) (e : Ending) (w' : World) : Prop := ∃ A n c A' n' c', e = .returned (.tuple #[.slice A n c, .slice A' n' c']) ∧ NumR w' w'.heap.size A n c v ∧ NumR w' w'.heap.size A' n' c' u ∧ Below w.heap.size w w'
theorem RetNum.of {w w' : World} {l : List Nat} {e : Ending} (hl : Limbs l) (hlen : l.length ≤ 2) (h : RetLim w l e w') : RetNum w (valL l) e w' := by
  obtain ⟨A, n, c, rfl, hn, hc, hown, hb⟩ := h
  exact ⟨A, n, c, rfl, ⟨⟨l, hl, rfl, Rd.own hown⟩, by omega, hc⟩, hb⟩
theorem RetVal.num {w w' : World} {v : Nat} {e : Ending} (h : RetVal w v e w') (hv : v ≤ 4000000000) : RetNum w v e w' := by
  obtain ⟨l, hl, hn, rfl, hr⟩ := h
  have := small_len hn rfl hv
  exact RetNum.of hl (by omega) hr
theorem natOwn_num {w w' : World} {A : Option Addr} {n c v : Nat} (h : NatOwn w w' A n c v) (hv : v ≤ 4000000000) : NumR w' w'.heap.size A n c v := by
  obtain ⟨l, hl, hn, h1, h2, h3⟩ := h.ex
  have := small_len hn h1 hv
  exact ⟨⟨l, hl, h1, Rd.own h3⟩, by omega, h.nc⟩
theorem plus_num {A A' : Option Addr} {n c n' c' v u : Nat} {w : World} (h : NumR w w.heap.size A n c v) (h' : NumR w w.heap.size A' n' c' u) (hv : v + u ≤ 4000000000) :
    Calls Try.prog 44 #[.slice A n c, .slice A' n' c'] w (RetNum w (v + u)) := by
  obtain ⟨l, h1, h2, h3⟩ := h.ex; obtain ⟨l', h1', h2', h3'⟩ := h'.ex
  have g := h.n2; have g' := h'.n2
  subst h2; subst h2'
  exact (plus_any A A' n c n' c' l l' w (by omega) (by omega) h1 h1' h3 h3').mono fun _ _ hr => hr.num hv
theorem times_num {A A' : Option Addr} {n c n' c' v u : Nat} {w : World} (h : NumR w w.heap.size A n c v) (h' : NumR w w.heap.size A' n' c' u) (hv : v * u ≤ 4000000000) :
    Calls Try.prog 28 #[.slice A n c, .slice A' n' c'] w (RetNum w (v * u)) := by
  obtain ⟨l, h1, h2, h3⟩ := h.ex; obtain ⟨l', h1', h2', h3'⟩ := h'.ex
  have g := h.n2; have g' := h'.n2
  subst h2; subst h2'
  exact (times_any A A' n c n' c' l l' w (by omega) (by omega) h1 h1' h3 h3').mono fun _ _ hr => hr.num hv
theorem order_num {A A' : Option Addr} {n c n' c' v u : Nat} {w : World} (h : NumR w w.heap.size A n c v) (h' : NumR w w.heap.size A' n' c' u) :
    Calls Try.prog 18 #[.slice A n c, .slice A' n' c'] w fun e w' => e = .returned (.int .i64 (ordI v u)) ∧ Qw w w' := by
  obtain ⟨l, h1, h2, h3⟩ := h.ex; obtain ⟨l', h1', h2', h3'⟩ := h'.ex
  have g := h.n2; have g' := h'.n2
  subst h2; subst h2'
  exact order_any A A' n c n' c' l l' w (by omega) (by omega) h.nc h'.nc h1 h1' h3 h3'
theorem clone_num {A : Option Addr} {n c v : Nat} {w : World} (h : NumR w w.heap.size A n c v) : Calls Try.prog 14 #[.slice A n c] w (RetNum w v) := by
  obtain ⟨l, h1, h2, h3⟩ := h.ex
  have g := h.n2
  subst h2
  refine (clone_any A n c l w (by omega) h.nc h3).mono fun _ _ hr => ?_
  have hl : l.length = n := by have := h3.1; simpa using this
  have := RetNum.of (trimL_limbs h1) (by have := trimN_le l l.length; rw [trimL_len]; omega) hr
  rwa [trimL_val] at this
theorem Of_num (v : Nat) (w : World) (hv : v ≤ 4000000000) : Calls Try.prog 5 #[.int .u64 v] w (RetNum w v) := by
  refine (Of_any v w (by omega)).mono fun _ _ hr => ?_
  have h0 : ofL v = trimL [v % 4294967296, v / 4294967296 % 4294967296] := rfl
  have := RetNum.of (ofL_limbs v) (by rw [h0, trimL_len]; exact trimN_le _ _) hr
  rwa [ofL_val (by omega)] at this
theorem split_num {A A' : Option Addr} {n c n' c' v u : Nat} {w : World} (h : NumR w w.heap.size A n c v) (h' : NumR w w.heap.size A' n' c' u) (hu : 0 < u) (hv : v ≤ 4000000000) (hv' : u ≤ 4000000000) :
    Calls Try.prog 45 #[.slice A n c, .slice A' n' c'] w (TwoNum w (v / u) (v % u)) := by
  obtain ⟨l, h1, h2, h3⟩ := h.ex; obtain ⟨l', h1', h2', h3'⟩ := h'.ex
  have g := h.n2; have g' := h'.n2
  subst h2; subst h2'
  refine (split_any A A' n c n' c' l l' w (by omega) (by omega) h.nc h'.nc h1 h1' hu h3 h3').mono ?_
  rintro e w' ⟨A1, n1, c1, A2, n2, c2, rfl, k1, k2, hb⟩
  have e1 : valL l / valL l' ≤ valL l := Nat.div_le_self _ _
  have e2 := Nat.mod_lt (valL l) hu
  exact ⟨A1, n1, c1, A2, n2, c2, rfl, natOwn_num k1 (by omega), natOwn_num k2 (by omega), hb⟩
theorem size_pos {A : Option Addr} {n c v : Nat} {w : World} (h : NumR w w.heap.size A n c v) (hv : 0 < v) : Calls Try.prog 33 #[.slice A n c] w fun e w' => (∃ z : Int, 0 < z ∧ e = .returned (.int .i64 z)) ∧ w = w' := by
  obtain ⟨l, h1, h2, h3⟩ := h.ex
  have g := h.n2
  subst h2
  refine (size_of A n c l w (by omega) h.nc h1 h3).mono ?_
  rintro e w' ⟨⟨sz, hs, hl, rfl⟩, rfl⟩
  refine ⟨⟨sz, ?_, rfl⟩, rfl⟩
  have := hs.1
  rcases Nat.eq_zero_or_pos sz with h0 | h0
  · subst h0; simp at this; omega
  · omega
#print axioms split_num
end Go.Proofs.Ytncjmndiafgaaaa
