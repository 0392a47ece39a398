/- The contract of common at 3 and 6. Conditions: as the statement says. -/
import Derived.Test.YtncjmndiafgaaaaNat23
namespace Go.Proofs.Ytncjmndiafgaaaa
open Go.RowKit
set_option linter.unusedVariables false
theorem bit_odd {A : Option Addr} {n c v : Nat} {w : World} (h : NumR w w.heap.size A n c v) (hv : v % 2 = 1) : Calls Try.prog 62 #[.slice A n c, .int .i64 0] w fun e w' => e = .returned (.int .u32 1) ∧ w = w' := by
  have := bit_num h (by omega)
  rw [hv] at this; exact this
theorem bit_even {A : Option Addr} {n c v : Nat} {w : World} (h : NumR w w.heap.size A n c v) (h0 : 0 < v) (hv : v % 2 = 0) : Calls Try.prog 62 #[.slice A n c, .int .i64 0] w fun e w' => e = .returned (.int .u32 0) ∧ w = w' := by
  have := bit_num h h0
  rw [hv] at this; exact this
/-- Where the search for the common divisor of 3 and 6 stands. -/
def ComS (w w0 : World) (a b : Value) : Prop :=
  (∃ g n c g' n' c', a = .slice (some ⟨g, 0, none⟩) n c ∧ b = .slice (some ⟨g', 0, none⟩) n' c' ∧ OwnN w w0.heap.size g n c 3 ∧ OwnN w w0.heap.size g' n' c' 6 ∧ g ≠ g') ∨
  (∃ A c g' n' c', a = .slice A 0 c ∧ b = .slice (some ⟨g', 0, none⟩) n' c' ∧ OwnN w w0.heap.size g' n' c' 3)
theorem OwnN.cell0 {w : World} {base g n c v : Nat} (h : OwnN w base g n c v) (h0 : 0 < v) (h1 : v ≤ 4000000000) : w.cell? ⟨g, 0, none⟩ = some (.int .u32 v) := by
  have hp := h.num.len_pos h0
  obtain ⟨l, l1, l2, l3⟩ := h.ex
  have := l3.cellAt 0 (by omega)
  rw [this]
  cases l with
  | nil => simp [valL] at l2; omega
  | cons x l =>
    rw [valL] at l2
    have e : x = v := by omega
    subst e; rfl
def cellV : Option Value → Nat
  | some (.int _ x) => x.toNat
  | _ => 0
def lenV : Value → Nat
  | .slice _ n _ => n
  | _ => 0
set_option maxRecDepth 100000 in
set_option maxHeartbeats 2000000 in
theorem common_36 {A A' : Option Addr} {n c n' c' : Nat} {w : World} (h : NumR w w.heap.size A n c 3) (h' : NumR w w.heap.size A' n' c' 6) :
    Calls Try.prog 47 #[.slice A n c, .slice A' n' c'] w (RetNum w 3) := by
  have H := Lib.hid h; have H' := Lib.hid h'
  clear h h'
  go_enter Try.func47, Try.ntmps47
  go_wp2_with fail
  refine (clone_own H.out (by omega) (by omega)).mono ?_
  rintro e w1 ⟨g1, n1, c1, rfl, ho1, hb1⟩
  have HO1 := Lib.hid ho1; have HB1 := Lib.hid hb1; have H2 := Lib.hid (H'.out.next hb1)
  clear ho1 hb1
  go_wp2_with fail
  refine (clone_own H2.out (by omega) (by omega)).mono ?_
  rintro e w2 ⟨g2, n2, c2, rfl, ho2, hb2⟩
  have hne : g1 ≠ g2 := by have a := HO1.out.lt; have b := ho2.base; omega
  have HO2 := Lib.hid (ho2.mono HB1.out.size); have HB2 := Lib.hid (bnextN HB1.out hb2); have HO1' := Lib.hid (HO1.out.next hb2)
  clear ho2 hb2 HO1 H2 HB1
  have p1 := HO1'.out.num.len_pos (by omega)
  have p2 := HO2.out.num.len_pos (by omega)
  have q1 : ¬ (n1 : Int) = 0 := by omega
  have q2 : ¬ (n2 : Int) = 0 := by omega
  have q3 : ((n1 : Int) == 0) = false := by simp; omega
  have q4 : ((n2 : Int) == 0) = false := by simp; omega
  go_wp2_with fail
  go_loop [0, 1, 5] (fun a b t => a = .slice (some ⟨g1, 0, none⟩) n1 c1 ∧ b = .slice (some ⟨g2, 0, none⟩) n2 c2 ∧ t = .int .i64 0) (fun _ _ _ => 0)
  case atStart => exact ⟨rfl, rfl, rfl⟩
  case round =>
    obtain ⟨rfl, rfl, rfl⟩ := hrel
    go_wp2_with fail
    refine (bit_odd HO1'.out.num (by omega)).mono ?_
    rintro e w3 ⟨rfl, rfl⟩
    go_wp2_with fail
    go_loopw [0, 1] (fun a b wr => ComS wr w a b ∧ Below w.heap.size w wr) (fun a _ _ => lenV a)
    case atStart => exact ⟨.inl ⟨_, _, _, _, _, _, rfl, rfl, HO1'.out, HO2.out, hne⟩, HB2.out⟩
    case round =>
      clear p1 p2 q1 q2 q3 q4 hne HO1' HO2 HB2
      obtain ⟨hc, hbw⟩ := hrel
      obtain ⟨wa, rfl⟩ : ∃ z : World, z = wr := ⟨_, rfl⟩
      rcases hc with ⟨ga, na, ca, gb, nb, cb, rfl, rfl, hoa, hob, hne⟩ | ⟨Aa, ca, gb, nb, cb, rfl, rfl, hob⟩
      · have HA := Lib.hid hoa; have HB := Lib.hid hob; have HBW := Lib.hid hbw
        have p1 := hoa.num.len_pos (by omega)
        have hge := hob.n2
        clear hoa hob hbw
        have q1 : (0 : Int) < (na : Int) := by omega
        go_wp2_with fail
        go_loop [0] (fun a => a = .slice (some ⟨ga, 0, none⟩) na ca) (fun _ => 0)
        case atStart => rfl
        case round =>
          obtain rfl := hrel
          go_wp2_with fail
          refine (bit_odd HA.out.num (by omega)).mono ?_
          rintro e w3 ⟨rfl, rfl⟩
          go_wp2_with fail
          go_loopw [1] (fun b wr => ∃ nb cb v, (v = 6 ∨ v = 3) ∧ b = .slice (some ⟨gb, 0, none⟩) nb cb ∧ OwnN wr w.heap.size gb nb cb v ∧ OwnN wr w.heap.size ga na ca 3 ∧ Below w.heap.size w wr) (fun _ wr => cellV (wr.cell? ⟨gb, 0, none⟩))
          case atStart => exact ⟨nb, cb, 6, .inl rfl, rfl, HB.out, HA.out, HBW.out⟩
          case round =>
            clear hge
            obtain ⟨nb, cb, v, hv, rfl, hob, hoa, hbw⟩ := hrel
            obtain ⟨wb, rfl⟩ : ∃ z : World, z = wr := ⟨_, rfl⟩
            have HA2 := Lib.hid hoa; have HB2 := Lib.hid hob; have HBW2 := Lib.hid hbw
            clear hoa hob hbw HA HB HBW
            rcases hv with rfl | rfl
            · go_wp2_with fail
              refine (bit_even HB2.out.num (by omega) (by omega)).mono ?_
              rintro e w3 ⟨rfl, rfl⟩
              go_wp2_with fail
              refine (half_own HB2.out).mono ?_
              rintro e w3 ⟨m, rfl, ho, hg⟩
              have HO3 := Lib.hid ho; have HA3 := Lib.hid (HA2.out.grown hg hne); have HG3 := Lib.hid hg
              have HBW3 := Lib.hid ((HBW2.out).grown hg HBW2.out.size (fun k hk => by cases hk; exact HB2.out.base))
              clear ho hg
              go_wp2_with fail
              go_roundw
              case rel => exact ⟨m, cb, 3, .inr rfl, rfl, HO3.out, HA3.out, HBW3.out⟩
              case measure => rw [HO3.out.cell0 (by omega) (by omega), HB2.out.cell0 (by omega) (by omega)]; simp [cellV]
            · go_wp2_with fail
              refine (bit_odd HB2.out.num (by omega)).mono ?_
              rintro e w3 ⟨rfl, rfl⟩
              go_wp2_with fail
              refine (order_num HA2.out.num HB2.out.num).mono ?_
              rintro e w3 ⟨he, hq⟩
              rw [ordI_same] at he
              obtain rfl := he
              have HA3 := Lib.hid (HA2.out.num.q hq); have HB3 := Lib.hid (HB2.out.next (hq.below _)); have HBW3 := Lib.hid (HBW2.out.trans (hq.below _))
              have HH : Hid (w3.heap.size = wb.heap.size) := Lib.hid (by rw [hq.heap])
              clear hq
              go_wp2_with fail
              have HA4 := HA3.out
              rw [← HH.out] at HA4
              have hle : nb ≤ na := by
                have a := HA2.out.num.len_pos (by omega); have b := HB2.out.n2
                omega
              refine (minus_zero HA4 HB3.out.num hle).mono ?_
              rintro e w4 ⟨A4, c4, rfl, hb4⟩
              have HBW4 := Lib.hid (bnextN HBW3.out hb4); have HB4 := Lib.hid (HB3.out.next hb4)
              clear hb4 hle HA4
              go_wp2_with fail
              go_roundw
              case rel => exact ⟨.inr ⟨A4, c4, gb, nb, cb, rfl, rfl, HB4.out⟩, HBW4.out⟩
              case measure => simp [lenV]; omega
      · have HB := Lib.hid hob; have HBW := Lib.hid hbw
        clear hob hbw
        have hp := HB.out.num.len_pos (by omega)
        have hn2 := HB.out.n2
        obtain rfl : nb = 1 := by omega
        clear hp hn2
        have HCL : Hid (wa.cell? ⟨gb, 0, none⟩ = some (.int .u32 3)) := Lib.hid (HB.out.cell0 (by omega) (by omega))
        have hmk : ∀ w, (Instr.makeSlice 25 (.int .i64 2) (.int .i64 2)).run Try.prog w = .ok (.slice (some ⟨w.heap.size, 0, none⟩) 2 2) (w.alloc (.cells (Array.replicate 2 (.int .u32 0)) 47)) := fun w => make_nat w 2 (by omega)
        have hgl := HB.out.lt
        have H2 := Lib.hid (show (wa.alloc (.cells (Array.replicate 2 (.int .u32 0)) 47)).cell? ⟨gb, 0, none⟩ = some (.int .u32 3) from (World.cell?_alloc_lt wa _ _ hgl).trans HCL.out)
        have HP : Hid (0 < ([.int .u32 3] : List Value).length → ∃ ad, (some ⟨gb, 0, none⟩ : Option Addr) = some ad ∧ ∀ j v, ([.int .u32 3] : List Value)[j]? = some v → (wa.alloc (.cells (Array.replicate 2 (.int .u32 0)) 47)).cell? (ad.add j) = some v) := Lib.hid (fun _ => ⟨_, rfl, fun j v hj => by
          cases j with
          | zero => rw [addr_zero, H2.out]; exact hj
          | succ j => cases hj⟩)
        have HW : Hid (Below wa.heap.size wa (wa.alloc (.cells (Array.replicate 2 (.int .u32 0)) 47))) := Lib.hid ((Below.refl _ _).alloc (Nat.le_refl _) _)
        clear hgl
        have HG0 : Hid ((wa.alloc (.cells (Array.replicate 2 (.int .u32 0)) 47)).heap[wa.heap.size]? = some (.cells (List.replicate 2 (.int .u32 0)).toArray 47 (0, 0))) := Lib.hid (heap_alloc_new wa (.cells (Array.replicate 2 (.int .u32 0)) 47))
        have HLN : Hid (([.int .u32 3] : List Value).length = Nat.min 1 2) := Lib.hid (by decide)
        have HFT : Hid (0 + ([.int .u32 3] : List Value).length ≤ (List.replicate 2 (Value.int .u32 0)).length) := Lib.hid (by simp)
        have HON : Hid (∀ v ∈ ([.int .u32 3] : List Value), v.oneCell' = true) := Lib.hid (by intro v hv; simp at hv; subst hv; rfl)
        go_wp2_with (with_reducible refine wpList_copy_splice rfl _ _ _ _ rfl 47 (by kernel_rfl) (by kernel_rfl) _ _ _ _ _ _ rfl rfl wa.heap.size 0 (List.replicate 2 (.int .u32 0)) 47 HG0.out [.int .u32 3] HLN.out (fun h0 => ⟨rfl, HP.out h0⟩) HFT.out HON.out wa.heap.size wa HW.out (Nat.le_refl _) ?_; intro w8 HG hb8)
        have hgg : w8.heap[wa.heap.size]? = some (.cells ([.int .u32 3, .int .u32 0] : List Value).toArray 47 (0, 0)) := HG.out
        have HOW := Lib.hid (own_lim (base := w.heap.size) (n := 2) hgg rfl (by omega) HBW.out.size)
        have HB8 := Lib.hid (HBW.out.trans (hb8.mono HBW.out.size))
        clear hgg hb8 HG HG0 HP HW H2 HCL
        go_wp2_with fail
        go_loop [66] (fun i => i = .int .i64 0) (fun _ => 0)
        case atStart => rfl
        case round =>
          obtain rfl := hrel
          go_wp2_with fail
          refine (trim_any (some ⟨wa.heap.size, 0, none⟩) 2 2 w8.heap.size [3, 0] _ (by omega) (Nat.le_refl _) (Rd.own HOW.out)).mono ?_
          rintro e w5 ⟨he, rfl⟩
          obtain rfl : e = .returned (.slice (some ⟨wa.heap.size, 0, none⟩) 1 2) := he
          go_wp2_with fail
          go_ret
          exact ⟨_, 1, 2, rfl, ⟨⟨[3], fun x hx => by (simp at hx; subst hx; decide), rfl, Rd.own (own_pre (show w8.ownsRow _ _ 1 (.slice _ 2 2) 2 (limC [3, 0]) from HOW.out) (m := 1) (by omega))⟩, by omega, by omega⟩, HB8.out⟩
#print axioms common_36
end Go.Proofs.Ytncjmndiafgaaaa
