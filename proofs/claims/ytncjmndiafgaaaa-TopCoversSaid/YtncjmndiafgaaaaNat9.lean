/- The contract of double. Conditions: as each statement says. -/
import Derived.Test.YtncjmndiafgaaaaNat8
namespace Go.Proofs.Ytncjmndiafgaaaa
open Go.RowKit
set_option linter.unusedVariables false
/-- Limbs shifted by one, up to a place. -/
theorem dbl_step {l o : List Nat} {k cr low : Nat} (hk : k < l.length) (hol : o.length = k) (h : valL o + 4294967296 ^ k * cr = 2 * valL (l.take k) + low) :
    valL (o ++ [2 * l.getD k 0 % 4294967296 + cr]) + 4294967296 ^ (k + 1) * (l.getD k 0 / 2147483648) = 2 * valL (l.take (k + 1)) + low := by
  rw [valL_snoc, hol, val_take, Nat.pow_succ]
  have e : 4294967296 ^ k * (2 * l.getD k 0 % 4294967296 + cr) + 4294967296 ^ k * 4294967296 * (l.getD k 0 / 2147483648) = 4294967296 ^ k * (2 * l.getD k 0 + cr) := by
    rw [Nat.mul_assoc, ← Nat.mul_add]
    congr 1
    omega
  have e2 : 4294967296 ^ k * (2 * l.getD k 0 + cr) = 2 * (4294967296 ^ k * l.getD k 0) + 4294967296 ^ k * cr := by
    rw [Nat.mul_add, Nat.mul_left_comm]
  omega
theorem or_low (m low : Nat) (h : low < 2) : 2 * m ||| low = 2 * m + low := by
  have := Nat.two_pow_add_eq_or_of_lt (i := 1) (b := low) (by simpa using h) m
  rw [Nat.pow_one] at this
  exact this.symm
/-- What double does to a row. -/
def DblP (g n c base : Nat) (v : Nat) (w : World) (e : Ending) (w' : World) : Prop := e = .returned (.tuple #[]) ∧ (∃ l, Limbs l ∧ l.length = n ∧ valL l = v ∧ w'.ownsRow base 47 1 (.slice (some ⟨g, 0, none⟩) n c) n (limC l)) ∧ w.grownBy w' (some g)
set_option maxRecDepth 100000 in
set_option maxHeartbeats 4000000 in
theorem double_any (g n c base low : Nat) (lI : Int) (l : List Nat) (w : World) (hn : n ≤ 90000) (hlI : lI = low) (hlow : low ≤ 1) (hl : Limbs l) (hfit : 2 * valL l + low < 4294967296 ^ n) (h : w.ownsRow base 47 1 (.slice (some ⟨g, 0, none⟩) n c) n (limC l)) :
    Calls Try.prog 61 #[.slice (some ⟨g, 0, none⟩) n c, .int .u32 lI] w (DblP g n c base (2 * valL l + low) w) := by
  have hll : l.length = n := by have := h.1; simpa using this
  have H := Lib.hid h; have HLL := Lib.hid hll; have HL := Lib.hid hl; have HF := Lib.hid hfit
  have HLI := Lib.hid hlI
  clear h hll hl hfit
  go_enter Try.func61, Try.ntmps61
  go_wp2_with fail
  go_loopw [1, 8] (fun lv i wr => ∃ (k cr : Nat) (o : List Nat) (cI : Int), k ≤ n ∧ i = .int .i64 k ∧ lv = .int .u32 cI ∧ cI = cr ∧ cr ≤ 1 ∧ o.length = k ∧ Limbs o ∧ valL o + 4294967296 ^ k * cr = 2 * valL (l.take k) + low ∧ wr.ownsRow base 47 1 (.slice (some ⟨g, 0, none⟩) n c) n (limC (o ++ l.drop k)) ∧ w.grownBy wr (some g)) (fun _ i _ => n - (intOf i).toNat)
  case atStart => exact ⟨0, low, [], lI, Nat.zero_le _, rfl, rfl, HLI.out, hlow, rfl, fun x hx => by simp at hx, by simp [valL], by simpa using H.out, World.grownBy.refl _ _⟩
  case round =>
    obtain ⟨k, cr, o, cI, hk, rfl, rfl, hcI, hcr, hol, hlo, hval, hown, hg⟩ := hrel
    obtain ⟨wa, rfl⟩ : ∃ z : World, z = wr := ⟨_, rfl⟩
    have HO := Lib.hid hown; have HG := Lib.hid hg; have HLO := Lib.hid hlo; have HV := Lib.hid hval; have HOL := Lib.hid hol
    clear hown hg hlo hval
    by_cases hlt : k < n
    · have hki : (k : Int) < (n : Int) := by omega
      have hkl : k < l.length := by rw [HLL.out]; exact hlt
      have hx := HL.out.getD k
      have hdr := List.drop_eq_getElem_cons hkl
      have hgd : l.getD k 0 = l[k] := by rw [List.getD_eq_getElem?_getD, List.getElem?_eq_getElem hkl]; rfl
      have r1 : wa.cell? ⟨g, k, none⟩ = some (.int .u32 (l.getD k 0 : Nat)) := by
        rw [HO.out.cellAt k (by omega), List.getElem?_map, List.getElem?_append_right (by omega), hol, Nat.sub_self, hdr, hgd]; rfl
      have f1 := HO.out.frozenAt k
      have HST := Lib.hid (dbl_step hkl HOL.out HV.out)
      have hset : (o ++ l.drop k).set k (2 * l.getD k 0 % 4294967296 + cr) = (o ++ [2 * l.getD k 0 % 4294967296 + cr]) ++ l.drop (k + 1) := by
        rw [List.set_append_right _ _ (by omega), hol, Nat.sub_self, hdr, List.set_cons_zero, List.append_assoc]; rfl
      generalize l.getD k 0 = x at r1 hx HST hset
      obtain ⟨xI, hxI⟩ : ∃ xI : Int, xI = (x : Int) := ⟨_, rfl⟩
      rw [← hxI] at r1
      have hx0 : 0 ≤ xI := by omega
      have hx1 : xI ≤ 4294967295 := by omega
      obtain ⟨y, hy⟩ : ∃ y, y = 2 * x % 4294967296 := ⟨_, rfl⟩
      obtain ⟨yI, hyI⟩ : ∃ yI : Int, yI = (y : Int) := ⟨_, rfl⟩
      have hsh : IntKind.u32.wrap (xI * 2) = yI := by rw [IntKind.wrap_u32, hyI, hy, hxI]; omega
      have hyl : y < 4294967296 := by omega
      obtain ⟨m, hm⟩ : ∃ m, y = 2 * m := ⟨y / 2, by omega⟩
      obtain ⟨zI, hzI⟩ : ∃ zI : Int, zI = ((2 * x % 4294967296 + cr : Nat) : Int) := ⟨_, rfl⟩
      have hor : bits BinOp.or IntKind.u32 yI cI = zI := by
        rw [hyI, hcI, u32_or_n y cr hyl (by omega), hm, or_low m cr (by omega), hzI, ← hy, hm]
      have HNX : Hid (xI / 2147483648 = ((x / 2147483648 : Nat) : Int)) := Lib.hid (by rw [hxI]; omega)
      have HN1 : Hid (x / 2147483648 ≤ 1) := Lib.hid (by omega)
      have hst := (HO.out.stored k (.int .u32 zI)).1
      have e1 : (limC (o ++ l.drop k)).set k (.int .u32 zI) = limC ((o ++ [2 * x % 4294967296 + cr]) ++ l.drop (k + 1)) := by
        rw [hzI, ← hset]; unfold limC; rw [List.map_set]
      rw [e1] at hst
      have HSR := Lib.hid hst
      have HL2 : Hid ((o ++ [2 * x % 4294967296 + cr]).length = k + 1) := Lib.hid (by simp [hol])
      have HLB : Hid (Limbs (o ++ [2 * x % 4294967296 + cr])) := Lib.hid (HLO.out.snoc (by omega))
      have HG2 : Hid (w.grownBy (wa.setCell ⟨g, k, none⟩ (.int .u32 zI)) (some g)) := Lib.hid (grown_set HG.out k _)
      clear hst e1 hset hdr hgd hkl hx hxI hy hyI hyl hm hzI hcI hcr hol
      go_wp2_with fail
      go_roundw
      case rel => exact ⟨k + 1, _, _, _, hlt, by go_num, rfl, HNX.out, HN1.out, HL2.out, HLB.out, HST.out, HSR.out, HG2.out⟩
      case measure => simp [intOf]; omega
    · have hki : ¬ (k : Int) < (n : Int) := by omega
      obtain rfl : k = n := by omega
      have HVV : Hid (valL o = 2 * valL l + low) := Lib.hid (by
        have h1 := HV.out
        rw [show l.take k = l from List.take_of_length_le (by have := HLL.out; omega)] at h1
        have h2 := HF.out
        rcases Nat.eq_zero_or_pos cr with h | h
        · subst h; omega
        · obtain rfl : cr = 1 := by omega
          omega)
      have HOF : Hid (wa.ownsRow base 47 1 (.slice (some ⟨g, 0, none⟩) k c) k (limC o)) := Lib.hid (by
        have := HO.out
        rwa [List.drop_of_length_le (by have := HLL.out; omega), List.append_nil] at this)
      clear hcI hcr hol
      go_wp2_with fail
      go_end0
      exact ⟨rfl, ⟨o, HLO.out, HOL.out, HVV.out, HOF.out⟩, HG.out⟩
#print axioms double_any
end Go.Proofs.Ytncjmndiafgaaaa
