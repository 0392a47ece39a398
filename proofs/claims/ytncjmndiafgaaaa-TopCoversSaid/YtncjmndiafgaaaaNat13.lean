/- The contract of half. Conditions: as each statement says. -/
import Derived.Test.YtncjmndiafgaaaaNat12
namespace Go.Proofs.Ytncjmndiafgaaaa
open Go.RowKit
set_option linter.unusedVariables false
/-- What half does to a row. -/
def HalfP (g n c base : Nat) (l : List Nat) (w : World) (e : Ending) (w' : World) : Prop := ∃ m, e = .returned (.slice (some ⟨g, 0, none⟩) m c) ∧ m ≤ n ∧ m = trimN (halfL l) n ∧ w'.ownsRow base 47 1 (.slice (some ⟨g, 0, none⟩) n c) n (limC (halfL l)) ∧ w.grownBy w' (some g)
set_option maxRecDepth 100000 in
set_option maxHeartbeats 4000000 in
theorem half_any (g n c base : Nat) (l : List Nat) (w : World) (hn : n ≤ 90000) (hc : n ≤ c) (hl : Limbs l) (h : w.ownsRow base 47 1 (.slice (some ⟨g, 0, none⟩) n c) n (limC l)) :
    Calls Try.prog 64 #[.slice (some ⟨g, 0, none⟩) n c] w (HalfP g n c base l w) := by
  have hll : l.length = n := by have := h.1; simpa using this
  have H := Lib.hid h; have HLL := Lib.hid hll; have HL := Lib.hid hl
  clear h hll hl
  go_enter Try.func64, Try.ntmps64
  go_wp2_with fail
  go_loopw [6] (fun i wr => ∃ k : Nat, k ≤ n ∧ i = .int .i64 k ∧ wr.ownsRow base 47 1 (.slice (some ⟨g, 0, none⟩) n c) n (limC ((halfL l).take k ++ l.drop k)) ∧ w.grownBy wr (some g)) (fun i _ => n - (intOf i).toNat)
  case atStart => exact ⟨0, Nat.zero_le _, rfl, by simpa using H.out, World.grownBy.refl _ _⟩
  case round =>
    obtain ⟨k, hk, rfl, hown, hg⟩ := hrel
    obtain ⟨wa, rfl⟩ : ∃ z : World, z = wr := ⟨_, rfl⟩
    have HO := Lib.hid hown; have HG := Lib.hid hg
    clear hown hg
    by_cases hlt : k < n
    · have hki : (k : Int) < (n : Int) := by omega
      have hkl : k < l.length := by rw [HLL.out]; exact hlt
      have hkh : k < (halfL l).length := by rw [halfL_len]; exact hkl
      have htl : ((halfL l).take k).length = k := by rw [List.length_take]; omega
      have hdr := List.drop_eq_getElem_cons hkl
      have hx := HL.out.getD k
      have hgd : l.getD k 0 = l[k] := by rw [List.getD_eq_getElem?_getD, List.getElem?_eq_getElem hkl]; rfl
      have hgh := halfL_getD l k
      have hgk : (halfL l).getD k 0 = (halfL l)[k] := by rw [List.getD_eq_getElem?_getD, List.getElem?_eq_getElem hkh]; rfl
      have r1 : wa.cell? ⟨g, k, none⟩ = some (.int .u32 (l.getD k 0 : Nat)) := by
        rw [HO.out.cellAt k (by omega), List.getElem?_map, List.getElem?_append_right (by omega), htl, Nat.sub_self, hdr, hgd]; rfl
      have f1 := HO.out.frozenAt k
      have hset : ∀ z, ((halfL l).take k ++ l.drop k).set k z = ((halfL l).take k ++ [z]) ++ l.drop (k + 1) := fun z => by
        rw [List.set_append_right _ _ (by omega), htl, Nat.sub_self, hdr, List.set_cons_zero, List.append_assoc]; rfl
      have htk : (halfL l).take k ++ [(halfL l).getD k 0] = (halfL l).take (k + 1) := by rw [hgk, List.take_append_getElem]
      have hst := (HO.out.stored k (.int .u32 ((l.getD k 0 / 2 : Nat) : Int))).1
      have e1 : ∀ z : Nat, (limC ((halfL l).take k ++ l.drop k)).set k (.int .u32 (z : Int)) = limC (((halfL l).take k ++ [z]) ++ l.drop (k + 1)) := fun z => by
        rw [← hset]; unfold limC; rw [List.map_set]
      rw [e1] at hst
      have hz : l.getD k 0 / 2 < 2147483648 := by omega
      have hgr : wa.grownBy (wa.setCell ⟨g, k, none⟩ (.int .u32 ((l.getD k 0 / 2 : Nat) : Int))) (some g) := grown_set (World.grownBy.refl _ _) _ _
      have hG1 := grown_set HG.out k (.int .u32 ((l.getD k 0 / 2 : Nat) : Int))
      have htl2 : ((halfL l).take k ++ [l.getD k 0 / 2]).length = k + 1 := by simp [htl]
      have r3 := hst.cellAt k (by omega)
      have f3 := hst.frozenAt k
      rw [List.getElem?_map, List.append_assoc, List.getElem?_append_right (by omega), htl, Nat.sub_self] at r3
      simp only [List.cons_append, List.getElem?_cons_zero, Option.map_some] at r3
      by_cases h1 : k + 1 < n
      · have h1i : (k : Int) + 1 < (n : Int) := by omega
        have hk1 : k + 1 < l.length := by rw [HLL.out]; exact h1
        have hy := HL.out.getD (k + 1)
        have r4 := hst.cellAt (k + 1) (by omega)
        rw [List.getElem?_map, List.getElem?_append_right (by omega), htl2, Nat.sub_self, List.drop_eq_getElem_cons hk1] at r4
        simp only [List.getElem?_cons_zero, Option.map_some] at r4
        rw [show l[k + 1] = l.getD (k + 1) 0 by rw [List.getD_eq_getElem?_getD, List.getElem?_eq_getElem hk1]; rfl] at r4
        have hs2 := (hst.stored k (.int .u32 (((halfL l).getD k 0 : Nat) : Int))).1
        have e2 : (limC (((halfL l).take k ++ [l.getD k 0 / 2]) ++ l.drop (k + 1))).set k (.int .u32 (((halfL l).getD k 0 : Nat) : Int)) = limC ((halfL l).take (k + 1) ++ l.drop (k + 1)) := by
          rw [← htk]; unfold limC
          rw [← List.map_set (f := fun x : Nat => Value.int .u32 (x : Int)), List.append_assoc, List.set_append_right _ _ (by omega), htl, Nat.sub_self, List.cons_append, List.set_cons_zero, List.append_assoc]; rfl
        rw [e2] at hs2
        have hG2 := grown_set hG1 k (.int .u32 (((halfL l).getD k 0 : Nat) : Int))
        have hor := u32_or_n (l.getD k 0 / 2) (2147483648 * (l.getD (k + 1) 0 % 2)) (by omega) (by omega)
        rw [or_high _ _ hz, ← hgh] at hor
        have HS2 := Lib.hid hs2; have HG2 := Lib.hid hG2
        obtain ⟨xI, hxI⟩ : ∃ xI : Int, xI = ((l.getD k 0 : Nat) : Int) := ⟨_, rfl⟩
        obtain ⟨yI, hyI⟩ : ∃ yI : Int, yI = ((l.getD (k + 1) 0 : Nat) : Int) := ⟨_, rfl⟩
        obtain ⟨zI, hzI⟩ : ∃ zI : Int, zI = ((l.getD k 0 / 2 : Nat) : Int) := ⟨_, rfl⟩
        obtain ⟨sI, hsI⟩ : ∃ sI : Int, sI = ((2147483648 * (l.getD (k + 1) 0 % 2) : Nat) : Int) := ⟨_, rfl⟩
        obtain ⟨vI, hvI⟩ : ∃ vI : Int, vI = (((halfL l).getD k 0 : Nat) : Int) := ⟨_, rfl⟩
        rw [← hzI, ← hsI, ← hvI] at hor
        rw [← hxI] at r1; rw [← hzI] at r3 r4 f3 HS2 HG2; rw [← hyI] at r4; rw [← hvI] at HS2 HG2
        have hsh : xI / 2 = zI := by rw [hxI, hzI]; omega
        have hsl : IntKind.u32.wrap (yI * 2147483648) = sI := by rw [IntKind.wrap_u32, hyI, hsI]; omega
        clear hst hs2 e1 e2 hset htk hdr hgd hgk hgh hxI hyI hzI hsI hvI hkl hkh htl htl2 hx hy hk1 hz hgr hG1 hG2
        go_wp2_with fail
        go_region
        go_wp2_with fail
        go_roundw
        case rel => exact ⟨k + 1, by omega, by go_num, HS2.out, by first | exact HG2.out.drew | exact grown_drew HG2.out | exact HG2.out.trans (World.grownBy.drew _ _) | exact ⟨HG2.out.os, HG2.out.tape, HG2.out.output, HG2.out.size, HG2.out.block⟩⟩
        case measure => simp [intOf]; omega
      · have h1i : ¬ (k : Int) + 1 < (n : Int) := by omega
        have hv : (halfL l).getD k 0 = l.getD k 0 / 2 := by
          rw [hgh, List.getD_eq_getElem?_getD (i := k + 1), List.getElem?_eq_none (by have := HLL.out; omega)]; rfl
        rw [hv] at htk
        rw [htk] at hst
        have HS2 := Lib.hid hst; have HG2 := Lib.hid hG1
        obtain ⟨xI, hxI⟩ : ∃ xI : Int, xI = ((l.getD k 0 : Nat) : Int) := ⟨_, rfl⟩
        obtain ⟨zI, hzI⟩ : ∃ zI : Int, zI = ((l.getD k 0 / 2 : Nat) : Int) := ⟨_, rfl⟩
        rw [← hxI] at r1; rw [← hzI] at r3 f3 HS2 HG2
        have hsh : xI / 2 = zI := by rw [hxI, hzI]; omega
        clear hst e1 hset htk hdr hgd hgk hgh hxI hzI hkl hkh htl htl2 hx hz hgr hG1 hv
        go_wp2_with fail
        go_roundw
        case rel => exact ⟨k + 1, by omega, by go_num, HS2.out, HG2.out⟩
        case measure => simp [intOf]; omega
    · have hki : ¬ (k : Int) < (n : Int) := by omega
      obtain rfl : k = n := by omega
      have HOF : Hid (wa.ownsRow base 47 1 (.slice (some ⟨g, 0, none⟩) k c) k (limC (halfL l))) := Lib.hid (by
        have := HO.out
        rwa [List.drop_of_length_le (by have := HLL.out; omega), List.append_nil, List.take_of_length_le (by rw [halfL_len]; have := HLL.out; omega)] at this)
      go_wp2_with fail
      refine (trim_any (some ⟨g, 0, none⟩) k c wa.heap.size (halfL l) _ (by omega) hc (Rd.own HOF.out)).mono ?_
      rintro e w5 ⟨rfl, rfl⟩
      go_wp2_with fail
      go_ret
      exact ⟨_, rfl, trimN_le _ _, rfl, HOF.out, HG.out⟩
#print axioms half_any
end Go.Proofs.Ytncjmndiafgaaaa
