/- The records of pieces. Conditions: as the statement says. -/
import Derived.Test.YtdgmjedkhjeadaaGreatFre8
import Derived.Test.YtdgmjedkhjeadaaGreatRcs8
namespace Go.Proofs.YtdgmjedkhjeadaaGreat
open Go.RowKit
set_option linter.unusedVariables false
attribute [local go_sem] Oper.semAt_some
theorem ownsRow_past8 {w w' : World} {base : Nat} {t : TypeId} {sz n : Nat} {v : Value} {xs : List Value} (h : w.ownsRow base t sz v n xs) (hb : Below w.heap.size w w') : w'.ownsRow base t sz v n xs := by
  refine ⟨h.1, ?_⟩
  rcases h.2 with h1 | ⟨g, cap, cur, hv, hg, hh, rest⟩
  · exact .inl h1
  · refine .inr ⟨g, cap, cur, hv, hg, ?_, rest⟩
    rw [hb.block _ (Array.getElem?_eq_some_iff.1 hh).1]; exact hh
def clmR (p : Pc) : Rc := ⟨0, 3, p.id, p.f, p.t, []⟩
def clmX (p : Pc) : RcX := (clmR p, none, 0)
/-- A list of pieces in memory. -/
def PcR (w : World) (v : Value) (ps : List Pc) : Prop :=
  ∃ A c, v = .slice A ps.length c ∧ ∀ (i : Nat) p, ps[i]? = some p → ∃ b, A = some ⟨b, 0, none⟩ ∧ b < w.heap.size ∧ w.cell? ⟨b, i * 3, none⟩ = some (.int .i64 (p.id : Int)) ∧ w.cell? ⟨b, i * 3 + 1, none⟩ = some (.int .i64 (p.f : Int)) ∧ w.cell? ⟨b, i * 3 + 2, none⟩ = some (.int .i64 (p.t : Int))
theorem PcR.far {w w' : World} {v : Value} {ps : List Pc} (h : PcR w v ps) (hb : Below w.heap.size w w') : PcR w' v ps := by
  obtain ⟨A, c, h1, h2⟩ := h
  refine ⟨A, c, h1, fun i p hp => ?_⟩
  obtain ⟨b, h3, h4, h5, h6, h7⟩ := h2 i p hp
  exact ⟨b, h3, Nat.lt_of_lt_of_le h4 hb.size, (hb.cell (p := ⟨b, i * 3, none⟩) h4).trans h5, (hb.cell (p := ⟨b, i * 3 + 1, none⟩) h4).trans h6, (hb.cell (p := ⟨b, i * 3 + 2, none⟩) h4).trans h7⟩
set_option maxRecDepth 100000 in
set_option maxHeartbeats 2000000 in
theorem claims_any {w : World} {v : Value} {ps : List Pc} (hp : PcR w v ps) (hl : ps.length ≤ 100000) :
    Calls Tryz.prog 79 #[v] w fun e w' => ∃ v', e = .returned v' ∧ RcsAt w' v' (ps.map clmR) [] ∧ Below w.heap.size w w' := by
  have HP := Lib.hid hp
  obtain ⟨A, c, rfl, hc⟩ := hp
  have HC := Lib.hid hc
  clear hc
  go_enter Tryz.func79, Tryz.ntmps79
  go_wp2_with fail
  go_loopw [3, 8] (fun u j wr => ∃ i : Nat, i ≤ ps.length ∧ j = .int .i64 i ∧ wr.ownsRow w.heap.size 115 6 u i (rcsC ((ps.take i).map clmX)) ∧ Below w.heap.size w wr) (fun _ j _ => ps.length - (intOf j).toNat)
  case atStart => exact ⟨0, Nat.zero_le _, rfl, World.ownsRow_nil _ _ _ _, Below.refl _ _⟩
  case round =>
    obtain ⟨i, hi, rfl, ho, hb⟩ := hrel
    obtain ⟨wi, rfl⟩ : ∃ z : World, z = wr := ⟨_, rfl⟩
    have HO := Lib.hid ho; have HB := Lib.hid hb
    clear ho hb
    by_cases hlt : i < ps.length
    · have hki : (i : Int) < (ps.length : Int) := by omega
      obtain ⟨p, hp⟩ : ∃ p, ps[i]? = some p := ⟨_, List.getElem?_eq_getElem hlt⟩
      obtain ⟨b, hA, hbl, h0, h1, h2⟩ := HC.out i p hp
      have HTK : Hid (rcsC ((ps.take (i + 1)).map clmX) = rcsC ((ps.take i).map clmX) ++ [.int .i64 0, .int .i64 3, .int .i64 (p.id : Int), .int .i64 (p.f : Int), .int .i64 (p.t : Int), .slice none 0 0]) := Lib.hid (by
        rw [List.take_add_one, hp, List.map_append, rcsC_append]; rfl)
      subst hA
      have c0 : wi.cell? ⟨b, i * 3, none⟩ = some (.int .i64 (p.id : Int)) := (HB.out.cell (p := ⟨b, i * 3, none⟩) hbl).trans h0
      have c1 : wi.cell? ⟨b, i * 3 + 1, none⟩ = some (.int .i64 (p.f : Int)) := (HB.out.cell (p := ⟨b, i * 3 + 1, none⟩) hbl).trans h1
      have c2 : wi.cell? ⟨b, i * 3 + 2, none⟩ = some (.int .i64 (p.t : Int)) := (HB.out.cell (p := ⟨b, i * 3 + 2, none⟩) hbl).trans h2
      clear h0 h1 h2 hp
      have hsz := HB.out.size
      go_upto_region 5 with fail
      obtain ⟨w2, hw2⟩ : ∃ z, z = wi.alloc (.cells #[.int .i64 (p.id : Int), .int .i64 (p.f : Int), .int .i64 (p.t : Int)] 82) := ⟨_, rfl⟩
      have hb2 : Below wi.heap.size wi w2 := by rw [hw2]; exact balloc _ _
      have hg2 : Bk w2 wi.heap.size #[.int .i64 (p.id : Int), .int .i64 (p.f : Int), .int .i64 (p.t : Int)] 82 := by rw [hw2]; exact Bk.new _ _ _
      rw [← hw2]
      obtain ⟨g, hg⟩ : ∃ g, g = wi.heap.size := ⟨_, rfl⟩
      rw [← hg] at hg2 ⊢
      have d0 : w2.cell? ⟨g, 0, none⟩ = some (.int .i64 (p.id : Int)) := hg2.cell 0
      have d1 : w2.cell? ⟨g, 1, none⟩ = some (.int .i64 (p.f : Int)) := hg2.cell 1
      have d2 : w2.cell? ⟨g, 2, none⟩ = some (.int .i64 (p.t : Int)) := hg2.cell 2
      have HO2 := Lib.hid (ownsRow_past8 HO.out hb2)
      have HB2 := Lib.hid (bnextK HB.out hb2)
      have hs2 : w.heap.size ≤ w2.heap.size := HB2.out.size
      clear hw2 hb2 hg2 hg c0 c1 c2
      go_wp2_with (at_builtin; refine wpList_pushL elR8 (.tmp 12) (.tmp 20) rfl rfl w.heap.size i _ rfl HO2.out rfl (by rfl) (fun u hu => by simp at hu; rcases hu with rfl | rfl | rfl | rfl | rfl | rfl <;> rfl) (by omega) (by decide) hs2 ?_; intro v' w5 ho5 hb5 _ _; have HO5 := Lib.hid ho5; have HB5 := Lib.hid (HB2.out.trans hb5); clear ho5 hb5)
      go_roundw
      case rel => exact ⟨i + 1, by omega, by go_num, by rw [HTK.out]; exact HO5.out, HB5.out⟩
      case measure => simp [intOf]; omega
    · have hki : ¬ (i : Int) < (ps.length : Int) := by omega
      obtain rfl : i = ps.length := by omega
      go_wp2_with fail
      go_ret
      have h := ownsRow_mono HO.out (Nat.zero_le _)
      rw [List.take_of_length_le (Nat.le_refl _)] at h
      have h2 := RcsAt.of_own (xs := ps.map clmX) (X := []) (by rw [List.length_map]; exact h) (fun x hx => by
        obtain ⟨p, _, rfl⟩ := List.mem_map.1 hx
        exact ⟨World.ownsRow_nil _ _ _ _, fun k hk => by simp [clmX, obT, ob, Value.ownBlock] at hk⟩)
      rw [List.map_map] at h2
      exact ⟨_, rfl, h2, HB.out⟩
end Go.Proofs.YtdgmjedkhjeadaaGreat
