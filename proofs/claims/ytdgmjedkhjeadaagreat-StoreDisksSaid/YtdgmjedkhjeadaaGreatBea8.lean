/- The contract of bears. Conditions: as the statement says. -/
import Derived.Test.YtdgmjedkhjeadaaGreatPack
import Derived.Test.YtdgmjedkhjeadaaGreatKeepL
import Derived.Test.YtdgmjedkhjeadaaGreatPad8
import Derived.Test.YtdgmjedkhjeadaaGreatSecEq
import Derived.Test.YtdgmjedkhjeadaaGreatSt9
import Derived.Deep.CutBlock
namespace Go.Proofs.YtdgmjedkhjeadaaGreat
open List (setIfInBounds_toArray set_cons_zero set_cons_succ)
open Go.RowKit
set_option linter.unusedVariables false
def pS (s : Sec) : List Nat := partS s 10 (10 + s.getD 9 0)
/-- The record behind the switch. -/
def midR (s : Sec) : Option Rc :=
  if 46 < s.getD 9 0 then none
  else if s.getD 8 0 ≠ 2 ∧ s.getD 9 0 < 4 then none
  else if s.getD 8 0 = 1 then
    (if s.getD 9 0 < 6 ∨ beV (partS (pS s) 4 6) < 1 ∨ 512 < beV (partS (pS s) 4 6) ∨ (unpB ((pS s).drop 6) (min (beV (partS (pS s) 4 6)) 320)).isNone then none else some ⟨beV (s.take 4), 1, 0, beV (partS (pS s) 4 6), 0, (pS s).drop 6⟩)
  else if s.getD 8 0 = 2 then (if s.getD 9 0 < 1 ∨ 24 < s.getD 9 0 then none else some ⟨beV (s.take 4), 2, 0, 0, 0, pS s⟩)
  else if s.getD 8 0 = 3 then (if s.getD 9 0 ≠ 8 then none else some ⟨beV (s.take 4), 3, 0, beV (partS (pS s) 4 6), beV (partS (pS s) 6 8), []⟩)
  else if s.getD 8 0 = 5 then (if s.getD 9 0 ≠ 5 ∨ 1 < (pS s).getD 4 0 then none else some ⟨beV (s.take 4), 5, 0, (pS s).getD 4 0, 0, []⟩)
  else some ⟨beV (s.take 4), s.getD 8 0, 0, 0, 0, []⟩
def endR (s : Sec) (r : Rc) : Rc := if r.kind = 2 then r else { r with id := beV ((pS s).take 4) }
def fineR (s : Sec) (n : Nat) (q : Rc) : Prop := (q.kind = 2 ∨ ((1 ≤ q.id ∨ q.kind = 5) ∧ q.id ≤ 2147483647)) ∧ 1 ≤ q.kind ∧ q.kind ≤ 5 ∧ 1 ≤ q.epoch ∧ secR q n = s
instance (s : Sec) (n : Nat) (q : Rc) : Decidable (fineR s n q) := by unfold fineR; infer_instance
theorem bearsR_mid (s : Sec) (n : Nat) : bearsR s n = (midR s).bind fun r => if fineR s n (endR s r) then some (endR s r) else none := by
  unfold bearsR midR
  simp only
  generalize hp : pS s = p
  unfold pS at hp
  rw [hp]
  generalize hk : s.getD 8 0 = kd
  generalize hz : s.getD 9 0 = sz
  have hend : ∀ r, endR s r = if r.kind = 2 then r else { r with id := beV (p.take 4) } := fun r => by unfold endR pS; rw [hp]
  simp only [hend]
  clear hend
  by_cases h1 : 46 < sz
  · rw [if_pos h1, if_pos h1]; rfl
  rw [if_neg h1, if_neg h1]
  by_cases h2 : kd ≠ 2 ∧ sz < 4
  · rw [if_pos h2, if_pos h2]; rfl
  rw [if_neg h2, if_neg h2]
  have fin : ∀ q : Rc, q.kind = kd → 1 ≤ kd → kd ≤ 5 → (if (kd ≠ 2 ∧ ((q.id < 1 ∧ kd ≠ 5) ∨ 2147483647 < q.id)) ∨ q.epoch < 1 ∨ secR q n ≠ s then none else some q) = if fineR s n q then some q else none := by
    intro q hq k1 k5
    by_cases hs : secR q n = s
    · by_cases hb : (kd ≠ 2 ∧ ((q.id < 1 ∧ kd ≠ 5) ∨ 2147483647 < q.id)) ∨ q.epoch < 1
      · rw [if_pos (by rcases hb with hb | hb; exact .inl hb; exact .inr (.inl hb)), if_neg]
        unfold fineR
        rw [hq]
        omega
      · rw [if_neg (by intro h; rcases h with h | h | h; exact hb (.inl h); exact hb (.inr h); exact h hs), if_pos]
        unfold fineR
        rw [hq]
        refine ⟨?_, k1, k5, ?_, hs⟩ <;> omega
    · rw [if_pos (.inr (.inr hs)), if_neg]
      rintro ⟨_, _, _, _, h⟩
      exact hs h
  by_cases k1 : kd = 1
  · subst k1
    rw [if_pos rfl, if_pos rfl]
    by_cases hc : sz < 6 ∨ beV (partS p 4 6) < 1 ∨ 512 < beV (partS p 4 6) ∨ (unpB (p.drop 6) (min (beV (partS p 4 6)) 320)).isNone
    · simp only [if_pos hc]; rfl
    · simp only [if_neg hc]
      simp only [Option.bind_some]
      rw [if_neg (show ¬ (1 : Nat) = 2 by omega)]
      exact fin ⟨beV (s.take 4), 1, beV (p.take 4), beV (partS p 4 6), 0, p.drop 6⟩ rfl (by omega) (by omega)
  rw [if_neg k1, if_neg k1]
  by_cases k2 : kd = 2
  · subst k2
    rw [if_pos rfl, if_pos rfl]
    by_cases hc : sz < 1 ∨ 24 < sz
    · simp only [if_pos hc]; rfl
    · simp only [if_neg hc]
      simp only [Option.bind_some]
      rw [if_pos True.intro]
      exact fin ⟨beV (s.take 4), 2, 0, 0, 0, p⟩ rfl (by omega) (by omega)
  rw [if_neg k2, if_neg k2]
  by_cases k3 : kd = 3
  · subst k3
    rw [if_pos rfl, if_pos rfl]
    by_cases hc : sz ≠ 8
    · simp only [if_pos hc]; rfl
    · simp only [if_neg hc]
      simp only [Option.bind_some]
      rw [if_neg (show ¬ (3 : Nat) = 2 by omega)]
      exact fin ⟨beV (s.take 4), 3, beV (p.take 4), beV (partS p 4 6), beV (partS p 6 8), []⟩ rfl (by omega) (by omega)
  rw [if_neg k3, if_neg k3]
  by_cases k4 : kd = 4
  · subst k4
    rw [if_pos rfl, if_neg (by omega)]
    simp only [Option.bind_some]
    rw [if_neg (show ¬ (4 : Nat) = 2 by omega)]
    exact fin ⟨beV (s.take 4), 4, beV (p.take 4), 0, 0, []⟩ rfl (by omega) (by omega)
  rw [if_neg k4]
  by_cases k5 : kd = 5
  · subst k5
    rw [if_pos rfl, if_pos rfl]
    by_cases hc : sz ≠ 5 ∨ 1 < p.getD 4 0
    · simp only [if_pos hc]; rfl
    · simp only [if_neg hc]
      simp only [Option.bind_some]
      rw [if_neg (show ¬ (5 : Nat) = 2 by omega)]
      exact fin ⟨beV (s.take 4), 5, beV (p.take 4), p.getD 4 0, 0, []⟩ rfl (by omega) (by omega)
  rw [if_neg k5, if_neg k5]
  simp only [Option.bind_some]
  rw [if_neg]
  rw [if_neg k2]
  rintro ⟨_, h, h', _⟩
  simp only at h h'
  omega
def BearP (s : Sec) (n : Nat) (w : World) (e : Ending) (w' : World) : Prop :=
  ∃ r A c, e = .returned (.tuple #[recV r A c, .bool (bearsR s n).isSome]) ∧ (∀ q, bearsR s n = some q → q = r) ∧ w'.ownsRow w.heap.size 5 1 (.slice A r.bits.length c) r.bits.length (secC r.bits) ∧ Below w.heap.size w w'
theorem bear_none {s : Sec} {n : Nat} (h : midR s = none) : bearsR s n = none := by rw [bearsR_mid, h]; rfl
theorem BearP.no {s : Sec} {n : Nat} {w w' : World} (h : bearsR s n = none) (hb : Below w.heap.size w w') : BearP s n w (.returned (.tuple #[recV rc0 none 0, .bool false])) w' :=
  ⟨rc0, none, 0, by rw [h]; rfl, fun q hq => (by rw [h] at hq; cases hq), World.ownsRow_nil _ _ _ _, hb⟩
/-- The blocks of the walk. -/
structure BS (g : Nat) (s : Sec) (w W : World) : Prop where
  s : Bk W g (secC s).toArray 101
  z : Bk W (g + 1) (recC rc0 none 0) 115
  b : Below g w W
theorem BS.far {g : Nat} {s : Sec} {w W W' : World} (h : BS g s w W) (hb : Below W.heap.size W W') (hg : w.heap.size = g) : BS g s w W' :=
  ⟨h.s.past hb h.s.lt, h.z.past hb h.z.lt, h.b.trans (hb.mono (by have := h.s.lt; omega))⟩
theorem BS.cell {g : Nat} {w W : World} {s : Sec} (h : BS g s w W) (hs : SecOK s) (i : Nat) (hi : i < 64) : W.cell? ⟨g, i, none⟩ = some (.int .u8 (s.getD i 0 : Nat)) := by
  rw [h.s.cell, List.getElem?_toArray]
  unfold secC
  rw [List.getElem?_map, List.getD_eq_getElem?_getD, List.getElem?_eq_getElem (by rw [hs.1]; exact hi)]
  rfl
theorem sec_lt {s : Sec} (hs : SecOK s) (i : Nat) : s.getD i 0 < 256 := by
  rw [List.getD_eq_getElem?_getD]
  cases h : s[i]? with
  | none => simp
  | some x => exact hs.2 x (List.mem_of_getElem? h)
/-- The blocks of the walk, and the record. -/
structure BX (g : Nat) (s : Sec) (w : World) (r : Rc) (A : Option Addr) (c : Nat) (W : World) : Prop where
  bs : BS g s w W
  rb : Bk W (g + 2) (recC r A c) 115
  ow : W.ownsRow g 5 1 (.slice A r.bits.length c) r.bits.length (secC r.bits)
  h : A.map (·.block) ≠ some (g + 2) ∧ A.map (·.block) ≠ some (g + 1) ∧ A.map (·.block) ≠ some g
theorem rec_own {W : World} {g : Nat} {A : Option Addr} {c n : Nat} {xs : List Value} (h : W.ownsRow g 5 1 (.slice A n c) n xs) : ∀ b, (Value.slice A n c).ownBlock = some b → A.map (·.block) = some b := by
  intro b hb
  rcases h.2 with ⟨e, _⟩ | ⟨g', cap, cur, e, _⟩
  · injection e with e1; subst e1; cases hb
  · injection e with e1; subst e1; injection hb with hb; rw [← hb]; rfl
theorem sec_slice (g z : Nat) (hz : z ≤ 46) (W : World) : (Instr.sliceAt 101 (.pointer (some ⟨g, 0, none⟩)) (some (.int .i64 10)) (some (.int .i64 (10 + (z : Int)))) none).run Tryz.prog W = .ok (.slice (some ⟨g, 10, none⟩) z 54) W := by
  have ha : Tryz.prog.arrayLen 101 = 64 := by kernel_rfl
  have hs : (sizeOf (Tryz.prog.elem 101)).run Tryz.prog W = .ok 1 W := by kernel_rfl
  have := run_sliceAt_array_lh (P := Tryz.prog) W 101 ⟨g, 0, none⟩ (by kernel_rfl) .i64 .i64 10 (10 + (z : Int)) (by omega) (by omega) (by rw [ha]; omega)
  rw [this, ha, hs]
  simp only [Result.andThen_ok, slicedAt]
  rw [if_neg (by decide), show (10 + (z : Int)).toNat - (10 : Int).toNat = z by omega]
  try rfl
theorem BX.no {g : Nat} {s : Sec} {n : Nat} {w W : World} {r : Rc} {A : Option Addr} {c : Nat} (h : bearsR s n = none) (hb : BS g s w W) (hg : g = w.heap.size) :
    BearP s n w (.returned (.tuple #[recV rc0 none 0, .bool false])) (W.setRow (g + 1) (recC rc0 none 0)) :=
  BearP.no h ((hg ▸ hb.b).trans (below_put8 _ (by omega)))
/-- A record of the walk's first step. -/
def r5 (s : Sec) : Rc := ⟨beV (s.take 4), s.getD 8 0, 0, 0, 0, []⟩
theorem partS_part (s : Sec) (z i j : Nat) (hj : j ≤ z) : partS (partS s 10 (10 + z)) i j = partS s (10 + i) (10 + j) := by
  unfold partS
  rw [show 10 + z - 10 = z by omega, List.drop_take, List.drop_drop, List.take_take]
  congr 1
  omega
theorem partS_drop (s : Sec) (z i : Nat) (hj : i ≤ z) : (partS s 10 (10 + z)).drop i = partS s (10 + i) (10 + i + (z - i)) := by
  unfold partS
  rw [show 10 + z - 10 = z by omega, List.drop_take, List.drop_drop]
  congr 1
  omega
theorem partS_len {s : Sec} (hs : SecOK s) (i k : Nat) (h : i + k ≤ 64) : (partS s i (i + k)).length = k := by
  unfold partS
  rw [List.length_take, List.length_drop, hs.1]
  omega
theorem partS_lt {s : Sec} (hs : SecOK s) (i j : Nat) : ∀ x ∈ partS s i j, x < 256 := fun x hx => by
  unfold partS at hx
  exact hs.2 x (List.mem_of_mem_drop (List.mem_of_mem_take hx))
theorem partS_get (s : Sec) (z i : Nat) (hi : i < z) (hz : 10 + z ≤ s.length) : (partS s 10 (10 + z)).getD i 0 = s.getD (10 + i) 0 := by
  unfold partS
  rw [List.getD_eq_getElem?_getD, List.getD_eq_getElem?_getD, List.getElem?_take, if_pos (by omega), List.getElem?_drop]
/-- A cell of the record is written, and its bits. -/
theorem BX.bits {g : Nat} {s : Sec} {w W W3 : World} {r r' : Rc} {A : Option Addr} {c : Nat} {A' : Option Addr} {c' : Nat} (h : BX g s w r A c W) (hg : g = w.heap.size) (hb : Below W.heap.size W W3)
    (ho : W3.ownsRow W.heap.size 5 1 (.slice A' r'.bits.length c') r'.bits.length (secC r'.bits)) {W4 : World} (hk : KeepL [g + 2] W3 W4) (hr : Bk W4 (g + 2) (recC r' A' c') 115) : BX g s w r' A' c' W4 := by
  have h3 := h.bs.far hb hg.symm
  have hl := h.rb.lt
  have hne : ∀ b, A'.map (·.block) = some b → W.heap.size ≤ b ∨ r'.bits.length = 0 := fun b hb => by
    rcases ho.2 with ⟨e, h0⟩ | ⟨g', cap, cur, e, h1, _⟩
    · injection e with e1; subst e1; cases hb
    · injection e with e1; subst e1; injection hb with hb; exact .inl (by rw [← hb]; exact h1)
  refine ⟨⟨h3.s.keepL hk (by simp), h3.z.keepL hk (by simp), h3.b.trans (hk.below (by have := h3.s.lt; omega) (fun k hk => by simp at hk; omega))⟩, hr, ?_, ?_⟩
  · refine ownsRow_keepB (ownsRow_mono ho (by omega)) hk fun k hk2 => ?_
    rw [mem_ob] at hk2
    have := ho.lt k hk2
    simp only [List.mem_singleton]
    omega
  · rcases ho.2 with ⟨e, h0⟩ | ⟨g', cap, cur, e, h1, _⟩
    · injection e with e1; subst e1; simp
    · injection e with e1; subst e1
      simp only [Option.map_some, ne_eq, Option.some.injEq]
      omega
/-- A cell of the record is written. -/
theorem BX.cells {g : Nat} {s : Sec} {w W : World} {r r' : Rc} {A : Option Addr} {c : Nat} (h : BX g s w r A c W) (hg : g = w.heap.size) (hb : r'.bits = r.bits) {W4 : World} (hk : KeepL [g + 2] W W4) (hr : Bk W4 (g + 2) (recC r' A c) 115) : BX g s w r' A c W4 := by
  refine ⟨⟨h.bs.s.keepL hk (by simp), h.bs.z.keepL hk (by simp), h.bs.b.trans (hk.below (by have := h.bs.s.lt; omega) (fun k hk => by simp at hk; omega))⟩, hr, ?_, h.h⟩
  rw [hb]
  refine ownsRow_keepB h.ow hk fun k hk2 => ?_
  rw [mem_ob] at hk2
  have := rec_own h.ow k hk2
  simp only [List.mem_singleton]
  rintro rfl
  exact h.h.1 this
theorem BX.far {g : Nat} {s : Sec} {w W W' : World} {r : Rc} {A : Option Addr} {c : Nat} (h : BX g s w r A c W) (hg : g = w.heap.size) (hb : Below W.heap.size W W') : BX g s w r A c W' :=
  ⟨h.bs.far hb hg.symm, h.rb.past hb h.rb.lt, ownsRow_keepB (L := []) h.ow (.of_below hb) (by simp), h.h⟩
theorem mid_ok {s : Sec} (hs : SecOK s) {r : Rc} (h : midR s = some r) : RcOK (endR s r) ∧ r.kind = s.getD 8 0 ∧ (r.kind ≠ 2 → 4 ≤ s.getD 9 0) ∧ s.getD 9 0 ≤ 46 := by
  have he := beV4 (l := s.take 4) (fun x hx => hs.2 x (List.mem_of_mem_take hx)) (by rw [List.length_take]; omega)
  have hkd := sec_lt hs 8
  have hpl : ∀ i j, i + j ≤ 64 → ∀ x ∈ partS s i (i + j), x < 256 := fun i j _ => partS_lt hs i _
  unfold midR at h
  by_cases h1 : 46 < s.getD 9 0
  · rw [if_pos h1] at h; cases h
  rw [if_neg h1] at h
  by_cases h2 : s.getD 8 0 ≠ 2 ∧ s.getD 9 0 < 4
  · rw [if_pos h2] at h; cases h
  rw [if_neg h2] at h
  have hP : ∀ x ∈ pS s, x < 256 := partS_lt hs _ _
  have hL : (pS s).length ≤ 46 := by unfold pS; rw [partS_len hs 10 _ (by omega)]; omega
  have hid : beV ((pS s).take 4) < 4294967296 := beV4 (fun x hx => hP x (List.mem_of_mem_take hx)) (by rw [List.length_take]; omega)
  have ha : ∀ i j, j - i ≤ 4 → beV (partS (pS s) i j) < 4294967296 := fun i j hij => beV4 (fun x hx => by unfold partS at hx; exact hP x (List.mem_of_mem_drop (List.mem_of_mem_take hx))) (by unfold partS; rw [List.length_take]; omega)
  have ha1 := ha 4 6 (by omega)
  have ha2 := ha 6 8 (by omega)
  have h4 : (pS s).getD 4 0 < 256 := by
    rw [List.getD_eq_getElem?_getD]
    cases hq : (pS s)[4]? with
    | none => simp
    | some x => exact hP x (List.mem_of_getElem? hq)
  generalize beV (partS (pS s) 4 6) = pa at h ha1
  generalize beV (partS (pS s) 6 8) = pb at h ha2
  generalize (pS s).getD 4 0 = p4 at h h4
  have hD : ∀ x ∈ (pS s).drop 6, x < 256 := fun x hx => hP x (List.mem_of_mem_drop hx)
  have hDL : ((pS s).drop 6).length ≤ 46 := by rw [List.length_drop]; omega
  generalize (pS s).drop 6 = pd at h hD hDL
  have en : ∀ r, endR s r = if r.kind = 2 then r else { r with id := beV ((pS s).take 4) } := fun r => rfl
  rw [en]
  clear en ha
  generalize beV ((pS s).take 4) = id at hid ⊢
  generalize pS s = pp at *
  split at h
  · rename_i hk
    split at h
    · cases h
    · injection h with h; subst h
      refine ⟨?_, hk.symm, fun _ => by omega, by omega⟩
      rw [if_neg (by dsimp only; omega)]
      exact ⟨by dsimp only; omega, by dsimp only; omega, by dsimp only; omega, by dsimp only; omega, by dsimp only; omega, by dsimp only; omega, hD⟩
  split at h
  · rename_i hk
    split at h
    · cases h
    · injection h with h; subst h
      refine ⟨?_, hk.symm, fun e => absurd rfl e, by omega⟩
      rw [if_pos rfl]
      exact ⟨by dsimp only; omega, by dsimp only; omega, by dsimp only; omega, by dsimp only; omega, by dsimp only; omega, by dsimp only; omega, hP⟩
  split at h
  · rename_i hk
    split at h
    · cases h
    · injection h with h; subst h
      refine ⟨?_, hk.symm, fun _ => by omega, by omega⟩
      rw [if_neg (by dsimp only; omega)]
      exact ⟨by dsimp only; omega, by dsimp only; omega, by dsimp only; omega, by dsimp only; omega, by dsimp only; omega, by simp, fun x hx => by cases hx⟩
  split at h
  · rename_i hk
    split at h
    · cases h
    · injection h with h; subst h
      refine ⟨?_, hk.symm, fun _ => by omega, by omega⟩
      rw [if_neg (by dsimp only; omega)]
      exact ⟨by dsimp only; omega, by dsimp only; omega, by dsimp only; omega, by dsimp only; omega, by dsimp only; omega, by simp, fun x hx => by cases hx⟩
  injection h with h; subst h
  refine ⟨?_, rfl, fun _ => by omega, by omega⟩
  rw [if_neg (by dsimp only; omega)]
  exact ⟨by dsimp only; omega, by dsimp only; omega, by dsimp only; omega, by dsimp only; omega, by dsimp only; omega, by simp, fun x hx => by cases hx⟩
theorem own_put {g : Nat} {s : Sec} {w W : World} {r : Rc} {A : Option Addr} {c : Nat} (hg : g = w.heap.size) (h : BX g s w r A c W) {cs : Array Value} :
    (W.setRow (g + 1) cs).ownsRow w.heap.size 5 1 (.slice A r.bits.length c) r.bits.length (secC r.bits) ∧ Below w.heap.size w (W.setRow (g + 1) cs) := by
  refine ⟨?_, (hg ▸ h.bs.b).trans (below_put8 _ (by omega))⟩
  rw [← hg]
  refine ownsRow_keepB h.ow (keepL_put W (g + 1) cs) fun k hk2 => ?_
  rw [mem_ob] at hk2
  have := rec_own h.ow k hk2
  simp only [List.mem_singleton]
  rintro rfl
  exact h.h.2.1 this
theorem bx5 {g : Nat} {s : Sec} {w w1 W : World} {ep kd : Nat} {cs : Array Value} (h : BS g s w w1) (hb : Below w1.heap.size w1 W) (hz : Bk W (g + 2) cs 115) (hs : w1.heap.size = g + 2) (hg : g = w.heap.size) (h1 : ep = beV (s.take 4)) (h2 : kd = s.getD 8 0) :
    BX g s w (r5 s) none 0 (W.setRow (g + 2) (recC ⟨ep, kd, 0, 0, 0, []⟩ none 0)) := by
  subst h1; subst h2
  have hb2 : Below w1.heap.size w1 (W.setRow (g + 2) (recC (r5 s) none 0)) := hb.trans (below_put8 _ (by omega))
  exact ⟨h.far hb2 hg.symm, hz.put _, World.ownsRow_nil _ _ _ _, by simp⟩
set_option maxRecDepth 100000 in
set_option maxHeartbeats 60000000 in
theorem bears_any (s : Sec) (n : Nat) (w : World) (hs : SecOK s) (hn : n < 4294967296) : Calls Tryz.prog 98 #[secV s, .int .i64 (n : Int)] w (BearP s n w) := by
  obtain ⟨g, hg⟩ : ∃ g, g = w.heap.size := ⟨_, rfl⟩
  obtain ⟨w1, hw1⟩ : ∃ z, z = (w.alloc (.cells (secC s).toArray 101)).alloc (.cells (recC rc0 none 0) 115) := ⟨_, rfl⟩
  have HBS : Hid (BS g s w w1) := Lib.hid (by
    have h1 := balloc w (.cells (secC s).toArray 101)
    have h2 := balloc (w.alloc (.cells (secC s).toArray 101)) (.cells (recC rc0 none 0) 115)
    refine ⟨?_, ?_, ?_⟩
    · rw [hw1, hg]; exact (Bk.new w _ _).past h2 (by rw [World.size_alloc]; omega)
    · rw [hw1, hg]; have := Bk.new (w.alloc (.cells (secC s).toArray 101)) (recC rc0 none 0) 115; rw [World.size_alloc] at this; exact this
    · rw [hw1, hg]; exact bnextK h1 h2)
  have HSZ1 : Hid (w1.heap.size = g + 2) := Lib.hid (by rw [hw1, World.size_alloc, World.size_alloc, hg])
  have HW1 := Lib.hid hw1; have HS := Lib.hid hs; have HG := Lib.hid hg
  clear hw1 hs hg
  have hsz : (secC s).length = 64 := by rw [secC_length, HS.out.1]
  have HRI := Lib.hid (recC_info rc0 none 0)
  unfold secV
  go_enter Tryz.func98, Tryz.ntmps98
  go_upto_region 1 with fail
  have hw1 := HW1.out
  rw [recC_0] at hw1
  rw [← hw1]
  clear hw1
  have c9 := HBS.out.cell HS.out 9 (by omega)
  obtain ⟨z, hz⟩ : ∃ z, z = s.getD 9 0 := ⟨_, rfl⟩
  have hz2 : z < 256 := by rw [hz]; exact sec_lt HS.out 9
  have HZ := Lib.hid hz
  rw [← hz] at c9
  rw [← HG.out]
  clear hz
  by_cases hl : 46 < z
  · have hli : (46 : Int) < (z : Int) := by omega
    have HZW := Lib.hid HBS.out.z
    go_wp2_with (refine wpList_plain rfl fun _ hK => wp_store_row 115 _ _ rfl (g + 1) (recC rc0 none 0) rfl rfl _ _ HZW.out HRI.out rfl (recC_all _ _ _) (hK _ _ ?_))
    refine bodyPost_ret (a := Act.mk _ _) (results_rec rfl _ _ (g + 1) _ rc0 none 0 rfl (HZW.out.put _)) rfl ?_
    exact BX.no (r := rc0) (A := none) (c := 0) (bear_none (by unfold midR; rw [← HZ.out, if_pos hl])) HBS.out HG.out
  have hli : ¬ (46 : Int) < (z : Int) := by omega
  have h64 : (10 : Int) + (z : Int) ≤ 64 := by omega
  have hsl := sec_slice g z (by omega)
  go_upto_region 5 with fail
  clear hsl
  have c8 := HBS.out.cell HS.out 8 (by omega)
  have HK0 : Hid (s.getD 8 0 < 256) := Lib.hid (sec_lt HS.out 8)
  obtain ⟨kd, hkd⟩ : ∃ k, k = s.getD 8 0 := ⟨_, rfl⟩
  have hk2 : kd < 256 := by rw [hkd]; exact HK0.out
  rw [← hkd] at c8
  have HKD := Lib.hid hkd
  have hpt := HBS.out.s.part 0 4 (by rw [HS.out.1]; omega)
  rw [show partS s 0 (0 + 4) = s.take 4 by unfold partS; simp] at hpt
  have HGET : Hid (∀ W, Below w1.heap.size w1 W → Calls Tryz.prog 97 #[.slice (some ⟨g, 0, none⟩) 4 64] W fun e W' => e = .returned (.int .i64 (beV (s.take 4) : Nat)) ∧ W = W') := Lib.hid fun W hW =>
    get_any _ 4 64 _ _ (by omega) (fun x hx => HS.out.2 x (List.mem_of_mem_take hx)) ((hpt.below hW).mono hW.size)
  have HEP : Hid (beV (s.take 4) < 4294967296) := Lib.hid (beV4 (fun x hx => HS.out.2 x (List.mem_of_mem_take hx)) (by rw [List.length_take]; omega))
  obtain ⟨ep, hep⟩ : ∃ e, e = beV (s.take 4) := ⟨_, rfl⟩
  rw [← hep] at HGET HEP
  have HEPE := Lib.hid hep
  clear hkd hpt hep
  have hgs := HSZ1.out
  clear c9
  go_cut [8] from 8 to 25 (fun v8 wc => v8 = .pointer (some ⟨g + 2, 0, none⟩) ∧ BX g s w (r5 s) none 0 wc)
  case first => as_aux_lemma =>
    have HNOW : Hid (Below w1.heap.size w1 w1.drew) := Lib.hid (below_drew8 _ _)
    have hwk : IntKind.i64.wrap (kd : Int) = (kd : Int) := i64_small kd (by omega)
    have HNOW2 : Hid (Below w1.heap.size w1 (w1.alloc (.cells (recC rc0 none 0) 115)).drew) := Lib.hid (bnextK (balloc _ _) (below_drew8 _ _))
    have HBZ : Hid (Bk (w1.alloc (.cells (recC rc0 none 0) 115)).drew (g + 2) (recC rc0 none 0) 115) := Lib.hid (by rw [← HSZ1.out]; exact Bk.new w1 _ _)
    rw [recC_0] at HNOW2 HBZ
    have hg8 : g < w1.heap.size := by rw [HSZ1.out]; omega
    have C8A := Lib.hid ((HNOW.out.cell (p := ⟨g, 8, none⟩) hg8).trans c8)
    have C8B := Lib.hid ((HNOW2.out.cell (p := ⟨g, 8, none⟩) hg8).trans c8)
    clear hg8
    refine wp_region_held_drew (S := (fun W => W.cell? ⟨g, 8, none⟩ = some (.int .u8 (kd : Int)))) (by kernel_rfl) ?_ (fun hHeld => ?_)
    · (try dsimp only); first | exact C8A.out | exact C8B.out | exact C8C.out
    refine wpAnyH_take (i := 0) (oi := ⟨some 19, _, _, _, _, _⟩) (v := ?_) rfl (by kernel_rfl) (by kernel_rfl) (by kernel_rfl) (fun _ _ _ h => h) (Or.inl ⟨by rfl, ?_⟩) (by assumption) ?_; rotate_left
    · intro w hSw; (try dsimp only at hSw); go_simp; try with_reducible rfl
    try simp only [Act.put, setIfInBounds_toArray, set_cons_zero, set_cons_succ]
    refine wpAnyH_take (i := 2) (oi := ⟨some 21, _, _, _, _, _⟩) (v := ?_) rfl (by kernel_rfl) (by kernel_rfl) (by kernel_rfl) (fun _ _ _ h => h) (Or.inl ⟨by rfl, ?_⟩) (by assumption) ?_; rotate_left
    · intro w hSw; (try dsimp only at hSw); go_simp; try with_reducible rfl
    try simp only [Act.put, setIfInBounds_toArray, set_cons_zero, set_cons_succ]
    refine wpAnyH_take (i := 3) (oi := ⟨some 22, _, _, _, _, _⟩) (v := ?_) rfl (by kernel_rfl) (by kernel_rfl) (by kernel_rfl) (fun _ _ _ h => h) (Or.inl ⟨by rfl, ?_⟩) (by assumption) ?_; rotate_left
    · intro w hSw; (try dsimp only at hSw); go_simp; try with_reducible rfl
    try simp only [Act.put, setIfInBounds_toArray, set_cons_zero, set_cons_succ]
    refine wpAnyH_take (i := 4) (oi := ⟨some 23, _, _, _, _, _⟩) (v := ?_) rfl (by kernel_rfl) (by kernel_rfl) (by kernel_rfl) (fun _ _ _ h => h) (Or.inl ⟨by rfl, ?_⟩) (by assumption) ?_; rotate_left
    · intro w hSw; (try dsimp only at hSw); go_simp; try with_reducible rfl
    try simp only [Act.put, setIfInBounds_toArray, set_cons_zero, set_cons_succ]
    refine wpAnyH_ready (rs := [1, 6]) (by kernel_rfl) (by simp) ?_
    refine AllReadyH.cons (o := ⟨some 20, _, _, _, _, _⟩) rfl (fun K hK => ?_) ?_
    · skip
      go_simp
      refine (HGET.out _ HNOW.out).mono ?_
      rintro e' w' ⟨rfl, rfl⟩
      go_wp2_with fail
      refine hK.out _ _ ?_ (fun hHeld => ?_)
      · (try dsimp only); first | exact C8A.out | exact C8B.out | exact C8C.out
      clear hK K
      try simp only [Act.put, setIfInBounds_toArray, set_cons_zero, set_cons_succ]
      refine wpAnyH_take (i := 5) (oi := ⟨some 24, _, _, _, _, _⟩) (v := ?_) rfl (by kernel_rfl) (by kernel_rfl) (by kernel_rfl) (fun _ _ _ h => h) (Or.inl ⟨by rfl, ?_⟩) (by assumption) ?_; rotate_left
      · intro w hSw; (try dsimp only at hSw); go_simp; try with_reducible rfl
      try simp only [Act.put, setIfInBounds_toArray, set_cons_zero, set_cons_succ]
      refine wpAnyH_ready (rs := [6]) (by kernel_rfl) (by simp) ?_
      refine AllReadyH.cons (o := ⟨some 8, _, _, _, _, _⟩) rfl (fun K hK => ?_) AllReadyH.nil
      go_simp
      refine hK.out _ _ ?_ (fun hHeld => ?_)
      · (try dsimp only); first | exact C8A.out | exact C8B.out | exact C8C.out
      clear hK K
      try simp only [Act.put, setIfInBounds_toArray, set_cons_zero, set_cons_succ]
      refine wpAnyH_ready (rs := [7]) (by kernel_rfl) (by simp) ?_
      refine AllReadyH.cons (o := ⟨none, _, _, _, _, _⟩) rfl (fun K hK => ?_) AllReadyH.nil
      refine step_store_bk 115 _ _ rfl rfl (g + 2) (recC ⟨ep, kd, 0, 0, 0, []⟩ none 0) rfl rfl _ _ HBZ.out (recC_info _ _ _) rfl (recC_all _ _ _) ?_
      have HFIN := Lib.hid (bx5 HBS.out HNOW2.out HBZ.out HSZ1.out HG.out HEPE.out HKD.out)
      have c8c := HFIN.out.bs.cell HS.out 8 (by omega)
      rw [← HKD.out] at c8c
      have C8C := Lib.hid c8c
      clear c8c
      refine hK.out _ _ ?_ (fun hHeld => ?_)
      · (try dsimp only); first | exact C8A.out | exact C8B.out | exact C8C.out
      clear hK K
      try simp only [Act.put]
      refine wpAnyH_done (by kernel_rfl) ?_ _
      go_wp2_with fail
      go_meet
      exact ⟨rfl, HFIN.out⟩
    refine AllReadyH.cons (o := ⟨some 8, _, _, _, _, _⟩) rfl (fun K hK => ?_) AllReadyH.nil
    go_simp
    refine hK.out _ _ ?_ (fun hHeld => ?_)
    · (try dsimp only); first | exact C8A.out | exact C8B.out | exact C8C.out
    clear hK K
    try simp only [Act.put, setIfInBounds_toArray, set_cons_zero, set_cons_succ]
    refine wpAnyH_ready (rs := [1]) (by kernel_rfl) (by simp) ?_
    refine AllReadyH.cons (o := ⟨some 20, _, _, _, _, _⟩) rfl (fun K hK => ?_) AllReadyH.nil
    go_simp
    refine (HGET.out _ HNOW2.out).mono ?_
    rintro e' w' ⟨rfl, rfl⟩
    go_wp2_with fail
    refine hK.out _ _ ?_ (fun hHeld => ?_)
    · (try dsimp only); first | exact C8A.out | exact C8B.out | exact C8C.out
    clear hK K
    try simp only [Act.put, setIfInBounds_toArray, set_cons_zero, set_cons_succ]
    refine wpAnyH_take (i := 5) (oi := ⟨some 24, _, _, _, _, _⟩) (v := ?_) rfl (by kernel_rfl) (by kernel_rfl) (by kernel_rfl) (fun _ _ _ h => h) (Or.inl ⟨by rfl, ?_⟩) (by assumption) ?_; rotate_left
    · intro w hSw; (try dsimp only at hSw); go_simp; try with_reducible rfl
    try simp only [Act.put, setIfInBounds_toArray, set_cons_zero, set_cons_succ]
    refine wpAnyH_ready (rs := [7]) (by kernel_rfl) (by simp) ?_
    refine AllReadyH.cons (o := ⟨none, _, _, _, _, _⟩) rfl (fun K hK => ?_) AllReadyH.nil
    refine step_store_bk 115 _ _ rfl rfl (g + 2) (recC ⟨ep, kd, 0, 0, 0, []⟩ none 0) rfl rfl _ _ HBZ.out (recC_info _ _ _) rfl (recC_all _ _ _) ?_
    have HFIN := Lib.hid (bx5 HBS.out HNOW2.out HBZ.out HSZ1.out HG.out HEPE.out HKD.out)
    have c8c := HFIN.out.bs.cell HS.out 8 (by omega)
    rw [← HKD.out] at c8c
    have C8C := Lib.hid c8c
    clear c8c
    refine hK.out _ _ ?_ (fun hHeld => ?_)
    · (try dsimp only); first | exact C8A.out | exact C8B.out | exact C8C.out
    clear hK K
    try simp only [Act.put]
    refine wpAnyH_done (by kernel_rfl) ?_ _
    go_wp2_with fail
    go_meet
    exact ⟨rfl, HFIN.out⟩
  case rest => as_aux_lemma =>
    obtain ⟨w2, rfl⟩ : ∃ z : World, z = wc := ⟨_, rfl⟩
    obtain ⟨rfl, hbx⟩ := hcut
    have HBX := Lib.hid hbx
    clear hbx HGET HSZ1 HW1
    have c81 := HBX.out.rb.cell 1
    rw [show (recC (r5 s) none 0)[1]? = some (.int .i64 (kd : Int)) by rw [HKD.out]; rfl] at c81
    go_upto_region 7 with fail
    by_cases hf : kd ≠ 2 ∧ z < 4
    · have e1 : ((kd : Int) != 2) = true := by simp; omega
      have e2 : (z : Int) < 4 := by omega
      have HBSX := Lib.hid HBX.out.bs
      have HZW := Lib.hid HBSX.out.z
      go_wp2_with (refine wpList_plain rfl fun _ hK => wp_store_row 115 _ _ rfl (g + 1) (recC rc0 none 0) rfl rfl _ _ HZW.out HRI.out rfl (recC_all _ _ _) (hK _ _ ?_))
      refine bodyPost_ret (a := Act.mk _ _) (results_rec rfl _ _ (g + 1) _ rc0 none 0 rfl (HZW.out.put _)) rfl ?_
      exact BX.no (r := rc0) (A := none) (c := 0) (bear_none (by unfold midR; rw [← HZ.out, ← HKD.out, if_neg hl, if_pos hf])) HBSX.out HG.out
    have HF := Lib.hid hf
    go_cut [31] from 25 to 31 (fun v31 wd => v31 = .bool false ∧ w2 = wd)
    case first => as_aux_lemma =>
      by_cases k2 : kd = 2
      · have e1 : ((kd : Int) != 2) = false := by simp; omega
        go_wp2_with fail
        go_meet
        exact ⟨rfl, rfl⟩
      · have e1 : ((kd : Int) != 2) = true := by simp; omega
        have e2 : ¬ (z : Int) < 4 := by omega
        go_wp2_with fail
        go_meet
        exact ⟨rfl, rfl⟩
    case rest => as_aux_lemma =>
      obtain ⟨w2, rfl⟩ : ∃ z : World, z = wc := ⟨_, rfl⟩
      obtain ⟨rfl, rfl⟩ := hcut
      clear hf
      go_upto_block 0 with fail
      go_cut [9] from 9 to 107 (fun v9 we => ∃ r A c, midR s = some r ∧ r.kind = kd ∧ v9 = .int .i64 (if kd = 5 then 0 else 1) ∧ BX g s w r A c we)
      case first => as_aux_lemma =>

        clear c81
        have HB2 := Lib.hid HBX.out.bs
        have HDR : Hid (BX g s w (r5 s) none 0 w2.drew) := Lib.hid (HBX.out.far HG.out (below_drew8 _ _))
        have hP : pS s = partS s 10 (10 + z) := by unfold pS; rw [← HZ.out]
        have HP := Lib.hid hP
        have HMID : Hid (midR s = if kd = 1 then
              (if z < 6 ∨ beV (partS (pS s) 4 6) < 1 ∨ 512 < beV (partS (pS s) 4 6) ∨ (unpB ((pS s).drop 6) (min (beV (partS (pS s) 4 6)) 320)).isNone then none else some ⟨ep, 1, 0, beV (partS (pS s) 4 6), 0, (pS s).drop 6⟩)
            else if kd = 2 then (if z < 1 ∨ 24 < z then none else some ⟨ep, 2, 0, 0, 0, pS s⟩)
            else if kd = 3 then (if z ≠ 8 then none else some ⟨ep, 3, 0, beV (partS (pS s) 4 6), beV (partS (pS s) 6 8), []⟩)
            else if kd = 5 then (if z ≠ 5 ∨ 1 < (pS s).getD 4 0 then none else some ⟨ep, 5, 0, (pS s).getD 4 0, 0, []⟩)
            else some ⟨ep, kd, 0, 0, 0, []⟩) := Lib.hid (by unfold midR; rw [← HZ.out, ← HKD.out, ← HEPE.out, if_neg hl, if_neg HF.out])
        have HR5 : Hid (r5 s = ⟨ep, kd, 0, 0, 0, []⟩) := Lib.hid (by unfold r5; rw [← HEPE.out, ← HKD.out])
        rw [HR5.out] at HBX HDR
        have HRS : Hid (∀ o k, 10 + o + k ≤ 64 → Rd w2.drew w2.drew.heap.size 1 (some ⟨g, 10 + o, none⟩) k ((partS s (10 + o) (10 + o + k)).map fun x : Nat => Value.int .u8 x)) := Lib.hid fun o k h => HDR.out.bs.s.part (10 + o) k (by rw [HS.out.1]; omega)
        clear hP
        by_cases k1 : kd = 1
        · as_aux_lemma =>
          subst k1
          have HM1 := Lib.hid (HMID.out.trans (if_pos rfl))
          clear HMID
          by_cases hz6 : z < 6
          · have hz6i : (z : Int) < 6 := by omega
            have HZW := Lib.hid HB2.out.z
            go_wp2_with (refine wpList_plain rfl fun _ hK => wp_store_row 115 _ _ rfl (g + 1) (recC rc0 none 0) rfl rfl _ _ HZW.out HRI.out rfl (recC_all _ _ _) (hK _ _ ?_))
            refine bodyPost_ret (a := Act.mk _ _) (results_rec rfl _ _ (g + 1) _ rc0 none 0 rfl (HZW.out.put _)) rfl ?_
            exact BX.no (r := rc0) (A := none) (c := 0) (bear_none (by rw [HM1.out, if_pos (.inl hz6)])) HB2.out HG.out
          have hz6i : ¬ (z : Int) < 6 := by omega
          have hz6j : (6 : Int) ≤ (z : Int) := by omega
          have hr1 := HRS.out 4 2 (by omega)
          have hr2 := HRS.out 6 (z - 6) (by omega)
          have HGA := Lib.hid (get_any _ 2 50 _ _ (by omega) (partS_lt HS.out _ _) hr1)
          have HCL := Lib.hid (clone_b8 _ (z - 6) 48 _ _ (by omega) hr2)
          have HPA : Hid (beV (partS (pS s) 4 6) = beV (partS s 14 16)) := Lib.hid (by rw [HP.out, partS_part _ _ _ _ (by omega)])
          have HPB : Hid ((pS s).drop 6 = partS s 16 (16 + (z - 6))) := Lib.hid (by rw [HP.out, partS_drop _ _ _ (by omega)])
          have HPL : Hid ((partS s 16 (16 + (z - 6))).length = z - 6) := Lib.hid (partS_len HS.out _ _ (by omega))
          have HPX := Lib.hid (partS_lt HS.out 16 (16 + (z - 6)))
          have hpa : beV (partS s 14 16) < 65536 := beV_lt4 (partS_lt HS.out _ _) 2 (by unfold partS; rw [List.length_take]; omega)
          rw [HPA.out, HPB.out] at HM1
          generalize partS s 16 (16 + (z - 6)) = pb at HCL HPL HPX HM1
          simp only [Nat.reduceAdd] at HGA
          generalize beV (partS s 14 16) = pa at HGA HM1 hpa
          clear hr1 hr2 HPA HPB HRS
          go_upto_region 13 with fail
          refine wp_region_held_drew (S := (fun _ => True)) (by kernel_rfl) ?_ (fun hHeld => ?_)
          · (try dsimp only); all_goals trivial
          refine wpAnyH_take (i := 0) (oi := ⟨some 40, _, _, _, _, _⟩) (v := ?_) rfl (by kernel_rfl) (by kernel_rfl) (by kernel_rfl) (fun _ _ _ h => h) (Or.inl ⟨by rfl, ?_⟩) (by assumption) ?_; rotate_left
          · intro w hSw; (try dsimp only at hSw); go_simp; try with_reducible rfl
          try simp only [Act.put, setIfInBounds_toArray, set_cons_zero, set_cons_succ]
          refine wpAnyH_take (i := 1) (oi := ⟨some 41, _, _, _, _, _⟩) (v := ?_) rfl (by kernel_rfl) (by kernel_rfl) (by kernel_rfl) (fun _ _ _ h => h) (Or.inl ⟨by rfl, ?_⟩) (by assumption) ?_; rotate_left
          · intro w hSw; (try dsimp only at hSw); go_simp; try with_reducible rfl
          try simp only [Act.put, setIfInBounds_toArray, set_cons_zero, set_cons_succ]
          refine wpAnyH_take (i := 3) (oi := ⟨some 43, _, _, _, _, _⟩) (v := ?_) rfl (by kernel_rfl) (by kernel_rfl) (by kernel_rfl) (fun _ _ _ h => h) (Or.inl ⟨by rfl, ?_⟩) (by assumption) ?_; rotate_left
          · intro w hSw; (try dsimp only at hSw); go_simp; try with_reducible rfl
          try simp only [Act.put, setIfInBounds_toArray, set_cons_zero, set_cons_succ]
          refine wpAnyH_take (i := 4) (oi := ⟨some 44, _, _, _, _, _⟩) (v := ?_) rfl (by kernel_rfl) (by kernel_rfl) (by kernel_rfl) (fun _ _ _ h => h) (Or.inl ⟨by rfl, ?_⟩) (by assumption) ?_; rotate_left
          · intro w hSw; (try dsimp only at hSw); go_simp; try with_reducible rfl
          try simp only [Act.put, setIfInBounds_toArray, set_cons_zero, set_cons_succ]
          refine wpAnyH_ready (rs := [2]) (by kernel_rfl) (by simp) ?_
          refine AllReadyH.cons (o := ⟨some 42, _, _, _, _, _⟩) rfl (fun K hK => ?_) AllReadyH.nil
          go_simp
          refine HGA.out.mono ?_
          rintro e' w' ⟨rfl, rfl⟩
          go_wp2_with fail
          refine hK.out _ _ ?_ (fun hHeld => ?_)
          · (try dsimp only); all_goals trivial
          clear hK K
          try simp only [Act.put, setIfInBounds_toArray, set_cons_zero, set_cons_succ]
          refine wpAnyH_take (i := 6) (oi := ⟨some 46, _, _, _, _, _⟩) (v := ?_) rfl (by kernel_rfl) (by kernel_rfl) (by kernel_rfl) (fun _ _ _ h => h) (Or.inl ⟨by rfl, ?_⟩) (by assumption) ?_; rotate_left
          · intro w hSw; (try dsimp only at hSw); go_simp; try with_reducible rfl
          try simp only [Act.put, setIfInBounds_toArray, set_cons_zero, set_cons_succ]
          refine wpAnyH_ready (rs := [5]) (by kernel_rfl) (by simp) ?_
          refine AllReadyH.cons (o := ⟨some 45, _, _, _, _, _⟩) rfl (fun K hK => ?_) AllReadyH.nil
          go_simp
          refine HCL.out.mono ?_
          rintro e' w3 ⟨A', c', rfl, hc3, ho3, hb3⟩
          have HO3 := Lib.hid ho3; have HB3 := Lib.hid hb3
          have HR3 := Lib.hid (HDR.out.rb.past hb3 HDR.out.rb.lt)
          have c3 := HR3.out.cell 3; have c5 := HR3.out.cell 5; have f3 := HR3.out.froz 3; have f5 := HR3.out.froz 5
          have c3' : w3.cell? ⟨g + 2, 3, none⟩ = some (.int .i64 0) := c3
          have c5' : w3.cell? ⟨g + 2, 5, none⟩ = some (.slice none 0 0) := c5
          clear ho3 hb3 c3 c5
          go_wp2_with fail
          refine hK.out _ _ ?_ (fun hHeld => ?_)
          · (try dsimp only); all_goals trivial
          clear hK K
          try simp only [Act.put, setIfInBounds_toArray, set_cons_zero, set_cons_succ]
          refine wpAnyH_ready (rs := [7]) (by kernel_rfl) (by simp) ?_
          refine AllReadyH.cons (o := ⟨none, _, _, _, _, _⟩) rfl (fun K hK => ?_) AllReadyH.nil
          go_simp
          refine hK.out _ _ ?_ (fun hHeld => ?_)
          · (try dsimp only); all_goals trivial
          clear hK K
          try simp only [Act.put]
          refine wpAnyH_take (i := 8) (oi := ⟨some 47, _, _, _, _, _⟩) (v := ?_) rfl (by kernel_rfl) (by kernel_rfl) (by kernel_rfl) (fun _ _ _ h => h) (Or.inl ⟨by rfl, ?_⟩) (by assumption) ?_; rotate_left
          · intro w hSw; (try dsimp only at hSw); go_simp; try with_reducible rfl
          try simp only [Act.put, setIfInBounds_toArray, set_cons_zero, set_cons_succ]
          refine wpAnyH_ready (rs := [9]) (by kernel_rfl) (by simp) ?_
          refine AllReadyH.cons (o := ⟨none, _, _, _, _, _⟩) rfl (fun K hK => ?_) AllReadyH.nil
          go_simp
          refine hK.out _ _ ?_ (fun hHeld => ?_)
          · (try dsimp only); all_goals trivial
          clear hK K
          try simp only [Act.put]
          refine wpAnyH_done (by kernel_rfl) ?_ _
          have HB4 : Hid (BX g s w ⟨ep, 1, 0, pa, 0, pb⟩ A' c' ((w3.setCell ⟨g + 2, 3, none⟩ (.int .i64 (pa : Int))).setCell ⟨g + 2, 5, none⟩ (.slice A' (z - 6) c'))) := Lib.hid (HDR.out.bits HG.out HB3.out (by
              show w3.ownsRow _ _ 1 (.slice A' pb.length c') pb.length (secC pb)
              rw [HPL.out]; exact HO3.out) ((KeepL.set _ _ _ _).trans (KeepL.set _ _ _ _)) (by
              have := (HR3.out.set 3 (.int .i64 (pa : Int))).set 5 (.slice A' (z - 6) c')
              unfold recC
              dsimp only
              rw [HPL.out]
              exact this))
          generalize (w3.setCell ⟨g + 2, 3, none⟩ (.int .i64 (pa : Int))).setCell ⟨g + 2, 5, none⟩ (.slice A' (z - 6) c') = w4 at HB4 ⊢
          have HBZ4 := Lib.hid HB4.out.bs
          have c43 : w4.cell? ⟨g + 2, 3, none⟩ = some (.int .i64 (pa : Int)) := by rw [HB4.out.rb.cell]; rfl
          have c45 : w4.cell? ⟨g + 2, 5, none⟩ = some (.slice A' (z - 6) c') := by rw [HB4.out.rb.cell]; unfold recC; dsimp only; rw [HPL.out]; rfl
          have HPD := Lib.hid (padded_any A' (z - 6) c' (min pa 320) pb w4 (by omega) (by omega) HPX.out (by
              have := HB4.out.ow
              dsimp only at this
              rw [HPL.out] at this
              exact Rd.own this))
          clear f3 f5 c3' c5' HR3 HO3 HCL HGA HDR
          by_cases a1 : pa < 1
          · have a1i : (pa : Int) < 1 := by omega
            have HZW := Lib.hid HBZ4.out.z
            go_wp2_with (refine wpList_plain rfl fun _ hK => wp_store_row 115 _ _ rfl (g + 1) (recC rc0 none 0) rfl rfl _ _ HZW.out HRI.out rfl (recC_all _ _ _) (hK _ _ ?_))
            refine bodyPost_ret (a := Act.mk _ _) (results_rec rfl _ _ (g + 1) _ rc0 none 0 rfl (HZW.out.put _)) rfl ?_
            exact BX.no (r := rc0) (A := none) (c := 0) (bear_none (by rw [HM1.out, if_pos (.inr (.inl a1))])) HBZ4.out HG.out
          have a1i : ¬ (pa : Int) < 1 := by omega
          by_cases a2 : 512 < pa
          · have a2i : (512 : Int) < (pa : Int) := by omega
            have HZW := Lib.hid HBZ4.out.z
            go_wp2_with (refine wpList_plain rfl fun _ hK => wp_store_row 115 _ _ rfl (g + 1) (recC rc0 none 0) rfl rfl _ _ HZW.out HRI.out rfl (recC_all _ _ _) (hK _ _ ?_))
            refine bodyPost_ret (a := Act.mk _ _) (results_rec rfl _ _ (g + 1) _ rc0 none 0 rfl (HZW.out.put _)) rfl ?_
            exact BX.no (r := rc0) (A := none) (c := 0) (bear_none (by rw [HM1.out, if_pos (.inr (.inr (.inl a2)))])) HBZ4.out HG.out
          have a2i : ¬ (512 : Int) < (pa : Int) := by omega
          have HFR := Lib.hid (fun W (h : Below w4.heap.size w4 W) => (HB4.out.far HG.out h))
          have hmn : ((min pa 320 : Nat) : Int) = min (pa : Int) 320 := by omega
          rw [hmn] at HPD
          clear hmn
          cases hu : unpB pb (min pa 320) with
          | none =>
            rw [hu] at HPD
            have HU := Lib.hid hu
            clear hu
            go_wp2_with fail
            refine HPD.out.mono ?_
            rintro e w5 ⟨rfl, hb5⟩
            have HB5 := Lib.hid (HFR.out _ hb5).bs
            clear hb5
            have HZW := Lib.hid HB5.out.z
            go_wp2_with (refine wpList_plain rfl fun _ hK => wp_store_row 115 _ _ rfl (g + 1) (recC rc0 none 0) rfl rfl _ _ HZW.out HRI.out rfl (recC_all _ _ _) (hK _ _ ?_))
            refine bodyPost_ret (a := Act.mk _ _) (results_rec rfl _ _ (g + 1) _ rc0 none 0 rfl (HZW.out.put _)) rfl ?_
            exact BX.no (r := rc0) (A := none) (c := 0) (bear_none (by rw [HM1.out, if_pos (.inr (.inr (.inr (by rw [HU.out]; rfl))))])) HB5.out HG.out
          | some ub =>
            rw [hu] at HPD
            have HU := Lib.hid hu
            clear hu
            go_wp2_with fail
            refine HPD.out.mono ?_
            rintro e w5 ⟨rfl, hb5⟩
            have HB5 := Lib.hid (HFR.out _ hb5)
            clear hb5
            go_wp2_with fail
            go_meet
            exact ⟨_, A', c', by rw [HM1.out, if_neg (by rw [HU.out]; simp; omega)], rfl, rfl, HB5.out⟩

        by_cases k2 : kd = 2
        · as_aux_lemma =>
          subst k2
          have HM1 := Lib.hid (HMID.out.trans ((if_neg k1).trans (if_pos rfl)))
          clear HMID
          have e1 : ((2 : Int) == 1) = false := rfl
          by_cases hz1 : z < 1
          · have hz1i : (z : Int) < 1 := by omega
            have HZW := Lib.hid HB2.out.z
            go_wp2_with (refine wpList_plain rfl fun _ hK => wp_store_row 115 _ _ rfl (g + 1) (recC rc0 none 0) rfl rfl _ _ HZW.out HRI.out rfl (recC_all _ _ _) (hK _ _ ?_))
            refine bodyPost_ret (a := Act.mk _ _) (results_rec rfl _ _ (g + 1) _ rc0 none 0 rfl (HZW.out.put _)) rfl ?_
            exact BX.no (r := rc0) (A := none) (c := 0) (bear_none (by rw [HM1.out, if_pos (.inl hz1)])) HB2.out HG.out
          have hz1i : ¬ (z : Int) < 1 := by omega
          by_cases hz24 : 24 < z
          · have hz2i : (24 : Int) < (z : Int) := by omega
            have HZW := Lib.hid HB2.out.z
            go_wp2_with (refine wpList_plain rfl fun _ hK => wp_store_row 115 _ _ rfl (g + 1) (recC rc0 none 0) rfl rfl _ _ HZW.out HRI.out rfl (recC_all _ _ _) (hK _ _ ?_))
            refine bodyPost_ret (a := Act.mk _ _) (results_rec rfl _ _ (g + 1) _ rc0 none 0 rfl (HZW.out.put _)) rfl ?_
            exact BX.no (r := rc0) (A := none) (c := 0) (bear_none (by rw [HM1.out, if_pos (.inr hz24)])) HB2.out HG.out
          have hz2i : ¬ (24 : Int) < (z : Int) := by omega
          have hr2 := HBX.out.bs.s.part 10 z (by rw [HS.out.1]; omega)
          have HCL := Lib.hid (clone_b8 _ z 54 _ w2 (by omega) hr2)
          have HPL : Hid ((pS s).length = z) := Lib.hid (by rw [HP.out]; exact partS_len HS.out _ _ (by omega))
          rw [← HP.out] at HCL
          generalize pS s = pb at HCL HPL HM1
          have HRB := Lib.hid HBX.out.rb
          clear hr2 HRS
          go_wp2_with (refine HCL.out.mono ?_; rintro e w3 ⟨A', c', rfl, hc3, ho3, hb3⟩; have HO3 := Lib.hid ho3; have HB3 := Lib.hid hb3; have HR3 := Lib.hid (HRB.out.past hb3 HRB.out.lt); have f5 := HR3.out.froz 5; have c5' : w3.cell? ⟨g + 2, 5, none⟩ = some (.slice none 0 0) := HR3.out.cell 5; clear ho3 hb3)
          go_meet
          exact ⟨_, A', c', by rw [HM1.out, if_neg (by omega)], rfl, rfl, HBX.out.bits HG.out HB3.out (by
            show w3.ownsRow _ _ 1 (.slice A' pb.length c') pb.length (secC pb)
            rw [HPL.out]; exact HO3.out) (KeepL.set _ _ _ _) (by
            have := HR3.out.set 5 (.slice A' z c')
            unfold recC
            dsimp only
            rw [HPL.out]
            exact this)⟩
        by_cases k3 : kd = 3
        · as_aux_lemma =>
          subst k3
          have HM1 := Lib.hid (HMID.out.trans ((if_neg k1).trans ((if_neg k2).trans (if_pos rfl))))
          clear HMID
          have e1 : ((3 : Int) == 1) = false := rfl
          have e2 : ((3 : Int) == 2) = false := rfl
          by_cases hz8 : z ≠ 8
          · have hz8i : ((z : Int) != 8) = true := by simp; omega
            have HZW := Lib.hid HB2.out.z
            go_wp2_with (refine wpList_plain rfl fun _ hK => wp_store_row 115 _ _ rfl (g + 1) (recC rc0 none 0) rfl rfl _ _ HZW.out HRI.out rfl (recC_all _ _ _) (hK _ _ ?_))
            refine bodyPost_ret (a := Act.mk _ _) (results_rec rfl _ _ (g + 1) _ rc0 none 0 rfl (HZW.out.put _)) rfl ?_
            exact BX.no (r := rc0) (A := none) (c := 0) (bear_none (by rw [HM1.out, if_pos hz8])) HB2.out HG.out
          obtain rfl : z = 8 := by omega
          have hr1 := HRS.out 4 2 (by omega)
          have hr2 := HRS.out 6 2 (by omega)
          have HGA := Lib.hid (get_any _ 2 50 _ _ (by omega) (partS_lt HS.out _ _) hr1)
          have HGB := Lib.hid (get_any _ 2 48 _ _ (by omega) (partS_lt HS.out _ _) hr2)
          have HPA : Hid (beV (partS (pS s) 4 6) = beV (partS s 14 16)) := Lib.hid (by rw [HP.out, partS_part _ _ _ _ (by omega)])
          have HPB : Hid (beV (partS (pS s) 6 8) = beV (partS s 16 18)) := Lib.hid (by rw [HP.out, partS_part _ _ _ _ (by omega)])
          rw [HPA.out, HPB.out] at HM1
          simp only [Nat.reduceAdd] at HGA HGB
          generalize beV (partS s 14 16) = pa at HGA HM1
          generalize beV (partS s 16 18) = pb at HGB HM1
          have HRD := Lib.hid HDR.out.rb
          have c3 : w2.cell? ⟨g + 2, 3, none⟩ = some (.int .i64 0) := HBX.out.rb.cell 3
          have c4 : w2.cell? ⟨g + 2, 4, none⟩ = some (.int .i64 0) := HBX.out.rb.cell 4
          have f3 := HBX.out.rb.froz 3
          have f4 := HBX.out.rb.froz 4
          clear hr1 hr2 HPA HPB HRS
          go_upto_region 23 with fail
          refine wp_region_held_drew (S := (fun _ => True)) (by kernel_rfl) ?_ (fun hHeld => ?_)
          · (try dsimp only); all_goals trivial
          refine wpAnyH_take (i := 0) (oi := ⟨some 83, _, _, _, _, _⟩) (v := ?_) rfl (by kernel_rfl) (by kernel_rfl) (by kernel_rfl) (fun _ _ _ h => h) (Or.inl ⟨by rfl, ?_⟩) (by assumption) ?_; rotate_left
          · intro w hSw; (try dsimp only at hSw); go_simp; try with_reducible rfl
          try simp only [Act.put, setIfInBounds_toArray, set_cons_zero, set_cons_succ]
          refine wpAnyH_take (i := 1) (oi := ⟨some 84, _, _, _, _, _⟩) (v := ?_) rfl (by kernel_rfl) (by kernel_rfl) (by kernel_rfl) (fun _ _ _ h => h) (Or.inl ⟨by rfl, ?_⟩) (by assumption) ?_; rotate_left
          · intro w hSw; (try dsimp only at hSw); go_simp; try with_reducible rfl
          try simp only [Act.put, setIfInBounds_toArray, set_cons_zero, set_cons_succ]
          refine wpAnyH_take (i := 3) (oi := ⟨some 86, _, _, _, _, _⟩) (v := ?_) rfl (by kernel_rfl) (by kernel_rfl) (by kernel_rfl) (fun _ _ _ h => h) (Or.inl ⟨by rfl, ?_⟩) (by assumption) ?_; rotate_left
          · intro w hSw; (try dsimp only at hSw); go_simp; try with_reducible rfl
          try simp only [Act.put, setIfInBounds_toArray, set_cons_zero, set_cons_succ]
          refine wpAnyH_take (i := 4) (oi := ⟨some 87, _, _, _, _, _⟩) (v := ?_) rfl (by kernel_rfl) (by kernel_rfl) (by kernel_rfl) (fun _ _ _ h => h) (Or.inl ⟨by rfl, ?_⟩) (by assumption) ?_; rotate_left
          · intro w hSw; (try dsimp only at hSw); go_simp; try with_reducible rfl
          try simp only [Act.put, setIfInBounds_toArray, set_cons_zero, set_cons_succ]
          refine wpAnyH_ready (rs := [2]) (by kernel_rfl) (by simp) ?_
          refine AllReadyH.cons (o := ⟨some 85, _, _, _, _, _⟩) rfl (fun K hK => ?_) AllReadyH.nil
          go_simp
          refine HGA.out.mono ?_
          rintro e' w' ⟨rfl, rfl⟩
          go_wp2_with fail
          refine hK.out _ _ ?_ (fun hHeld => ?_)
          · (try dsimp only); all_goals trivial
          clear hK K
          try simp only [Act.put, setIfInBounds_toArray, set_cons_zero, set_cons_succ]
          refine wpAnyH_take (i := 6) (oi := ⟨some 89, _, _, _, _, _⟩) (v := ?_) rfl (by kernel_rfl) (by kernel_rfl) (by kernel_rfl) (fun _ _ _ h => h) (Or.inl ⟨by rfl, ?_⟩) (by assumption) ?_; rotate_left
          · intro w hSw; (try dsimp only at hSw); go_simp; try with_reducible rfl
          try simp only [Act.put, setIfInBounds_toArray, set_cons_zero, set_cons_succ]
          refine wpAnyH_ready (rs := [5]) (by kernel_rfl) (by simp) ?_
          refine AllReadyH.cons (o := ⟨some 88, _, _, _, _, _⟩) rfl (fun K hK => ?_) AllReadyH.nil
          go_simp
          refine HGB.out.mono ?_
          rintro e' w' ⟨rfl, rfl⟩
          go_wp2_with fail
          refine hK.out _ _ ?_ (fun hHeld => ?_)
          · (try dsimp only); all_goals trivial
          clear hK K
          try simp only [Act.put, setIfInBounds_toArray, set_cons_zero, set_cons_succ]
          refine wpAnyH_ready (rs := [7]) (by kernel_rfl) (by simp) ?_
          refine AllReadyH.cons (o := ⟨none, _, _, _, _, _⟩) rfl (fun K hK => ?_) AllReadyH.nil
          go_simp
          refine hK.out _ _ ?_ (fun hHeld => ?_)
          · (try dsimp only); all_goals trivial
          clear hK K
          try simp only [Act.put]
          refine wpAnyH_take (i := 8) (oi := ⟨some 90, _, _, _, _, _⟩) (v := ?_) rfl (by kernel_rfl) (by kernel_rfl) (by kernel_rfl) (fun _ _ _ h => h) (Or.inl ⟨by rfl, ?_⟩) (by assumption) ?_; rotate_left
          · intro w hSw; (try dsimp only at hSw); go_simp; try with_reducible rfl
          try simp only [Act.put, setIfInBounds_toArray, set_cons_zero, set_cons_succ]
          refine wpAnyH_ready (rs := [9]) (by kernel_rfl) (by simp) ?_
          refine AllReadyH.cons (o := ⟨none, _, _, _, _, _⟩) rfl (fun K hK => ?_) AllReadyH.nil
          go_simp
          refine hK.out _ _ ?_ (fun hHeld => ?_)
          · (try dsimp only); all_goals trivial
          clear hK K
          try simp only [Act.put]
          refine wpAnyH_done (by kernel_rfl) ?_ _
          go_wp2_with fail
          go_meet
          refine ⟨⟨ep, 3, 0, pa, pb, []⟩, none, 0, by rw [HM1.out, if_neg (by omega)], rfl, rfl, ?_⟩
          exact HDR.out.cells (r' := ⟨ep, 3, 0, pa, pb, []⟩) HG.out rfl ((KeepL.set _ _ _ _).trans (KeepL.set _ _ _ _)) ((HRD.out.set 3 (.int .i64 (pa : Int))).set 4 (.int .i64 (pb : Int)))
        by_cases k5 : kd = 5
        · as_aux_lemma =>
          subst k5
          have HM1 := Lib.hid (HMID.out.trans ((if_neg k1).trans ((if_neg k2).trans ((if_neg k3).trans (if_pos rfl)))))
          clear HMID
          have e1 : ((5 : Int) == 1) = false := rfl
          have e2 : ((5 : Int) == 2) = false := rfl
          have e3 : ((5 : Int) == 3) = false := rfl
          by_cases hz8 : z ≠ 5
          · have hz8i : ((z : Int) != 5) = true := by simp; omega
            have HZW := Lib.hid HB2.out.z
            go_wp2_with (refine wpList_plain rfl fun _ hK => wp_store_row 115 _ _ rfl (g + 1) (recC rc0 none 0) rfl rfl _ _ HZW.out HRI.out rfl (recC_all _ _ _) (hK _ _ ?_))
            refine bodyPost_ret (a := Act.mk _ _) (results_rec rfl _ _ (g + 1) _ rc0 none 0 rfl (HZW.out.put _)) rfl ?_
            exact BX.no (r := rc0) (A := none) (c := 0) (bear_none (by rw [HM1.out, if_pos (.inl hz8)])) HB2.out HG.out
          obtain rfl : z = 5 := by omega
          have c14 := HBX.out.bs.cell HS.out 14 (by omega)
          have HPA : Hid ((pS s).getD 4 0 = s.getD 14 0) := Lib.hid (by rw [HP.out, partS_get _ _ _ (by omega) (by rw [HS.out.1]; omega)])
          rw [HPA.out] at HM1
          have hpa := sec_lt HS.out 14
          generalize s.getD 14 0 = pa at c14 HM1 hpa
          have HRD := Lib.hid HBX.out.rb
          have c3 : w2.cell? ⟨g + 2, 3, none⟩ = some (.int .i64 0) := HRD.out.cell 3
          have f3 := HRD.out.froz 3
          have hwk : IntKind.i64.wrap (pa : Int) = (pa : Int) := i64_small pa (by omega)
          clear HPA HRS
          by_cases ha1 : 1 < pa
          · have ha1i : (1 : Int) < (pa : Int) := by omega
            have HZW := Lib.hid HB2.out.z
            go_wp2_with (refine wpList_plain rfl fun _ hK => wp_store_row 115 _ _ rfl (g + 1) (recC rc0 none 0) rfl rfl _ _ HZW.out HRI.out rfl (recC_all _ _ _) (hK _ _ ?_))
            refine bodyPost_ret (a := Act.mk _ _) (results_rec rfl _ _ (g + 1) _ rc0 none 0 rfl (HZW.out.put _)) rfl ?_
            exact BX.no (r := rc0) (A := none) (c := 0) (bear_none (by rw [HM1.out, if_pos (.inr ha1)])) HB2.out HG.out
          have ha1i : ¬ (1 : Int) < (pa : Int) := by omega
          go_wp2_with fail
          go_meet
          exact ⟨⟨ep, 5, 0, pa, 0, []⟩, none, 0, by rw [HM1.out, if_neg (by omega)], rfl, rfl, HBX.out.cells (r' := ⟨ep, 5, 0, pa, 0, []⟩) HG.out rfl (KeepL.set _ _ _ _) (HRD.out.set 3 (.int .i64 (pa : Int)))⟩
        have HM1 := Lib.hid (HMID.out.trans ((if_neg k1).trans ((if_neg k2).trans ((if_neg k3).trans (if_neg k5)))))
        have e1 : ((kd : Int) == 1) = false := by simp; omega
        have e2 : ((kd : Int) == 2) = false := by simp; omega
        have e3 : ((kd : Int) == 3) = false := by simp; omega
        have e5 : ((kd : Int) == 5) = false := by simp; omega
        go_wp2_with fail
        go_meet
        exact ⟨_, none, 0, by rw [HM1.out], rfl, by rw [if_neg k5], HBX.out⟩
      case rest => as_aux_lemma =>
        obtain ⟨w3, rfl⟩ : ∃ z : World, z = wc := ⟨_, rfl⟩
        clear HBX
        obtain ⟨r, A, c, hm, hrk, rfl, hbx⟩ := hcut
        have HBX := Lib.hid hbx; have HM := Lib.hid hm
        have HBE : Hid (bearsR s n = if fineR s n (endR s r) then some (endR s r) else none) := Lib.hid (by rw [bearsR_mid, hm]; rfl)
        obtain ⟨hok, _, hz4, hz46⟩ := mid_ok HS.out hm
        have HOK := Lib.hid hok
        have hEN : ∀ r : Rc, endR s r = if r.kind = 2 then r else { r with id := beV ((pS s).take 4) } := fun r => rfl
        have HEN := Lib.hid (hEN r)
        obtain ⟨q, hq⟩ : ∃ q, q = endR s r := ⟨_, rfl⟩
        rw [← hq] at HBE HOK HEN
        have hqk : q.kind = kd := by rw [HEN.out]; split <;> exact hrk
        have HQK := Lib.hid hqk
        have hP : pS s = partS s 10 (10 + z) := by unfold pS; rw [← HZ.out]
        rw [hrk] at hz4 HEN
        rw [← HZ.out] at hz4 hz46
        have ck : w3.cell? ⟨g + 2, 1, none⟩ = some (.int .i64 (kd : Int)) := by rw [HBX.out.rb.cell, ← hrk]; rfl
        have hr1 := HBX.out.bs.s.part 10 4 (by rw [HS.out.1]; omega)
        have HGA := Lib.hid (get_any _ 4 54 _ _ (by omega) (partS_lt HS.out _ _) hr1)
        have HPI : Hid (kd ≠ 2 → beV ((pS s).take 4) = beV (partS s 10 (10 + 4))) := Lib.hid fun hk => by
          have := partS_part s z 0 4 (hz4 hk)
          rw [hP, show (partS s 10 (10 + z)).take 4 = partS (partS s 10 (10 + z)) 0 4 by rfl, this]
        have hpi : beV (partS s 10 (10 + 4)) < 4294967296 := beV4 (partS_lt HS.out _ _) (by rw [partS_len HS.out _ _ (by omega)]; omega)
        generalize beV ((pS s).take 4) = pid' at HPI HEN
        generalize beV (partS s 10 (10 + 4)) = pid at HGA hpi HPI
        obtain ⟨ls, hls⟩ : ∃ l : Int, l = if kd = 5 then 0 else 1 := ⟨_, rfl⟩
        have hls1 : (kd = 5 ∧ ls = 0) ∨ (kd ≠ 5 ∧ ls = 1) := by rw [hls]; split <;> omega
        rw [← hls]
        clear hbx hm hok hEN hq hls hP hr1 HF HKD HK0 HEP HEPE HZ hqk
        go_upto_if 109 with fail
        go_cut [5] from 107 to 123 (fun _ wc => (kd = 2 ∨ ((1 ≤ q.id ∨ kd = 5) ∧ q.id ≤ 2147483647)) ∧ BX g s w q A c wc)
        case first => as_aux_lemma =>
          by_cases k2 : kd = 2
          · have e1 : ((kd : Int) != 2) = false := by simp; omega
            rw [if_pos k2] at HEN
            go_wp2_with fail
            go_meet
            exact ⟨.inl k2, by rw [HEN.out]; exact HBX.out⟩
          · have e1 : ((kd : Int) != 2) = true := by simp; omega
            rw [if_neg k2, HPI.out k2] at HEN
            have HRB := Lib.hid HBX.out.rb
            have c2 : w3.cell? ⟨g + 2, 2, none⟩ = some (.int .i64 (r.id : Int)) := HBX.out.rb.cell 2
            have f2 := HBX.out.rb.froz 2
            clear HPI
            have HB4 : Hid (BX g s w q A c (w3.setCell ⟨g + 2, 2, none⟩ (.int .i64 (pid : Int)))) := Lib.hid (HBX.out.cells HG.out (by rw [HEN.out]) (KeepL.set _ _ _ _) (by rw [HEN.out, ← hrk]; exact HRB.out.set 2 (.int .i64 (pid : Int))))
            have hid : q.id = pid := by rw [HEN.out]
            have HBN : Hid (¬ ((1 ≤ q.id ∨ kd = 5) ∧ q.id ≤ 2147483647) → bearsR s n = none) := Lib.hid fun h => by
              rw [HBE.out, if_neg]
              rintro ⟨h1, _⟩
              rw [HQK.out] at h1
              rcases h1 with h1 | h1
              · exact k2 h1
              · exact h h1
            go_upto_region 31 with (refine HGA.out.mono ?_; rintro e' w' ⟨rfl, rfl⟩)
            generalize w3.setCell ⟨g + 2, 2, none⟩ (.int .i64 (pid : Int)) = w4 at HB4 ⊢
            have HBZ4 := Lib.hid HB4.out.bs
            have c42 : w4.cell? ⟨g + 2, 2, none⟩ = some (.int .i64 (pid : Int)) := by rw [HB4.out.rb.cell, ← hid]; rfl
            clear c2 f2 HGA HRB
            by_cases a1 : (pid : Int) < ls
            · skip
              have HZW := Lib.hid HBZ4.out.z
              go_wp2_with (refine wpList_plain rfl fun _ hK => wp_store_row 115 _ _ rfl (g + 1) (recC rc0 none 0) rfl rfl _ _ HZW.out HRI.out rfl (recC_all _ _ _) (hK _ _ ?_))
              refine bodyPost_ret (a := Act.mk _ _) (results_rec rfl _ _ (g + 1) _ rc0 none 0 rfl (HZW.out.put _)) rfl ?_
              exact BX.no (r := rc0) (A := none) (c := 0) (HBN.out (by omega)) HBZ4.out HG.out
            by_cases a2 : 2147483647 < pid
            · have a2i : (2147483647 : Int) < (pid : Int) := by omega
              have HZW := Lib.hid HBZ4.out.z
              go_wp2_with (refine wpList_plain rfl fun _ hK => wp_store_row 115 _ _ rfl (g + 1) (recC rc0 none 0) rfl rfl _ _ HZW.out HRI.out rfl (recC_all _ _ _) (hK _ _ ?_))
              refine bodyPost_ret (a := Act.mk _ _) (results_rec rfl _ _ (g + 1) _ rc0 none 0 rfl (HZW.out.put _)) rfl ?_
              exact BX.no (r := rc0) (A := none) (c := 0) (HBN.out (by omega)) HBZ4.out HG.out
            have a2i : ¬ (2147483647 : Int) < (pid : Int) := by omega
            go_wp2_with fail
            go_meet
            exact ⟨.inr ⟨by omega, by omega⟩, HB4.out⟩
        case rest => as_aux_lemma =>
          obtain ⟨w4, rfl⟩ : ∃ z : World, z = wc := ⟨_, rfl⟩
          obtain ⟨hfi, hbx⟩ := hcut
          have HFI := Lib.hid hfi; have HB4 := Lib.hid hbx
          clear hfi hbx HPI HGA HEN ck HBX
          have HRB := Lib.hid HB4.out.rb; have HSB := Lib.hid HB4.out.bs.s; have HZB := Lib.hid HB4.out.bs.z
          have ck : w4.cell? ⟨g + 2, 1, none⟩ = some (.int .i64 (kd : Int)) := by rw [HRB.out.cell, ← HQK.out]; rfl
          have ce : w4.cell? ⟨g + 2, 0, none⟩ = some (.int .i64 (q.epoch : Int)) := by rw [HRB.out.cell]; rfl
          have HNO : Hid (¬ (1 ≤ kd ∧ kd ≤ 5 ∧ 1 ≤ q.epoch) → bearsR s n = none) := Lib.hid fun h => by
            rw [HBE.out, if_neg]
            rintro ⟨_, h1, h2, h3, _⟩
            rw [HQK.out] at h1 h2
            exact h ⟨h1, h2, h3⟩
          have HYES : Hid (1 ≤ kd ∧ kd ≤ 5 ∧ 1 ≤ q.epoch → bearsR s n = if secR q n = s then some q else none) := Lib.hid fun h => by
            rw [HBE.out]
            by_cases hs : secR q n = s
            · rw [if_pos hs, if_pos]
              refine ⟨?_, by rw [HQK.out]; exact h.1, by rw [HQK.out]; exact h.2.1, h.2.2, hs⟩
              rw [HQK.out]
              exact HFI.out
            · rw [if_neg hs, if_neg]
              rintro ⟨_, _, _, _, h⟩
              exact hs h
          obtain ⟨bq, hbq⟩ : ∃ b, b = decide (secR q n = s) := ⟨_, rfl⟩
          have hse := fun W => sec_eq (secR q n) s (secR_ok q n HOK.out.bits).1 HS.out.1 W
          simp only [← hbq] at hse
          have HBQ := Lib.hid hbq
          have HSEC : Hid (Calls Tryz.prog 95 #[recV q A c, .int .i64 (n : Int)] w4.drew (RetV (secV (secR q n)) w4.drew)) := Lib.hid (sector_any q A c _ n w4.drew HOK.out (by omega) (Nat.le_refl _) (Rd.own (HB4.out.far HG.out (below_drew8 _ _)).ow))
          have HS4 : Hid (w4.cell? ⟨g + 2, 1, none⟩ = some (.int .i64 (kd : Int)) ∧ w4.cell? ⟨g + 2, 0, none⟩ = some (.int .i64 (q.epoch : Int)) ∧ Bk w4 (g + 2) (recC q A c) 115 ∧ Bk w4 g (secC s).toArray 101) := Lib.hid ⟨ck, ce, HRB.out, HSB.out⟩
          have HIS := Lib.hid (sec_info s HS.out.1)
          have HBD : Hid (BX g s w q A c w4.drew) := Lib.hid (HB4.out.far HG.out (below_drew8 _ _))
          have HZBD := Lib.hid HBD.out.bs.z
          clear hbq HBE HM HFI
          obtain ⟨ep2, hep⟩ : ∃ e, e = q.epoch := ⟨_, rfl⟩
          rw [← hep] at ce HS4 HNO HYES
          have HEP2 := Lib.hid hep
          clear hep
          unfold secV at HSEC
          go_upto_region 33 with fail
          clear ck ce
          by_cases g1 : 1 ≤ kd
          · have g1i : (1 : Int) ≤ (kd : Int) := by omega
            by_cases g2 : kd ≤ 5
            · have g2i : (kd : Int) ≤ 5 := by omega
              by_cases g3 : 1 ≤ ep2
              · have g3i : (1 : Int) ≤ (ep2 : Int) := by omega
                have HY := Lib.hid (HYES.out ⟨g1, g2, g3⟩)
                clear HYES HNO
                refine wp_region_held_drew (S := (fun W => W.cell? ⟨g + 2, 1, none⟩ = some (.int .i64 (kd : Int)) ∧ W.cell? ⟨g + 2, 0, none⟩ = some (.int .i64 (ep2 : Int)) ∧ Bk W (g + 2) (recC q A c) 115 ∧ Bk W g (secC s).toArray 101)) (by kernel_rfl) ?_ (fun hHeld => ?_)
                · (try dsimp only); first | exact HS4.out | exact HS5.out | exact HS6.out
                refine wpAnyH_take (i := 0) (oi := ⟨some 124, _, _, _, _, _⟩) (v := recV q A c) rfl (by kernel_rfl) (by kernel_rfl) (by kernel_rfl) (fun _ _ _ h => h) (Or.inl ⟨by rfl, ?_⟩) (by assumption) ?_
                · (intro w hSw; (try dsimp only at hSw); exact run_load_rec _ rfl (g + 2) rfl q A c hSw.2.2.1)
                try simp only [Act.put, setIfInBounds_toArray, set_cons_zero, set_cons_succ]
                refine wpAnyH_take (i := 1) (oi := ⟨some 125, _, _, _, _, _⟩) (v := ?_) rfl (by kernel_rfl) (by kernel_rfl) (by kernel_rfl) (fun _ _ _ h => h) (Or.inl ⟨by rfl, ?_⟩) (by assumption) ?_; rotate_left
                · intro w hSw; (try dsimp only at hSw); go_simp; try with_reducible rfl
                try simp only [Act.put, setIfInBounds_toArray, set_cons_zero, set_cons_succ]
                refine wpAnyH_take (i := 2) (oi := ⟨some 126, _, _, _, _, _⟩) (v := ?_) rfl (by kernel_rfl) (by kernel_rfl) (by kernel_rfl) (fun _ _ _ h => h) (Or.inl ⟨by rfl, ?_⟩) (by assumption) ?_; rotate_left
                · intro w hSw; (try dsimp only at hSw); go_simp; try with_reducible rfl
                try simp only [Act.put, setIfInBounds_toArray, set_cons_zero, set_cons_succ]
                refine wpAnyH_take (i := 3) (oi := ⟨some 127, _, _, _, _, _⟩) (v := ?_) rfl (by kernel_rfl) (by kernel_rfl) (by kernel_rfl) (fun _ _ _ h => h) (Or.inl ⟨by rfl, ?_⟩) (by assumption) ?_; rotate_left
                · intro w hSw; (try dsimp only at hSw); go_simp; try with_reducible rfl
                try simp only [Act.put, setIfInBounds_toArray, set_cons_zero, set_cons_succ]
                refine wpAnyH_take (i := 4) (oi := ⟨some 128, _, _, _, _, _⟩) (v := ?_) rfl (by kernel_rfl) (by kernel_rfl) (by kernel_rfl) (fun _ _ _ h => h) (Or.inl ⟨by rfl, ?_⟩) (by assumption) ?_; rotate_left
                · intro w hSw; (try dsimp only at hSw); go_simp; try with_reducible rfl
                try simp only [Act.put, setIfInBounds_toArray, set_cons_zero, set_cons_succ]
                refine wpAnyH_take (i := 5) (oi := ⟨some 129, _, _, _, _, _⟩) (v := ?_) rfl (by kernel_rfl) (by kernel_rfl) (by kernel_rfl) (fun _ _ _ h => h) (Or.inl ⟨by rfl, ?_⟩) (by assumption) ?_; rotate_left
                · intro w hSw; (try dsimp only at hSw); go_simp; try with_reducible rfl
                try simp only [Act.put, setIfInBounds_toArray, set_cons_zero, set_cons_succ]
                refine wpAnyH_take (i := 6) (oi := ⟨some 130, _, _, _, _, _⟩) (v := ?_) rfl (by kernel_rfl) (by kernel_rfl) (by kernel_rfl) (fun _ _ _ h => h) (Or.inl ⟨by rfl, ?_⟩) (by assumption) ?_; rotate_left
                · intro w hSw; (try dsimp only at hSw); go_simp; try with_reducible rfl
                try simp only [Act.put, setIfInBounds_toArray, set_cons_zero, set_cons_succ]
                refine wpAnyH_take (i := 7) (oi := ⟨some 131, _, _, _, _, _⟩) (v := ?_) rfl (by kernel_rfl) (by kernel_rfl) (by kernel_rfl) (fun _ _ _ h => h) (Or.inl ⟨by rfl, ?_⟩) (by assumption) ?_; rotate_left
                · intro w hSw; (try dsimp only at hSw); go_simp; try with_reducible rfl
                try simp only [Act.put, setIfInBounds_toArray, set_cons_zero, set_cons_succ]
                refine wpAnyH_take (i := 8) (oi := ⟨some 132, _, _, _, _, _⟩) (v := ?_) rfl (by kernel_rfl) (by kernel_rfl) (by kernel_rfl) (fun _ _ _ h => h) (Or.inl ⟨by rfl, ?_⟩) (by assumption) ?_; rotate_left
                · intro w hSw; (try dsimp only at hSw); go_simp; try with_reducible rfl
                try simp only [Act.put, setIfInBounds_toArray, set_cons_zero, set_cons_succ]
                refine wpAnyH_take (i := 9) (oi := ⟨some 133, _, _, _, _, _⟩) (v := ?_) rfl (by kernel_rfl) (by kernel_rfl) (by kernel_rfl) (fun _ _ _ h => h) (Or.inl ⟨by rfl, ?_⟩) (by assumption) ?_; rotate_left
                · intro w hSw; (try dsimp only at hSw); go_simp; try with_reducible rfl
                try simp only [Act.put, setIfInBounds_toArray, set_cons_zero, set_cons_succ]
                refine wpAnyH_take (i := 10) (oi := ⟨some 134, _, _, _, _, _⟩) (v := ?_) rfl (by kernel_rfl) (by kernel_rfl) (by kernel_rfl) (fun _ _ _ h => h) (Or.inl ⟨by rfl, ?_⟩) (by assumption) ?_; rotate_left
                · intro w hSw; (try dsimp only at hSw); go_simp; try with_reducible rfl
                try simp only [Act.put, setIfInBounds_toArray, set_cons_zero, set_cons_succ]
                refine wpAnyH_take (i := 11) (oi := ⟨some 135, _, _, _, _, _⟩) (v := ?_) rfl (by kernel_rfl) (by kernel_rfl) (by kernel_rfl) (fun _ _ _ h => h) (Or.inl ⟨by rfl, ?_⟩) (by assumption) ?_; rotate_left
                · intro w hSw; (try dsimp only at hSw); go_simp; try with_reducible rfl
                try simp only [Act.put, setIfInBounds_toArray, set_cons_zero, set_cons_succ]
                refine wpAnyH_take (i := 12) (oi := ⟨some 136, _, _, _, _, _⟩) (v := ?_) rfl (by kernel_rfl) (by kernel_rfl) (by kernel_rfl) (fun _ _ _ h => h) (Or.inl ⟨by rfl, ?_⟩) (by assumption) ?_; rotate_left
                · intro w hSw; (try dsimp only at hSw); go_simp; try with_reducible rfl
                try simp only [Act.put, setIfInBounds_toArray, set_cons_zero, set_cons_succ]
                refine wpAnyH_take (i := 13) (oi := ⟨some 137, _, _, _, _, _⟩) (v := ?_) rfl (by kernel_rfl) (by kernel_rfl) (by kernel_rfl) (fun _ _ _ h => h) (Or.inl ⟨by rfl, ?_⟩) (by assumption) ?_; rotate_left
                · intro w hSw; (try dsimp only at hSw); go_simp; try with_reducible rfl
                try simp only [Act.put, setIfInBounds_toArray, set_cons_zero, set_cons_succ]
                refine wpAnyH_take (i := 14) (oi := ⟨some 138, _, _, _, _, _⟩) (v := ?_) rfl (by kernel_rfl) (by kernel_rfl) (by kernel_rfl) (fun _ _ _ h => h) (Or.inl ⟨by rfl, ?_⟩) (by assumption) ?_; rotate_left
                · intro w hSw; (try dsimp only at hSw); go_simp; try with_reducible rfl
                try simp only [Act.put, setIfInBounds_toArray, set_cons_zero, set_cons_succ]
                refine wpAnyH_take (i := 15) (oi := ⟨some 139, _, _, _, _, _⟩) (v := recV q A c) rfl (by kernel_rfl) (by kernel_rfl) (by kernel_rfl) (fun _ _ _ h => h) (Or.inl ⟨by rfl, ?_⟩) (by assumption) ?_
                · (intro w hSw; (try dsimp only at hSw); exact run_load_rec _ rfl (g + 2) rfl q A c hSw.2.2.1)
                try simp only [Act.put, setIfInBounds_toArray, set_cons_zero, set_cons_succ]
                refine wpAnyH_take (i := 16) (oi := ⟨some 140, _, _, _, _, _⟩) (v := ?_) rfl (by kernel_rfl) (by kernel_rfl) (by kernel_rfl) (fun _ _ _ h => h) (Or.inl ⟨by rfl, ?_⟩) (by assumption) ?_; rotate_left
                · intro w hSw; (try dsimp only at hSw); go_simp; try with_reducible rfl
                try simp only [Act.put, setIfInBounds_toArray, set_cons_zero, set_cons_succ]
                refine wpAnyH_take (i := 18) (oi := ⟨some 142, _, _, _, _, _⟩) (v := .agg (secC s).toArray) rfl (by kernel_rfl) (by kernel_rfl) (by kernel_rfl) (fun _ _ _ h => h) (Or.inl ⟨by rfl, ?_⟩) (by assumption) ?_
                · (intro w hSw; (try dsimp only at hSw); exact run_load_sec _ rfl g 0 rfl s hSw.2.2.2.range HS.out.1)
                try simp only [Act.put, setIfInBounds_toArray, set_cons_zero, set_cons_succ]
                refine wpAnyH_ready (rs := [17]) (by kernel_rfl) (by simp) ?_
                refine AllReadyH.cons (o := ⟨some 141, _, _, _, _, _⟩) rfl (fun K hK => ?_) AllReadyH.nil
                go_simp
                refine HSEC.out.mono ?_
                rintro e' w5 ⟨rfl, hb5⟩
                have HB5 := Lib.hid (HB4.out.far HG.out ((below_drew8 _ _).trans (hb5.mono (Nat.le_refl _))))
                have HZB5 := Lib.hid HB5.out.bs.z
                have HS5 : Hid (w5.cell? ⟨g + 2, 1, none⟩ = some (.int .i64 (kd : Int)) ∧ w5.cell? ⟨g + 2, 0, none⟩ = some (.int .i64 (ep2 : Int)) ∧ Bk w5 (g + 2) (recC q A c) 115 ∧ Bk w5 g (secC s).toArray 101) := Lib.hid ⟨by rw [HB5.out.rb.cell, ← HQK.out]; rfl, by rw [HB5.out.rb.cell, HEP2.out]; rfl, HB5.out.rb, HB5.out.bs.s⟩
                clear hb5
                go_wp2_with fail
                refine hK.out _ _ ?_ (fun hHeld => ?_)
                · (try dsimp only); first | exact HS4.out | exact HS5.out | exact HS6.out
                clear hK K
                try simp only [Act.put, setIfInBounds_toArray, set_cons_zero, set_cons_succ]
                refine wpAnyH_take (i := 19) (oi := ⟨some 143, _, _, _, _, _⟩) (v := ?_) rfl (by kernel_rfl) (by kernel_rfl) (by kernel_rfl) (fun _ _ _ h => h) (Or.inl ⟨by rfl, ?_⟩) (by assumption) ?_; rotate_left
                · intro w hSw; (try dsimp only at hSw); go_simp; try with_reducible rfl
                try simp only [Act.put, setIfInBounds_toArray, set_cons_zero, set_cons_succ]
                refine wpAnyH_take (i := 20) (oi := ⟨some 144, _, _, _, _, _⟩) (v := ?_) rfl (by kernel_rfl) (by kernel_rfl) (by kernel_rfl) (fun _ _ _ h => h) (Or.inl ⟨by rfl, ?_⟩) (by assumption) ?_; rotate_left
                · intro w hSw; (try dsimp only at hSw); go_simp; try with_reducible rfl
                try simp only [Act.put, setIfInBounds_toArray, set_cons_zero, set_cons_succ]
                refine wpAnyH_ready (rs := [21]) (by kernel_rfl) (by simp) ?_
                refine AllReadyH.cons (o := ⟨none, _, _, _, _, _⟩) rfl (fun K hK => ?_) AllReadyH.nil
                refine step_store_bk 115 _ _ rfl rfl (g + 1) (recC q A c) rfl rfl _ _ HZB5.out (recC_info _ _ _) rfl (recC_all _ _ _) ?_
                have HK6 := Lib.hid (keepL_put w5 (g + 1) (recC q A c))
                have HZF := Lib.hid (Bk.put HZB5.out (recC q A c))
                have HB6 := Lib.hid (And.intro (HB5.out.rb.keepL HK6.out (by simp)) (HB5.out.bs.s.keepL HK6.out (by simp)))
                have HS6 : Hid ((w5.setRow (g + 1) (recC q A c)).cell? ⟨g + 2, 1, none⟩ = some (.int .i64 (kd : Int)) ∧ (w5.setRow (g + 1) (recC q A c)).cell? ⟨g + 2, 0, none⟩ = some (.int .i64 (ep2 : Int)) ∧ Bk (w5.setRow (g + 1) (recC q A c)) (g + 2) (recC q A c) 115 ∧ Bk (w5.setRow (g + 1) (recC q A c)) g (secC s).toArray 101) := Lib.hid ⟨by rw [HB6.out.1.cell, ← HQK.out]; rfl, by rw [HB6.out.1.cell, HEP2.out]; rfl, HB6.out.1, HB6.out.2⟩
                have HOWF := Lib.hid (own_put (cs := recC q A c) HG.out HB5.out)
                generalize w5.setRow (g + 1) (recC q A c) = w6 at HZF HS6 HOWF ⊢
                clear HK6 HB6
                refine hK.out _ _ ?_ (fun hHeld => ?_)
                · (try dsimp only); first | exact HS4.out | exact HS5.out | exact HS6.out
                clear hK K
                try simp only [Act.put]
                refine wpAnyH_take (i := 22) (oi := ⟨some 5, _, _, _, _, _⟩) (v := ?_) rfl (by kernel_rfl) (by kernel_rfl) (by kernel_rfl) (fun _ _ _ h => h) (Or.inl ⟨by rfl, ?_⟩) (by assumption) ?_; rotate_left
                · intro w hSw; (try dsimp only at hSw); go_simp; try with_reducible rfl
                try simp only [Act.put, setIfInBounds_toArray, set_cons_zero, set_cons_succ]
                refine wpAnyH_done (by kernel_rfl) ?_ _
                go_wp2_with fail
                refine bodyPost_ret (a := Act.mk _ _) (results_rec rfl _ _ (g + 1) _ q A c rfl (HZF.out)) rfl ?_
                refine ⟨q, A, c, ?_, fun q2 hq2 => ?_, HOWF.out⟩
                · rw [HY.out]
                  show Ending.returned (.tuple #[_, .bool bq]) = _
                  rw [HBQ.out]
                  by_cases hs : secR q n = s
                  · rw [if_pos hs, decide_eq_true hs]; rfl
                  · rw [if_neg hs, decide_eq_false hs]; rfl
                · rw [HY.out] at hq2
                  split at hq2
                  · injection hq2 with hq2; exact hq2.symm
                  · cases hq2
              · have g3i : ¬ (1 : Int) ≤ (ep2 : Int) := by omega
                have HN := Lib.hid (HNO.out (by omega))
                clear HYES HNO
                refine wp_region_held_drew (S := (fun W => W.cell? ⟨g + 2, 1, none⟩ = some (.int .i64 (kd : Int)) ∧ W.cell? ⟨g + 2, 0, none⟩ = some (.int .i64 (ep2 : Int)) ∧ Bk W (g + 2) (recC q A c) 115 ∧ Bk W g (secC s).toArray 101)) (by kernel_rfl) ?_ (fun hHeld => ?_)
                · (try dsimp only); first | exact HS4.out | exact HS5.out | exact HS6.out
                refine wpAnyH_take (i := 0) (oi := ⟨some 124, _, _, _, _, _⟩) (v := recV q A c) rfl (by kernel_rfl) (by kernel_rfl) (by kernel_rfl) (fun _ _ _ h => h) (Or.inl ⟨by rfl, ?_⟩) (by assumption) ?_
                · (intro w hSw; (try dsimp only at hSw); exact run_load_rec _ rfl (g + 2) rfl q A c hSw.2.2.1)
                try simp only [Act.put, setIfInBounds_toArray, set_cons_zero, set_cons_succ]
                refine wpAnyH_take (i := 1) (oi := ⟨some 125, _, _, _, _, _⟩) (v := ?_) rfl (by kernel_rfl) (by kernel_rfl) (by kernel_rfl) (fun _ _ _ h => h) (Or.inl ⟨by rfl, ?_⟩) (by assumption) ?_; rotate_left
                · intro w hSw; (try dsimp only at hSw); go_simp; try with_reducible rfl
                try simp only [Act.put, setIfInBounds_toArray, set_cons_zero, set_cons_succ]
                refine wpAnyH_take (i := 2) (oi := ⟨some 126, _, _, _, _, _⟩) (v := ?_) rfl (by kernel_rfl) (by kernel_rfl) (by kernel_rfl) (fun _ _ _ h => h) (Or.inl ⟨by rfl, ?_⟩) (by assumption) ?_; rotate_left
                · intro w hSw; (try dsimp only at hSw); go_simp; try with_reducible rfl
                try simp only [Act.put, setIfInBounds_toArray, set_cons_zero, set_cons_succ]
                refine wpAnyH_take (i := 3) (oi := ⟨some 127, _, _, _, _, _⟩) (v := ?_) rfl (by kernel_rfl) (by kernel_rfl) (by kernel_rfl) (fun _ _ _ h => h) (Or.inl ⟨by rfl, ?_⟩) (by assumption) ?_; rotate_left
                · intro w hSw; (try dsimp only at hSw); go_simp; try with_reducible rfl
                try simp only [Act.put, setIfInBounds_toArray, set_cons_zero, set_cons_succ]
                refine wpAnyH_take (i := 4) (oi := ⟨some 128, _, _, _, _, _⟩) (v := ?_) rfl (by kernel_rfl) (by kernel_rfl) (by kernel_rfl) (fun _ _ _ h => h) (Or.inl ⟨by rfl, ?_⟩) (by assumption) ?_; rotate_left
                · intro w hSw; (try dsimp only at hSw); go_simp; try with_reducible rfl
                try simp only [Act.put, setIfInBounds_toArray, set_cons_zero, set_cons_succ]
                refine wpAnyH_take (i := 5) (oi := ⟨some 129, _, _, _, _, _⟩) (v := ?_) rfl (by kernel_rfl) (by kernel_rfl) (by kernel_rfl) (fun _ _ _ h => h) (Or.inl ⟨by rfl, ?_⟩) (by assumption) ?_; rotate_left
                · intro w hSw; (try dsimp only at hSw); go_simp; try with_reducible rfl
                try simp only [Act.put, setIfInBounds_toArray, set_cons_zero, set_cons_succ]
                refine wpAnyH_take (i := 6) (oi := ⟨some 130, _, _, _, _, _⟩) (v := ?_) rfl (by kernel_rfl) (by kernel_rfl) (by kernel_rfl) (fun _ _ _ h => h) (Or.inl ⟨by rfl, ?_⟩) (by assumption) ?_; rotate_left
                · intro w hSw; (try dsimp only at hSw); go_simp; try with_reducible rfl
                try simp only [Act.put, setIfInBounds_toArray, set_cons_zero, set_cons_succ]
                refine wpAnyH_take (i := 7) (oi := ⟨some 131, _, _, _, _, _⟩) (v := ?_) rfl (by kernel_rfl) (by kernel_rfl) (by kernel_rfl) (fun _ _ _ h => h) (Or.inl ⟨by rfl, ?_⟩) (by assumption) ?_; rotate_left
                · intro w hSw; (try dsimp only at hSw); go_simp; try with_reducible rfl
                try simp only [Act.put, setIfInBounds_toArray, set_cons_zero, set_cons_succ]
                refine wpAnyH_take (i := 8) (oi := ⟨some 132, _, _, _, _, _⟩) (v := ?_) rfl (by kernel_rfl) (by kernel_rfl) (by kernel_rfl) (fun _ _ _ h => h) (Or.inl ⟨by rfl, ?_⟩) (by assumption) ?_; rotate_left
                · intro w hSw; (try dsimp only at hSw); go_simp; try with_reducible rfl
                try simp only [Act.put, setIfInBounds_toArray, set_cons_zero, set_cons_succ]
                refine wpAnyH_take (i := 9) (oi := ⟨some 133, _, _, _, _, _⟩) (v := ?_) rfl (by kernel_rfl) (by kernel_rfl) (by kernel_rfl) (fun _ _ _ h => h) (Or.inl ⟨by rfl, ?_⟩) (by assumption) ?_; rotate_left
                · intro w hSw; (try dsimp only at hSw); go_simp; try with_reducible rfl
                try simp only [Act.put, setIfInBounds_toArray, set_cons_zero, set_cons_succ]
                refine wpAnyH_take (i := 10) (oi := ⟨some 134, _, _, _, _, _⟩) (v := ?_) rfl (by kernel_rfl) (by kernel_rfl) (by kernel_rfl) (fun _ _ _ h => h) (Or.inl ⟨by rfl, ?_⟩) (by assumption) ?_; rotate_left
                · intro w hSw; (try dsimp only at hSw); go_simp; try with_reducible rfl
                try simp only [Act.put, setIfInBounds_toArray, set_cons_zero, set_cons_succ]
                refine wpAnyH_take (i := 11) (oi := ⟨some 135, _, _, _, _, _⟩) (v := ?_) rfl (by kernel_rfl) (by kernel_rfl) (by kernel_rfl) (fun _ _ _ h => h) (Or.inl ⟨by rfl, ?_⟩) (by assumption) ?_; rotate_left
                · intro w hSw; (try dsimp only at hSw); go_simp; try with_reducible rfl
                try simp only [Act.put, setIfInBounds_toArray, set_cons_zero, set_cons_succ]
                refine wpAnyH_take (i := 12) (oi := ⟨some 136, _, _, _, _, _⟩) (v := ?_) rfl (by kernel_rfl) (by kernel_rfl) (by kernel_rfl) (fun _ _ _ h => h) (Or.inl ⟨by rfl, ?_⟩) (by assumption) ?_; rotate_left
                · intro w hSw; (try dsimp only at hSw); go_simp; try with_reducible rfl
                try simp only [Act.put, setIfInBounds_toArray, set_cons_zero, set_cons_succ]
                refine wpAnyH_take (i := 13) (oi := ⟨some 137, _, _, _, _, _⟩) (v := ?_) rfl (by kernel_rfl) (by kernel_rfl) (by kernel_rfl) (fun _ _ _ h => h) (Or.inl ⟨by rfl, ?_⟩) (by assumption) ?_; rotate_left
                · intro w hSw; (try dsimp only at hSw); go_simp; try with_reducible rfl
                try simp only [Act.put, setIfInBounds_toArray, set_cons_zero, set_cons_succ]
                refine wpAnyH_take (i := 14) (oi := ⟨some 138, _, _, _, _, _⟩) (v := ?_) rfl (by kernel_rfl) (by kernel_rfl) (by kernel_rfl) (fun _ _ _ h => h) (Or.inl ⟨by rfl, ?_⟩) (by assumption) ?_; rotate_left
                · intro w hSw; (try dsimp only at hSw); go_simp; try with_reducible rfl
                try simp only [Act.put, setIfInBounds_toArray, set_cons_zero, set_cons_succ]
                refine wpAnyH_take (i := 15) (oi := ⟨some 139, _, _, _, _, _⟩) (v := undef) rfl (by kernel_rfl) (by kernel_rfl) (by kernel_rfl) (fun _ _ _ h => h) (Or.inr ⟨by rfl, rfl⟩) (by assumption) ?_
                try simp only [Act.put, setIfInBounds_toArray, set_cons_zero, set_cons_succ]
                refine wpAnyH_take (i := 16) (oi := ⟨some 140, _, _, _, _, _⟩) (v := undef) rfl (by kernel_rfl) (by kernel_rfl) (by kernel_rfl) (fun _ _ _ h => h) (Or.inr ⟨by rfl, rfl⟩) (by assumption) ?_
                try simp only [Act.put, setIfInBounds_toArray, set_cons_zero, set_cons_succ]
                refine wpAnyH_take (i := 17) (oi := ⟨some 141, _, _, _, _, _⟩) (v := undef) rfl (by kernel_rfl) (by kernel_rfl) (by kernel_rfl) (fun _ _ _ h => h) (Or.inr ⟨by rfl, rfl⟩) (by assumption) ?_
                try simp only [Act.put, setIfInBounds_toArray, set_cons_zero, set_cons_succ]
                refine wpAnyH_take (i := 18) (oi := ⟨some 142, _, _, _, _, _⟩) (v := undef) rfl (by kernel_rfl) (by kernel_rfl) (by kernel_rfl) (fun _ _ _ h => h) (Or.inr ⟨by rfl, rfl⟩) (by assumption) ?_
                try simp only [Act.put, setIfInBounds_toArray, set_cons_zero, set_cons_succ]
                refine wpAnyH_take (i := 19) (oi := ⟨some 143, _, _, _, _, _⟩) (v := undef) rfl (by kernel_rfl) (by kernel_rfl) (by kernel_rfl) (fun _ _ _ h => h) (Or.inr ⟨by rfl, rfl⟩) (by assumption) ?_
                try simp only [Act.put, setIfInBounds_toArray, set_cons_zero, set_cons_succ]
                refine wpAnyH_take (i := 20) (oi := ⟨some 144, _, _, _, _, _⟩) (v := ?_) rfl (by kernel_rfl) (by kernel_rfl) (by kernel_rfl) (fun _ _ _ h => h) (Or.inl ⟨by rfl, ?_⟩) (by assumption) ?_; rotate_left
                · intro w hSw; (try dsimp only at hSw); go_simp; try with_reducible rfl
                try simp only [Act.put, setIfInBounds_toArray, set_cons_zero, set_cons_succ]
                refine wpAnyH_ready (rs := [21]) (by kernel_rfl) (by simp) ?_
                refine AllReadyH.cons (o := ⟨none, _, _, _, _, _⟩) rfl (fun K hK => ?_) AllReadyH.nil
                refine step_store_bk 115 _ _ rfl rfl (g + 1) (recC q A c) rfl rfl _ _ HZBD.out (recC_info _ _ _) rfl (recC_all _ _ _) ?_
                have HK6 := Lib.hid (keepL_put w4.drew (g + 1) (recC q A c))
                have HZF := Lib.hid (Bk.put HZBD.out (recC q A c))
                have HB6 := Lib.hid (And.intro (HBD.out.rb.keepL HK6.out (by simp)) (HBD.out.bs.s.keepL HK6.out (by simp)))
                have HS6 : Hid ((w4.drew.setRow (g + 1) (recC q A c)).cell? ⟨g + 2, 1, none⟩ = some (.int .i64 (kd : Int)) ∧ (w4.drew.setRow (g + 1) (recC q A c)).cell? ⟨g + 2, 0, none⟩ = some (.int .i64 (ep2 : Int)) ∧ Bk (w4.drew.setRow (g + 1) (recC q A c)) (g + 2) (recC q A c) 115 ∧ Bk (w4.drew.setRow (g + 1) (recC q A c)) g (secC s).toArray 101) := Lib.hid ⟨by rw [HB6.out.1.cell, ← HQK.out]; rfl, by rw [HB6.out.1.cell, HEP2.out]; rfl, HB6.out.1, HB6.out.2⟩
                have HOWF := Lib.hid (own_put (cs := recC q A c) HG.out HBD.out)
                generalize w4.drew.setRow (g + 1) (recC q A c) = w6 at HZF HS6 HOWF ⊢
                clear HK6 HB6
                refine hK.out _ _ ?_ (fun hHeld => ?_)
                · (try dsimp only); first | exact HS4.out | exact HS5.out | exact HS6.out
                clear hK K
                try simp only [Act.put]
                refine wpAnyH_take (i := 22) (oi := ⟨some 5, _, _, _, _, _⟩) (v := ?_) rfl (by kernel_rfl) (by kernel_rfl) (by kernel_rfl) (fun _ _ _ h => h) (Or.inl ⟨by rfl, ?_⟩) (by assumption) ?_; rotate_left
                · intro w hSw; (try dsimp only at hSw); go_simp; try with_reducible rfl
                try simp only [Act.put, setIfInBounds_toArray, set_cons_zero, set_cons_succ]
                refine wpAnyH_done (by kernel_rfl) ?_ _
                go_wp2_with fail
                refine bodyPost_ret (a := Act.mk _ _) (results_rec rfl _ _ (g + 1) _ q A c rfl (HZF.out)) rfl ?_
                exact ⟨q, A, c, by rw [HN.out]; rfl, fun q2 hq2 => (by rw [HN.out] at hq2; cases hq2), HOWF.out⟩
            · have g2i : ¬ (kd : Int) ≤ 5 := by omega
              have HN := Lib.hid (HNO.out (by omega))
              clear HYES HNO
              refine wp_region_held_drew (S := (fun W => W.cell? ⟨g + 2, 1, none⟩ = some (.int .i64 (kd : Int)) ∧ W.cell? ⟨g + 2, 0, none⟩ = some (.int .i64 (ep2 : Int)) ∧ Bk W (g + 2) (recC q A c) 115 ∧ Bk W g (secC s).toArray 101)) (by kernel_rfl) ?_ (fun hHeld => ?_)
              · (try dsimp only); first | exact HS4.out | exact HS5.out | exact HS6.out
              refine wpAnyH_take (i := 0) (oi := ⟨some 124, _, _, _, _, _⟩) (v := recV q A c) rfl (by kernel_rfl) (by kernel_rfl) (by kernel_rfl) (fun _ _ _ h => h) (Or.inl ⟨by rfl, ?_⟩) (by assumption) ?_
              · (intro w hSw; (try dsimp only at hSw); exact run_load_rec _ rfl (g + 2) rfl q A c hSw.2.2.1)
              try simp only [Act.put, setIfInBounds_toArray, set_cons_zero, set_cons_succ]
              refine wpAnyH_take (i := 1) (oi := ⟨some 125, _, _, _, _, _⟩) (v := ?_) rfl (by kernel_rfl) (by kernel_rfl) (by kernel_rfl) (fun _ _ _ h => h) (Or.inl ⟨by rfl, ?_⟩) (by assumption) ?_; rotate_left
              · intro w hSw; (try dsimp only at hSw); go_simp; try with_reducible rfl
              try simp only [Act.put, setIfInBounds_toArray, set_cons_zero, set_cons_succ]
              refine wpAnyH_take (i := 2) (oi := ⟨some 126, _, _, _, _, _⟩) (v := ?_) rfl (by kernel_rfl) (by kernel_rfl) (by kernel_rfl) (fun _ _ _ h => h) (Or.inl ⟨by rfl, ?_⟩) (by assumption) ?_; rotate_left
              · intro w hSw; (try dsimp only at hSw); go_simp; try with_reducible rfl
              try simp only [Act.put, setIfInBounds_toArray, set_cons_zero, set_cons_succ]
              refine wpAnyH_take (i := 3) (oi := ⟨some 127, _, _, _, _, _⟩) (v := ?_) rfl (by kernel_rfl) (by kernel_rfl) (by kernel_rfl) (fun _ _ _ h => h) (Or.inl ⟨by rfl, ?_⟩) (by assumption) ?_; rotate_left
              · intro w hSw; (try dsimp only at hSw); go_simp; try with_reducible rfl
              try simp only [Act.put, setIfInBounds_toArray, set_cons_zero, set_cons_succ]
              refine wpAnyH_take (i := 4) (oi := ⟨some 128, _, _, _, _, _⟩) (v := ?_) rfl (by kernel_rfl) (by kernel_rfl) (by kernel_rfl) (fun _ _ _ h => h) (Or.inl ⟨by rfl, ?_⟩) (by assumption) ?_; rotate_left
              · intro w hSw; (try dsimp only at hSw); go_simp; try with_reducible rfl
              try simp only [Act.put, setIfInBounds_toArray, set_cons_zero, set_cons_succ]
              refine wpAnyH_take (i := 5) (oi := ⟨some 129, _, _, _, _, _⟩) (v := ?_) rfl (by kernel_rfl) (by kernel_rfl) (by kernel_rfl) (fun _ _ _ h => h) (Or.inl ⟨by rfl, ?_⟩) (by assumption) ?_; rotate_left
              · intro w hSw; (try dsimp only at hSw); go_simp; try with_reducible rfl
              try simp only [Act.put, setIfInBounds_toArray, set_cons_zero, set_cons_succ]
              refine wpAnyH_take (i := 6) (oi := ⟨some 130, _, _, _, _, _⟩) (v := ?_) rfl (by kernel_rfl) (by kernel_rfl) (by kernel_rfl) (fun _ _ _ h => h) (Or.inl ⟨by rfl, ?_⟩) (by assumption) ?_; rotate_left
              · intro w hSw; (try dsimp only at hSw); go_simp; try with_reducible rfl
              try simp only [Act.put, setIfInBounds_toArray, set_cons_zero, set_cons_succ]
              refine wpAnyH_take (i := 7) (oi := ⟨some 131, _, _, _, _, _⟩) (v := ?_) rfl (by kernel_rfl) (by kernel_rfl) (by kernel_rfl) (fun _ _ _ h => h) (Or.inl ⟨by rfl, ?_⟩) (by assumption) ?_; rotate_left
              · intro w hSw; (try dsimp only at hSw); go_simp; try with_reducible rfl
              try simp only [Act.put, setIfInBounds_toArray, set_cons_zero, set_cons_succ]
              refine wpAnyH_take (i := 8) (oi := ⟨some 132, _, _, _, _, _⟩) (v := ?_) rfl (by kernel_rfl) (by kernel_rfl) (by kernel_rfl) (fun _ _ _ h => h) (Or.inl ⟨by rfl, ?_⟩) (by assumption) ?_; rotate_left
              · intro w hSw; (try dsimp only at hSw); go_simp; try with_reducible rfl
              try simp only [Act.put, setIfInBounds_toArray, set_cons_zero, set_cons_succ]
              refine wpAnyH_take (i := 9) (oi := ⟨some 133, _, _, _, _, _⟩) (v := ?_) rfl (by kernel_rfl) (by kernel_rfl) (by kernel_rfl) (fun _ _ _ h => h) (Or.inl ⟨by rfl, ?_⟩) (by assumption) ?_; rotate_left
              · intro w hSw; (try dsimp only at hSw); go_simp; try with_reducible rfl
              try simp only [Act.put, setIfInBounds_toArray, set_cons_zero, set_cons_succ]
              refine wpAnyH_take (i := 10) (oi := ⟨some 134, _, _, _, _, _⟩) (v := undef) rfl (by kernel_rfl) (by kernel_rfl) (by kernel_rfl) (fun _ _ _ h => h) (Or.inr ⟨by rfl, rfl⟩) (by assumption) ?_
              try simp only [Act.put, setIfInBounds_toArray, set_cons_zero, set_cons_succ]
              refine wpAnyH_take (i := 11) (oi := ⟨some 135, _, _, _, _, _⟩) (v := undef) rfl (by kernel_rfl) (by kernel_rfl) (by kernel_rfl) (fun _ _ _ h => h) (Or.inr ⟨by rfl, rfl⟩) (by assumption) ?_
              try simp only [Act.put, setIfInBounds_toArray, set_cons_zero, set_cons_succ]
              refine wpAnyH_take (i := 12) (oi := ⟨some 136, _, _, _, _, _⟩) (v := undef) rfl (by kernel_rfl) (by kernel_rfl) (by kernel_rfl) (fun _ _ _ h => h) (Or.inr ⟨by rfl, rfl⟩) (by assumption) ?_
              try simp only [Act.put, setIfInBounds_toArray, set_cons_zero, set_cons_succ]
              refine wpAnyH_take (i := 13) (oi := ⟨some 137, _, _, _, _, _⟩) (v := ?_) rfl (by kernel_rfl) (by kernel_rfl) (by kernel_rfl) (fun _ _ _ h => h) (Or.inl ⟨by rfl, ?_⟩) (by assumption) ?_; rotate_left
              · intro w hSw; (try dsimp only at hSw); go_simp; try with_reducible rfl
              try simp only [Act.put, setIfInBounds_toArray, set_cons_zero, set_cons_succ]
              refine wpAnyH_take (i := 14) (oi := ⟨some 138, _, _, _, _, _⟩) (v := ?_) rfl (by kernel_rfl) (by kernel_rfl) (by kernel_rfl) (fun _ _ _ h => h) (Or.inl ⟨by rfl, ?_⟩) (by assumption) ?_; rotate_left
              · intro w hSw; (try dsimp only at hSw); go_simp; try with_reducible rfl
              try simp only [Act.put, setIfInBounds_toArray, set_cons_zero, set_cons_succ]
              refine wpAnyH_take (i := 15) (oi := ⟨some 139, _, _, _, _, _⟩) (v := undef) rfl (by kernel_rfl) (by kernel_rfl) (by kernel_rfl) (fun _ _ _ h => h) (Or.inr ⟨by rfl, rfl⟩) (by assumption) ?_
              try simp only [Act.put, setIfInBounds_toArray, set_cons_zero, set_cons_succ]
              refine wpAnyH_take (i := 16) (oi := ⟨some 140, _, _, _, _, _⟩) (v := undef) rfl (by kernel_rfl) (by kernel_rfl) (by kernel_rfl) (fun _ _ _ h => h) (Or.inr ⟨by rfl, rfl⟩) (by assumption) ?_
              try simp only [Act.put, setIfInBounds_toArray, set_cons_zero, set_cons_succ]
              refine wpAnyH_take (i := 17) (oi := ⟨some 141, _, _, _, _, _⟩) (v := undef) rfl (by kernel_rfl) (by kernel_rfl) (by kernel_rfl) (fun _ _ _ h => h) (Or.inr ⟨by rfl, rfl⟩) (by assumption) ?_
              try simp only [Act.put, setIfInBounds_toArray, set_cons_zero, set_cons_succ]
              refine wpAnyH_take (i := 18) (oi := ⟨some 142, _, _, _, _, _⟩) (v := undef) rfl (by kernel_rfl) (by kernel_rfl) (by kernel_rfl) (fun _ _ _ h => h) (Or.inr ⟨by rfl, rfl⟩) (by assumption) ?_
              try simp only [Act.put, setIfInBounds_toArray, set_cons_zero, set_cons_succ]
              refine wpAnyH_take (i := 19) (oi := ⟨some 143, _, _, _, _, _⟩) (v := undef) rfl (by kernel_rfl) (by kernel_rfl) (by kernel_rfl) (fun _ _ _ h => h) (Or.inr ⟨by rfl, rfl⟩) (by assumption) ?_
              try simp only [Act.put, setIfInBounds_toArray, set_cons_zero, set_cons_succ]
              refine wpAnyH_take (i := 20) (oi := ⟨some 144, _, _, _, _, _⟩) (v := ?_) rfl (by kernel_rfl) (by kernel_rfl) (by kernel_rfl) (fun _ _ _ h => h) (Or.inl ⟨by rfl, ?_⟩) (by assumption) ?_; rotate_left
              · intro w hSw; (try dsimp only at hSw); go_simp; try with_reducible rfl
              try simp only [Act.put, setIfInBounds_toArray, set_cons_zero, set_cons_succ]
              refine wpAnyH_ready (rs := [21]) (by kernel_rfl) (by simp) ?_
              refine AllReadyH.cons (o := ⟨none, _, _, _, _, _⟩) rfl (fun K hK => ?_) AllReadyH.nil
              refine step_store_bk 115 _ _ rfl rfl (g + 1) (recC q A c) rfl rfl _ _ HZBD.out (recC_info _ _ _) rfl (recC_all _ _ _) ?_
              have HK6 := Lib.hid (keepL_put w4.drew (g + 1) (recC q A c))
              have HZF := Lib.hid (Bk.put HZBD.out (recC q A c))
              have HB6 := Lib.hid (And.intro (HBD.out.rb.keepL HK6.out (by simp)) (HBD.out.bs.s.keepL HK6.out (by simp)))
              have HS6 : Hid ((w4.drew.setRow (g + 1) (recC q A c)).cell? ⟨g + 2, 1, none⟩ = some (.int .i64 (kd : Int)) ∧ (w4.drew.setRow (g + 1) (recC q A c)).cell? ⟨g + 2, 0, none⟩ = some (.int .i64 (ep2 : Int)) ∧ Bk (w4.drew.setRow (g + 1) (recC q A c)) (g + 2) (recC q A c) 115 ∧ Bk (w4.drew.setRow (g + 1) (recC q A c)) g (secC s).toArray 101) := Lib.hid ⟨by rw [HB6.out.1.cell, ← HQK.out]; rfl, by rw [HB6.out.1.cell, HEP2.out]; rfl, HB6.out.1, HB6.out.2⟩
              have HOWF := Lib.hid (own_put (cs := recC q A c) HG.out HBD.out)
              generalize w4.drew.setRow (g + 1) (recC q A c) = w6 at HZF HS6 HOWF ⊢
              clear HK6 HB6
              refine hK.out _ _ ?_ (fun hHeld => ?_)
              · (try dsimp only); first | exact HS4.out | exact HS5.out | exact HS6.out
              clear hK K
              try simp only [Act.put]
              refine wpAnyH_take (i := 22) (oi := ⟨some 5, _, _, _, _, _⟩) (v := ?_) rfl (by kernel_rfl) (by kernel_rfl) (by kernel_rfl) (fun _ _ _ h => h) (Or.inl ⟨by rfl, ?_⟩) (by assumption) ?_; rotate_left
              · intro w hSw; (try dsimp only at hSw); go_simp; try with_reducible rfl
              try simp only [Act.put, setIfInBounds_toArray, set_cons_zero, set_cons_succ]
              refine wpAnyH_done (by kernel_rfl) ?_ _
              go_wp2_with fail
              refine bodyPost_ret (a := Act.mk _ _) (results_rec rfl _ _ (g + 1) _ q A c rfl (HZF.out)) rfl ?_
              exact ⟨q, A, c, by rw [HN.out]; rfl, fun q2 hq2 => (by rw [HN.out] at hq2; cases hq2), HOWF.out⟩
          · have g1i : ¬ (1 : Int) ≤ (kd : Int) := by omega
            have HN := Lib.hid (HNO.out (by omega))
            clear HYES HNO
            refine wp_region_held_drew (S := (fun W => W.cell? ⟨g + 2, 1, none⟩ = some (.int .i64 (kd : Int)) ∧ W.cell? ⟨g + 2, 0, none⟩ = some (.int .i64 (ep2 : Int)) ∧ Bk W (g + 2) (recC q A c) 115 ∧ Bk W g (secC s).toArray 101)) (by kernel_rfl) ?_ (fun hHeld => ?_)
            · (try dsimp only); first | exact HS4.out | exact HS5.out | exact HS6.out
            refine wpAnyH_take (i := 0) (oi := ⟨some 124, _, _, _, _, _⟩) (v := recV q A c) rfl (by kernel_rfl) (by kernel_rfl) (by kernel_rfl) (fun _ _ _ h => h) (Or.inl ⟨by rfl, ?_⟩) (by assumption) ?_
            · (intro w hSw; (try dsimp only at hSw); exact run_load_rec _ rfl (g + 2) rfl q A c hSw.2.2.1)
            try simp only [Act.put, setIfInBounds_toArray, set_cons_zero, set_cons_succ]
            refine wpAnyH_take (i := 1) (oi := ⟨some 125, _, _, _, _, _⟩) (v := ?_) rfl (by kernel_rfl) (by kernel_rfl) (by kernel_rfl) (fun _ _ _ h => h) (Or.inl ⟨by rfl, ?_⟩) (by assumption) ?_; rotate_left
            · intro w hSw; (try dsimp only at hSw); go_simp; try with_reducible rfl
            try simp only [Act.put, setIfInBounds_toArray, set_cons_zero, set_cons_succ]
            refine wpAnyH_take (i := 2) (oi := ⟨some 126, _, _, _, _, _⟩) (v := ?_) rfl (by kernel_rfl) (by kernel_rfl) (by kernel_rfl) (fun _ _ _ h => h) (Or.inl ⟨by rfl, ?_⟩) (by assumption) ?_; rotate_left
            · intro w hSw; (try dsimp only at hSw); go_simp; try with_reducible rfl
            try simp only [Act.put, setIfInBounds_toArray, set_cons_zero, set_cons_succ]
            refine wpAnyH_take (i := 3) (oi := ⟨some 127, _, _, _, _, _⟩) (v := ?_) rfl (by kernel_rfl) (by kernel_rfl) (by kernel_rfl) (fun _ _ _ h => h) (Or.inl ⟨by rfl, ?_⟩) (by assumption) ?_; rotate_left
            · intro w hSw; (try dsimp only at hSw); go_simp; try with_reducible rfl
            try simp only [Act.put, setIfInBounds_toArray, set_cons_zero, set_cons_succ]
            refine wpAnyH_take (i := 4) (oi := ⟨some 128, _, _, _, _, _⟩) (v := ?_) rfl (by kernel_rfl) (by kernel_rfl) (by kernel_rfl) (fun _ _ _ h => h) (Or.inl ⟨by rfl, ?_⟩) (by assumption) ?_; rotate_left
            · intro w hSw; (try dsimp only at hSw); go_simp; try with_reducible rfl
            try simp only [Act.put, setIfInBounds_toArray, set_cons_zero, set_cons_succ]
            refine wpAnyH_take (i := 5) (oi := ⟨some 129, _, _, _, _, _⟩) (v := undef) rfl (by kernel_rfl) (by kernel_rfl) (by kernel_rfl) (fun _ _ _ h => h) (Or.inr ⟨by rfl, rfl⟩) (by assumption) ?_
            try simp only [Act.put, setIfInBounds_toArray, set_cons_zero, set_cons_succ]
            refine wpAnyH_take (i := 6) (oi := ⟨some 130, _, _, _, _, _⟩) (v := undef) rfl (by kernel_rfl) (by kernel_rfl) (by kernel_rfl) (fun _ _ _ h => h) (Or.inr ⟨by rfl, rfl⟩) (by assumption) ?_
            try simp only [Act.put, setIfInBounds_toArray, set_cons_zero, set_cons_succ]
            refine wpAnyH_take (i := 7) (oi := ⟨some 131, _, _, _, _, _⟩) (v := undef) rfl (by kernel_rfl) (by kernel_rfl) (by kernel_rfl) (fun _ _ _ h => h) (Or.inr ⟨by rfl, rfl⟩) (by assumption) ?_
            try simp only [Act.put, setIfInBounds_toArray, set_cons_zero, set_cons_succ]
            refine wpAnyH_take (i := 8) (oi := ⟨some 132, _, _, _, _, _⟩) (v := ?_) rfl (by kernel_rfl) (by kernel_rfl) (by kernel_rfl) (fun _ _ _ h => h) (Or.inl ⟨by rfl, ?_⟩) (by assumption) ?_; rotate_left
            · intro w hSw; (try dsimp only at hSw); go_simp; try with_reducible rfl
            try simp only [Act.put, setIfInBounds_toArray, set_cons_zero, set_cons_succ]
            refine wpAnyH_take (i := 9) (oi := ⟨some 133, _, _, _, _, _⟩) (v := ?_) rfl (by kernel_rfl) (by kernel_rfl) (by kernel_rfl) (fun _ _ _ h => h) (Or.inl ⟨by rfl, ?_⟩) (by assumption) ?_; rotate_left
            · intro w hSw; (try dsimp only at hSw); go_simp; try with_reducible rfl
            try simp only [Act.put, setIfInBounds_toArray, set_cons_zero, set_cons_succ]
            refine wpAnyH_take (i := 10) (oi := ⟨some 134, _, _, _, _, _⟩) (v := undef) rfl (by kernel_rfl) (by kernel_rfl) (by kernel_rfl) (fun _ _ _ h => h) (Or.inr ⟨by rfl, rfl⟩) (by assumption) ?_
            try simp only [Act.put, setIfInBounds_toArray, set_cons_zero, set_cons_succ]
            refine wpAnyH_take (i := 11) (oi := ⟨some 135, _, _, _, _, _⟩) (v := undef) rfl (by kernel_rfl) (by kernel_rfl) (by kernel_rfl) (fun _ _ _ h => h) (Or.inr ⟨by rfl, rfl⟩) (by assumption) ?_
            try simp only [Act.put, setIfInBounds_toArray, set_cons_zero, set_cons_succ]
            refine wpAnyH_take (i := 12) (oi := ⟨some 136, _, _, _, _, _⟩) (v := undef) rfl (by kernel_rfl) (by kernel_rfl) (by kernel_rfl) (fun _ _ _ h => h) (Or.inr ⟨by rfl, rfl⟩) (by assumption) ?_
            try simp only [Act.put, setIfInBounds_toArray, set_cons_zero, set_cons_succ]
            refine wpAnyH_take (i := 13) (oi := ⟨some 137, _, _, _, _, _⟩) (v := ?_) rfl (by kernel_rfl) (by kernel_rfl) (by kernel_rfl) (fun _ _ _ h => h) (Or.inl ⟨by rfl, ?_⟩) (by assumption) ?_; rotate_left
            · intro w hSw; (try dsimp only at hSw); go_simp; try with_reducible rfl
            try simp only [Act.put, setIfInBounds_toArray, set_cons_zero, set_cons_succ]
            refine wpAnyH_take (i := 14) (oi := ⟨some 138, _, _, _, _, _⟩) (v := ?_) rfl (by kernel_rfl) (by kernel_rfl) (by kernel_rfl) (fun _ _ _ h => h) (Or.inl ⟨by rfl, ?_⟩) (by assumption) ?_; rotate_left
            · intro w hSw; (try dsimp only at hSw); go_simp; try with_reducible rfl
            try simp only [Act.put, setIfInBounds_toArray, set_cons_zero, set_cons_succ]
            refine wpAnyH_take (i := 15) (oi := ⟨some 139, _, _, _, _, _⟩) (v := undef) rfl (by kernel_rfl) (by kernel_rfl) (by kernel_rfl) (fun _ _ _ h => h) (Or.inr ⟨by rfl, rfl⟩) (by assumption) ?_
            try simp only [Act.put, setIfInBounds_toArray, set_cons_zero, set_cons_succ]
            refine wpAnyH_take (i := 16) (oi := ⟨some 140, _, _, _, _, _⟩) (v := undef) rfl (by kernel_rfl) (by kernel_rfl) (by kernel_rfl) (fun _ _ _ h => h) (Or.inr ⟨by rfl, rfl⟩) (by assumption) ?_
            try simp only [Act.put, setIfInBounds_toArray, set_cons_zero, set_cons_succ]
            refine wpAnyH_take (i := 17) (oi := ⟨some 141, _, _, _, _, _⟩) (v := undef) rfl (by kernel_rfl) (by kernel_rfl) (by kernel_rfl) (fun _ _ _ h => h) (Or.inr ⟨by rfl, rfl⟩) (by assumption) ?_
            try simp only [Act.put, setIfInBounds_toArray, set_cons_zero, set_cons_succ]
            refine wpAnyH_take (i := 18) (oi := ⟨some 142, _, _, _, _, _⟩) (v := undef) rfl (by kernel_rfl) (by kernel_rfl) (by kernel_rfl) (fun _ _ _ h => h) (Or.inr ⟨by rfl, rfl⟩) (by assumption) ?_
            try simp only [Act.put, setIfInBounds_toArray, set_cons_zero, set_cons_succ]
            refine wpAnyH_take (i := 19) (oi := ⟨some 143, _, _, _, _, _⟩) (v := undef) rfl (by kernel_rfl) (by kernel_rfl) (by kernel_rfl) (fun _ _ _ h => h) (Or.inr ⟨by rfl, rfl⟩) (by assumption) ?_
            try simp only [Act.put, setIfInBounds_toArray, set_cons_zero, set_cons_succ]
            refine wpAnyH_take (i := 20) (oi := ⟨some 144, _, _, _, _, _⟩) (v := ?_) rfl (by kernel_rfl) (by kernel_rfl) (by kernel_rfl) (fun _ _ _ h => h) (Or.inl ⟨by rfl, ?_⟩) (by assumption) ?_; rotate_left
            · intro w hSw; (try dsimp only at hSw); go_simp; try with_reducible rfl
            try simp only [Act.put, setIfInBounds_toArray, set_cons_zero, set_cons_succ]
            refine wpAnyH_ready (rs := [21]) (by kernel_rfl) (by simp) ?_
            refine AllReadyH.cons (o := ⟨none, _, _, _, _, _⟩) rfl (fun K hK => ?_) AllReadyH.nil
            refine step_store_bk 115 _ _ rfl rfl (g + 1) (recC q A c) rfl rfl _ _ HZBD.out (recC_info _ _ _) rfl (recC_all _ _ _) ?_
            have HK6 := Lib.hid (keepL_put w4.drew (g + 1) (recC q A c))
            have HZF := Lib.hid (Bk.put HZBD.out (recC q A c))
            have HB6 := Lib.hid (And.intro (HBD.out.rb.keepL HK6.out (by simp)) (HBD.out.bs.s.keepL HK6.out (by simp)))
            have HS6 : Hid ((w4.drew.setRow (g + 1) (recC q A c)).cell? ⟨g + 2, 1, none⟩ = some (.int .i64 (kd : Int)) ∧ (w4.drew.setRow (g + 1) (recC q A c)).cell? ⟨g + 2, 0, none⟩ = some (.int .i64 (ep2 : Int)) ∧ Bk (w4.drew.setRow (g + 1) (recC q A c)) (g + 2) (recC q A c) 115 ∧ Bk (w4.drew.setRow (g + 1) (recC q A c)) g (secC s).toArray 101) := Lib.hid ⟨by rw [HB6.out.1.cell, ← HQK.out]; rfl, by rw [HB6.out.1.cell, HEP2.out]; rfl, HB6.out.1, HB6.out.2⟩
            have HOWF := Lib.hid (own_put (cs := recC q A c) HG.out HBD.out)
            generalize w4.drew.setRow (g + 1) (recC q A c) = w6 at HZF HS6 HOWF ⊢
            clear HK6 HB6
            refine hK.out _ _ ?_ (fun hHeld => ?_)
            · (try dsimp only); first | exact HS4.out | exact HS5.out | exact HS6.out
            clear hK K
            try simp only [Act.put]
            refine wpAnyH_take (i := 22) (oi := ⟨some 5, _, _, _, _, _⟩) (v := ?_) rfl (by kernel_rfl) (by kernel_rfl) (by kernel_rfl) (fun _ _ _ h => h) (Or.inl ⟨by rfl, ?_⟩) (by assumption) ?_; rotate_left
            · intro w hSw; (try dsimp only at hSw); go_simp; try with_reducible rfl
            try simp only [Act.put, setIfInBounds_toArray, set_cons_zero, set_cons_succ]
            refine wpAnyH_done (by kernel_rfl) ?_ _
            go_wp2_with fail
            refine bodyPost_ret (a := Act.mk _ _) (results_rec rfl _ _ (g + 1) _ q A c rfl (HZF.out)) rfl ?_
            exact ⟨q, A, c, by rw [HN.out]; rfl, fun q2 hq2 => (by rw [HN.out] at hq2; cases hq2), HOWF.out⟩
end Go.Proofs.YtdgmjedkhjeadaaGreat
