/- What a disk's sectors are while it crashes, in memory. Conditions: as each statement says. -/
import Derived.Test.YtdgmjedkhjeadaaGreatSto2
import Derived.Test.YtdgmjedkhjeadaaGreatBase
import Derived.Test.YtdgmjedkhjeadaaGreatMapL
import Derived.Test.YtdgmjedkhjeadaaGreatRngI
import Derived.Test.YtdgmjedkhjeadaaGreatSortI
import Derived.Laws.CopyOwn
namespace Go.Proofs.YtdgmjedkhjeadaaGreat
open Go.RowKit
set_option linter.unusedVariables false
theorem durC_append (a b : List Sec) : durC (a ++ b) = durC a ++ durC b := by simp [durC]
theorem durC_cons (s : Sec) (b : List Sec) : durC (s :: b) = secC s ++ durC b := by simp [durC]
theorem durC_split {ds : List Sec} {i : Nat} (hi : i < ds.length) : durC ds = durC (ds.take i) ++ (secC (ds.getD i []) ++ durC (ds.drop (i + 1))) := by
  have e : ds.getD i [] = ds[i] := by rw [List.getD_eq_getElem?_getD, List.getElem?_eq_getElem hi]; rfl
  rw [e, ← durC_cons, ← List.drop_eq_getElem_cons hi, ← durC_append, List.take_append_drop]
theorem durC_put {ds : List Sec} {i : Nat} (hi : i < ds.length) (x : Sec) : durC (ds.set i x) = durC (ds.take i) ++ (secC x ++ durC (ds.drop (i + 1))) := by
  rw [List.set_eq_take_append_cons_drop, if_pos hi, durC_append, durC_cons]
theorem durC_splice {ds : List Sec} (ho : ∀ s ∈ ds, SecOK s) {i : Nat} (hi : i < ds.length) (sp : List Value) (s : Sec) (c : Nat) (hc : c ≤ 64) (hs : s.length = 64) :
    splice (durC ds ++ sp) (i * 64) ((secC s).take c) = durC (ds.set i (s.take c ++ (ds.getD i []).drop c)) ++ sp := by
  have hg : SecOK (ds.getD i []) := ho _ (by rw [List.getD_eq_getElem?_getD, List.getElem?_eq_getElem hi]; exact List.getElem_mem hi)
  have hA : (durC (ds.take i)).length = i * 64 := by rw [durC_length _ (fun s hs => ho s (List.mem_of_mem_take hs)), List.length_take]; omega
  have hM : (secC (ds.getD i [])).length = 64 := by rw [secC_length, hg.1]
  have hT : ((secC s).take c).length = c := by rw [List.length_take, secC_length]; omega
  rw [durC_put hi, durC_split hi, splice, hT]
  generalize durC (ds.take i) = A at *
  have e1 : secC (s.take c ++ (ds.getD i []).drop c) = (secC s).take c ++ (secC (ds.getD i [])).drop c := by simp [secC]
  rw [e1]
  generalize secC (ds.getD i []) = M at *
  generalize (secC s).take c = T at *
  generalize durC (ds.drop (i + 1)) = Z
  rw [← hA, List.append_assoc A, List.take_left, show A.length + c = A.length + c from rfl, ← List.drop_drop, List.drop_left, List.append_assoc M, List.drop_append_of_le_length (by omega)]
  simp
def TickP (D bs bm cp : Nat) (p : Option Addr) (d : Dk) (w : World) (e : Ending) (w' : World) : Prop := e = .returned (.bool d.tick.1) ∧ DkMut w w' D bs bm cp p d.tick.2
section
variable {w : World} {D : Nat} {d : Dk} {bs bm cp : Nat} {p : Option Addr}
set_option maxRecDepth 100000 in
theorem tick_none (h : DkAt w D d bs bm cp p) (hp : d.plan = none) : Calls Tryz.prog 48 #[.pointer (some ⟨D, 0, none⟩)] w (TickP D bs bm cp p d w) := by
  have hq := h.plan
  rw [hp] at hq
  have HT : Hid (d.tick = (false, d)) := Lib.hid (by unfold Dk.tick; rw [hp])
  have H := Lib.hid h
  have c2 := h.c2
  rw [show p = none from hq] at c2
  have q1 : ∀ w, (binOp BinOp.eql 94 (.pointer none) (.pointer none)).run Tryz.prog w = .ok (.bool true) w := fun w => by kernel_rfl
  clear h hq
  go_enter Tryz.func48, Tryz.ntmps48
  go_wp2_with fail
  go_ret
  unfold TickP
  rw [HT.out]
  exact ⟨rfl, ⟨_, H.out, .refl _ _⟩, KeepL.refl _ _⟩
theorem DkAt.notP (h : DkAt w D d bs bm cp p) {bp : Nat} {cs : Array Value} (hb : Bk w bp cs 103) : D ≠ bp ∧ bs ≠ bp ∧ bm ≠ bp := by
  obtain ⟨o, h2, ⟨sp, h3⟩, ⟨l, h4⟩, h5⟩ := h
  exact ⟨h2.ne hb (by decide), h3.ne hb (by decide), fun e => hb.nemap h4 e.symm⟩
set_option maxRecDepth 100000 in
theorem tick_some (h : DkAt w D d bs bm cp p) (a : Nat) (k : List Nat) (hp : d.plan = some (a + 1, k)) : Calls Tryz.prog 48 #[.pointer (some ⟨D, 0, none⟩)] w (TickP D bs bm cp p d w) := by
  have hq := h.plan
  rw [hp] at hq
  obtain ⟨bp, kv, rfl, hb, hkv⟩ := hq
  have HT : Hid (d.tick = (false, { d with plan := some (a, k) })) := Lib.hid (by unfold Dk.tick; rw [hp])
  obtain ⟨k1, k2, k3⟩ := h.ok.keep _ _ hp
  have hz : DkMut w (w.setCell ⟨bp, 0, none⟩ (.int .i64 (a : Int))) D bs bm cp (some ⟨bp, 0, none⟩) { d with plan := some (a, k) } := by
    have hk := KeepL.set w bp 0 (.int .i64 (a : Int))
    obtain ⟨n1, n2, n3⟩ := h.notP hb
    obtain ⟨o, h2, ⟨sp, h3⟩, ⟨l, h4⟩, h5⟩ := id h
    refine ⟨⟨_, ⟨⟨o.n2, o.n256, o.len, o.dur, o.cch, fun a' k' e => by cases e; exact ⟨k1, k2, by omega⟩⟩, h2.keepL hk (by simpa using n1), ⟨sp, h3.keepL hk (by simpa using n2)⟩, ⟨l, h4.keep (hk.block _ h4.lt (by simpa using n3))⟩, ⟨bp, kv, rfl, hb.set 0 _, ?_⟩⟩, .refl _ _⟩, hk.sub (by simp [fpL])⟩
    obtain ⟨A, c, e1, e2⟩ := hkv
    refine ⟨A, c, e1, fun hne => ?_⟩
    obtain ⟨g, C, g1, g2, g3⟩ := e2 hne
    exact ⟨g, C, g1, g2.keepL hk (by simp only [List.mem_singleton]; exact g2.ne hb (by decide)), g3⟩
  have HM := Lib.hid hz
  have c2 := h.c2
  have b0 : w.cell? ⟨bp, 0, none⟩ = some (.int .i64 ((a : Int) + 1)) := by rw [hb.cell]; simp
  have f0 := hb.froz 0
  have q1 : ∀ w, (binOp BinOp.eql 94 (.pointer (some ⟨bp, 0, none⟩)) (.pointer none)).run Tryz.prog w = .ok (.bool false) w := fun w => by kernel_rfl
  have g1 : decide ((0 : Int) < (a : Int) + 1) = true := decide_eq_true (by omega)
  have HW : Hid (IntKind.i64.wrap ((a : Int) + 1 - 1) = (a : Int)) := Lib.hid (by rw [show (a : Int) + 1 - 1 = a by omega]; simp [IntKind.wrap, IntKind.bits, IntKind.signed]; omega)
  clear h hb hkv hz k1 k2
  go_enter Tryz.func48, Tryz.ntmps48
  go_wp2_with fail
  go_ret
  unfold TickP
  rw [HT.out]
  exact ⟨rfl, HM.out⟩
end
end Go.Proofs.YtdgmjedkhjeadaaGreat
