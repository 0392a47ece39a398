/- The contracts of valid, unless and its closure. Conditions: as each statement says. -/
import Derived.Test.YtghjlbbalngdhaaGreatDoorNet13
import Derived.Shelf.Abstract
namespace Go.Proofs.YtghjlbbalngdhaaGreatDoor
open Go.RowKit
set_option linter.unusedVariables false
set_option maxRecDepth 100000 in
theorem valid_any (N : Nat) (m : Option Nat) (w : World) (h : w.cell? ⟨N, 0, none⟩ = some (.map m)) (hm : m.isSome = true) :
    Calls Tryz.prog 37 #[.pointer (some ⟨N, 0, none⟩)] w fun e w' => e = .returned (.bool true) ∧ w = w' := by
  obtain ⟨m, rfl⟩ := Option.isSome_iff_exists.1 hm
  have q1 : ∀ w, (binOp BinOp.neq 22 (.pointer (some ⟨N, 0, none⟩)) (.pointer none)).run Tryz.prog w = .ok (.bool true) w := fun w => by kernel_rfl
  have q2 : ∀ w, (binOp BinOp.neq 23 (.map (some m)) (.map none)).run Tryz.prog w = .ok (.bool true) w := fun w => by kernel_rfl
  go_enter Tryz.func37, Tryz.ntmps37
  go_wp2_with fail
  go_ret
  exact ⟨rfl, rfl⟩
/-- The world in which unless has made its condition. -/
abbrev unlW (w : World) (bad : Bool) (e : Int) : World := (w.alloc (.cells #[.bool bad] 4)).alloc (.cells #[.int .i64 e] 30)
theorem unless_any (bad : Bool) (e : Int) (w : World) :
    Calls Tryz.prog 29 #[.bool bad, .int .i64 e] w fun r w' => r = .returned (.func (.func 76) #[] #[.pointer (some ⟨w.heap.size, 0, none⟩), .pointer (some ⟨w.heap.size + 1, 0, none⟩)]) ∧ w' = unlW w bad e := by
  have hmf : ∀ (fn : Fn) (first cap : Array Value) (w : World), (Instr.makeFunc fn first cap).run Tryz.prog w = .ok (.func fn first cap) w := fun _ _ _ _ => rfl
  go_enter Tryz.func29, Tryz.ntmps29
  go_wp2_with fail
  go_ret
  exact ⟨rfl, rfl⟩
/-- What a condition says in every later world. -/
def CondOK (w : World) (f : Value) (e : Int) : Prop := ∃ fn cap, f = .func (.func fn) #[] cap ∧ (∀ W, (callFunc fn cap).run Tryz.prog W = .ok (.enter fn cap) W) ∧ ∀ W, Below w.heap.size w W → Calls Tryz.prog fn cap W fun r W' => r = .returned (.int .i64 e) ∧ Below W.heap.size W W'
theorem CondOK.far {w w' : World} {f : Value} {e : Int} (h : CondOK w f e) (hb : Below w.heap.size w w') : CondOK w' f e := by
  obtain ⟨fn, cap, h1, h3, h2⟩ := h
  exact ⟨fn, cap, h1, h3, fun W hW => h2 W (hb.trans (hW.mono hb.size))⟩
theorem unless1_any (b1 b2 : Nat) (bad : Bool) (e : Int) (w : World) (h1 : w.cell? ⟨b1, 0, none⟩ = some (.bool bad)) (h2 : w.cell? ⟨b2, 0, none⟩ = some (.int .i64 e)) :
    Calls Tryz.prog 76 #[.pointer (some ⟨b1, 0, none⟩), .pointer (some ⟨b2, 0, none⟩)] w fun r w' => r = .returned (.int .i64 (if bad then e else 0)) ∧ w = w' := by
  cases bad
  · go_enter Tryz.func76, Tryz.ntmps76
    go_wp2_with fail
    go_ret
    exact ⟨rfl, rfl⟩
  · go_enter Tryz.func76, Tryz.ntmps76
    go_wp2_with fail
    go_ret
    exact ⟨rfl, rfl⟩
theorem unless_cond (bad : Bool) (e : Int) (w : World) : CondOK (unlW w bad e) (.func (.func 76) #[] #[.pointer (some ⟨w.heap.size, 0, none⟩), .pointer (some ⟨w.heap.size + 1, 0, none⟩)]) (if bad then e else 0) := by
  refine ⟨_, _, rfl, enters_of Tryz.func76 (by kernel_rfl) rfl _, fun W hW => ?_⟩
  have h0 := (Bk.new w #[.bool bad] 4).keepL (KeepL.alloc [] _ (.cells #[.int .i64 e] 30)) (by simp)
  have h1 := Bk.new (w.alloc (.cells #[.bool bad] 4)) #[.int .i64 e] 30
  rw [World.size_alloc] at h1
  refine (unless1_any w.heap.size (w.heap.size + 1) bad e W (by rw [(h0.past hW h0.lt).cell]; rfl) (by rw [(h1.past hW h1.lt).cell]; rfl)).mono ?_
  rintro r W' ⟨rfl, rfl⟩
  exact ⟨rfl, Below.refl _ _⟩
#print axioms unless_cond
end Go.Proofs.YtghjlbbalngdhaaGreatDoor
/- The contract of ask. Conditions: as the statement says. -/
namespace Go.Proofs.YtghjlbbalngdhaaGreatDoor
open Go.RowKit
set_option linter.unusedVariables false
def firstE : List Int → Int
  | [] => 0
  | e :: l => if e = 0 then firstE l else e
theorem firstE_app : ∀ (l m : List Int), (∀ e ∈ l, e = 0) → firstE (l ++ m) = firstE m
  | [], _, _ => rfl
  | e :: l, m, h => by
    rw [List.cons_append, firstE, if_pos (h e (by simp)), firstE_app l m (fun x hx => h x (by simp [hx]))]
def AskP (es : List Int) (w : World) (r : Ending) (w' : World) : Prop := r = .returned (.int .i64 (firstE es)) ∧ Below w.heap.size w w'
set_option maxRecDepth 100000 in
theorem ask_any {w : World} {N n c : Nat} {m : Option Nat} {A : Option Addr} (fs : List (Value × Int)) (h : w.cell? ⟨N, 0, none⟩ = some (.map m)) (hm : m.isSome = true) (hN : N < w.heap.size) (hr : Rd w w.heap.size 1 A n (fs.map (·.1))) (hc : ∀ x ∈ fs, CondOK w x.1 x.2) (hn : n ≤ 1000) :
    Calls Tryz.prog 28 #[.pointer (some ⟨N, 0, none⟩), .slice A n c] w (AskP (fs.map (·.2)) w) := by
  have HV := Lib.hid (valid_any N m w h hm)
  have hln : fs.length = n := by have := hr.1; simpa using this
  have HR := Lib.hid hr; have HC := Lib.hid hc
  clear h hr hc
  go_enter Tryz.func28, Tryz.ntmps28
  go_wp2_with fail
  refine HV.out.mono ?_
  rintro e w' ⟨rfl, rfl⟩
  go_wp2_with fail
  go_loopw [13] (fun i wr => ∃ k : Nat, k ≤ n ∧ i = .int .i64 k ∧ (∀ e ∈ (fs.take k).map (·.2), e = 0) ∧ Below w.heap.size w wr) (fun i _ => n - (intOf i).toNat)
  case atStart => exact ⟨0, Nat.zero_le _, rfl, by simp, Below.refl _ _⟩
  case round =>
    obtain ⟨k, hk, rfl, h0, hb⟩ := hrel
    obtain ⟨wa, rfl⟩ : ∃ z : World, z = wr := ⟨_, rfl⟩
    have H0 := Lib.hid h0; have HB := Lib.hid hb
    clear h0 hb
    by_cases hlt : k < n
    · have hki : (k : Int) < (n : Int) := by omega
      obtain ⟨b, off, rfl, hbl, hcell⟩ := HR.out.2 (by omega)
      have hk2 : k < fs.length := by omega
      have hcf := (HB.out.cell (p := ⟨b, off + k, none⟩) hbl).trans (hcell k (fs[k].1) (by rw [List.getElem?_map, List.getElem?_eq_getElem hk2]; rfl))
      obtain ⟨fn, cap, hf, hen, hcl⟩ := HC.out fs[k] (List.getElem_mem hk2)
      have HCL := Lib.hid (hcl wa HB.out)
      have HSP : Hid (fs.map (·.2) = (fs.take k).map (·.2) ++ fs[k].2 :: (fs.drop (k + 1)).map (·.2)) := Lib.hid (by
        rw [← List.map_cons (f := fun x : Value × Int => x.2), ← List.map_append, ← List.drop_eq_getElem_cons hk2, List.take_append_drop])
      have HTK : Hid ((fs.take (k + 1)).map (·.2) = (fs.take k).map (·.2) ++ [fs[k].2]) := Lib.hid (by rw [List.take_succ_eq_append_getElem hk2, List.map_append]; rfl)
      rw [hf] at hcf
      generalize fs[k].2 = e at HCL HSP HTK
      clear hcl hcell hf
      have hen1 := hen wa
      go_wp2_with fail
      refine HCL.out.mono ?_
      clear HCL hen1 hen
      rintro e' w2 ⟨rfl, hb2⟩
      have HB2 : Hid (Below w.heap.size w w2) := Lib.hid (bnextK HB.out hb2)
      clear hb2
      by_cases he : e = 0
      · subst he
        go_wp2_with fail
        go_roundw
        case rel => exact ⟨k + 1, by omega, by go_num, by rw [HTK.out]; intro x hx; rcases List.mem_append.1 hx with hx | hx; exact H0.out x hx; simpa using hx, HB2.out⟩
        case measure => simp [intOf]; omega
      · have e1 : (e != 0) = true := by simp [he]
        have HF : Hid (firstE (fs.map (·.2)) = e) := Lib.hid (by rw [HSP.out, firstE_app _ _ H0.out, firstE, if_neg he])
        go_wp2_with fail
        go_ret
        exact ⟨by rw [HF.out]; rfl, HB2.out⟩
    · have hki : ¬ (k : Int) < (n : Int) := by omega
      obtain rfl : k = n := by omega
      have HF : Hid (firstE (fs.map (·.2)) = 0) := Lib.hid (by
        have h1 := H0.out
        rw [List.take_of_length_le (by omega)] at h1
        have := firstE_app (fs.map (·.2)) [] h1
        rw [List.append_nil] at this; exact this)
      go_wp2_with fail
      go_ret
      exact ⟨by rw [HF.out]; rfl, HB.out⟩
#print axioms ask_any
end Go.Proofs.YtghjlbbalngdhaaGreatDoor
/- The contract of New. Conditions: as the statement says. -/
namespace Go.Proofs.YtghjlbbalngdhaaGreatDoor
open Go.RowKit
set_option linter.unusedVariables false
/-- The world in which New has made its network. -/
abbrev newW (w : World) : World := ((w.alloc (.map #[] 0)).alloc (.map #[] 0)).alloc (.cells #[.map (some w.heap.size), .map (some (w.heap.size + 1)), .int .i64 0, .slice none 0 0, .int .i64 0, .slice none 0 0] 28)
theorem newNet_any (w : World) : Calls Tryz.prog 113 #[] w fun e w' => e = .returned (.pointer (some ⟨w.heap.size + 1 + 1, 0, none⟩)) ∧ w' = newW w := by
  have hmm := @run_makeMap Tryz.prog
  go_enter Tryz.func113, Tryz.ntmps113
  go_wp2_with fail
  go_ret
  exact ⟨rfl, rfl⟩
#print axioms newNet_any
end Go.Proofs.YtghjlbbalngdhaaGreatDoor
