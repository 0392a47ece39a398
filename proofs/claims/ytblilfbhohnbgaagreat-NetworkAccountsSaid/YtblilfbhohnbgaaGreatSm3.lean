/- The contract of Small. Conditions: as the statement says. -/
import Derived.Test.YtblilfbhohnbgaaGreatNet35
import Derived.Laws.Rows
namespace Go.Proofs.YtblilfbhohnbgaaGreat
open Go.RowKit
set_option linter.unusedVariables false
set_option linter.unusedSimpArgs false
theorem NetNew.blk {w : World} {s : NS} {N bn bl : Nat} {W W' : World} {L : List Nat} {b : Nat} {cs : Array Value} {t : TypeId} (h : NetNew w s N bn bl W) (hk : KeepL L W W') (hL : L = [bn] ∨ L = [bl]) (hb : Bk W b cs t) : Bk W' b cs t := by
  rcases hL with rfl | rfl
  · exact hb.keepL hk (by simpa using hb.nmapL h.1.nodes)
  · exact hb.keepL hk (by simpa using hb.nmapL h.1.links)
theorem keepL_setRow (w : World) (g : Nat) (cs : Array Value) : KeepL [g] w (w.setRow g cs) := ⟨rfl, rfl, rfl, by simp [World.setRow], fun k hk hL => by
  simp only [World.setRow, Array.getElem?_modify]
  rw [if_neg (fun e => hL (by simp [e]))]⟩
theorem stV_one (st : List Int) : (stV st).all (·.oneCell') = true := by
  unfold stV
  rw [Array.all_eq_true']
  intro x hx
  simp only [List.mem_toArray, List.mem_map] at hx
  obtain ⟨i, _, rfl⟩ := hx
  rfl
theorem Bk.tne {w : World} {b : Nat} {cs cs' : Array Value} {t t' : TypeId} (h : Bk w b cs t) (h' : Bk w b cs' t') : t' = t := by
  unfold Bk at h h'
  rw [h] at h'
  simp at h'
  exact h'.2.symm
theorem names_fact {W W' : World} (h : W' = W.alloc (.cells n8V 9)) : (∀ a, a < 8 → W'.cell? ⟨W.heap.size, a, none⟩ = some (encS (nm a))) ∧ Below W.heap.size W W' := by
  subst h
  exact ⟨fun a ha => n8_cell W a ha, below_alloc _ _⟩
end Go.Proofs.YtblilfbhohnbgaaGreat
