/- Plain mathematics of Explain: the coins that explain some shares. No program is in sight. -/
import Derived.Test.YthmooplhhkafcaaJoinMath
namespace Go.Proofs.Ythmooplhhkafcaa
open Go.RowKit
set_option linter.unusedVariables false
def ptsX (l : List ShareV) (b j : Nat) : List (Nat × Nat) := (0, b) :: ptsJ l l.length j
def polyX (l : List ShareV) (b j : Nat) : List Nat := throughN (ptsX l b j)
def coinB (l : List ShareV) (b j q : Nat) : List Nat := (polyX l b j).drop 1 ++ List.replicate (q - l.length) 0
def coinsX (l : List ShareV) (sec : List Nat) (q : Nat) : Nat → List Nat
  | 0 => []
  | j + 1 => coinsX l sec q j ++ coinB l (sec.getD j 0) j q
theorem ptsX_b {l : List ShareV} (h : ShBytes l) {b : Nat} (hb : b < 256) (j : Nat) : PtB (ptsX l b j) := fun p hp => by
  rcases List.mem_cons.1 hp with rfl | hp
  · exact ⟨Nat.zero_lt_succ _, hb⟩
  · exact ptsJ_b h _ j p hp
theorem ptsX_d {len : Nat} {l : List ShareV} (g : ShGood len l) (b j : Nat) : ((ptsX l b j).map (·.1)).Nodup := by
  unfold ptsX
  rw [List.map_cons, List.nodup_cons]
  refine ⟨fun hm => ?_, ptsJ_d g _ j⟩
  obtain ⟨p, hp, he⟩ := List.mem_map.1 hm
  obtain ⟨s, hs, rfl⟩ := List.mem_map.1 hp
  have := g.x s (List.mem_of_mem_take hs)
  simp at he; omega
theorem ptsX_len (l : List ShareV) (b j : Nat) : (ptsX l b j).length = l.length + 1 := by unfold ptsX; rw [List.length_cons, ptsJ_len l _ j (Nat.le_refl _)]
theorem polyX_len {len : Nat} {l : List ShareV} (g : ShGood len l) (hb : ShBytes l) {b : Nat} (h : b < 256) (j : Nat) : (polyX l b j).length = l.length + 1 := by
  unfold polyX
  rw [(throughN_hits (ptsX_b hb h j) (ptsX_d g b j)).1, ptsX_len]
theorem polyX_bytes {len : Nat} {l : List ShareV} (g : ShGood len l) (hb : ShBytes l) {b : Nat} (h : b < 256) (j : Nat) : Bytes (polyX l b j) := (throughN_hits (ptsX_b hb h j) (ptsX_d g b j)).2.1
theorem coinB_len {len : Nat} {l : List ShareV} (g : ShGood len l) (hb : ShBytes l) {b q : Nat} (h : b < 256) (j : Nat) (hq : l.length ≤ q) : (coinB l b j q).length = q := by
  unfold coinB
  rw [List.length_append, List.length_drop, polyX_len g hb h, List.length_replicate]; omega
theorem coinB_bytes {len : Nat} {l : List ShareV} (g : ShGood len l) (hb : ShBytes l) {b q : Nat} (h : b < 256) (j : Nat) : Bytes (coinB l b j q) := Bytes.append ((polyX_bytes g hb h j).drop 1) (Bytes.zeros _)
theorem coinsX_len {len : Nat} {l : List ShareV} (g : ShGood len l) (hb : ShBytes l) {sec : List Nat} (hs : Bytes sec) {q : Nat} (hq : l.length ≤ q) : ∀ m, (coinsX l sec q m).length = m * q
  | 0 => by simp [coinsX]
  | m + 1 => by rw [coinsX, List.length_append, coinsX_len g hb hs hq m, coinB_len g hb (getD_byte hs m) m hq, Nat.add_mul, Nat.one_mul]
theorem coinsX_bytes {len : Nat} {l : List ShareV} (g : ShGood len l) (hb : ShBytes l) {sec : List Nat} (hs : Bytes sec) {q : Nat} : ∀ m, Bytes (coinsX l sec q m)
  | 0 => Bytes.nil
  | m + 1 => Bytes.append (coinsX_bytes g hb hs m) (coinB_bytes g hb (getD_byte hs m) m)
/-- The error of Explain. -/
def explE (l : List ShareV) (k : Int) (n : Nat) : Int := if 256 < n then 4 else if k < 1 ∨ 16 < k then 3 else if k ≤ (l.length : Int) then 5 else chkE n [] l
def explS (l : List ShareV) (k : Int) (sec : List Nat) : List Nat := if explE l k sec.length = 0 then coinsX l sec (k - 1).toNat sec.length else []
end Go.Proofs.Ythmooplhhkafcaa
