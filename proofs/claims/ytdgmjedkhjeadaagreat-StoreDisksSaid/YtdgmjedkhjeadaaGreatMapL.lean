/- Maps in memory, with the list of their keys. Conditions: as each statement says. -/
import Derived.Test.YtdgmjedkhjeadaaGreatMapV
import Derived.Sort.KeysCollected
import Derived.StringKeys
import Derived.Maps.OwnSet
namespace Go.Proofs.YtdgmjedkhjeadaaGreat
open Go.RowKit
open Go.Maps (Keyed)
set_option linter.unusedVariables false
/-- Block b is a map with the keys l that holds what f says. -/
def MapL {k : TypeId} {κ : Type} (K : KeyT k κ) (w : World) (b : Nat) (l : List κ) (f : κ → Option Value) : Prop :=
  ∃ D : DataW Value, w.ownsMap Tryz.prog k rawR b l.length D ∧ Maps.Tidy D ∧ Maps.size D = l.length ∧ l.Nodup ∧ (∀ x ∈ l, K.ok x) ∧ (∀ x, K.ok x → ((f x).isSome = true ↔ x ∈ l)) ∧
    ∀ x, K.ok x → ∀ kl, keyOf Tryz.prog k (K.kv x) = some kl → Maps.has D kl = (f x).isSome ∧ ∀ z, D.atKey kl (.held z) = .held ((f x).getD z)
section
variable {k : TypeId} {κ : Type} {K : KeyT k κ} {w w' : World} {b : Nat} {l : List κ} {f : κ → Option Value}
theorem MapL.at' (h : MapL K w b l f) : MapAt K w b l.length f := by
  obtain ⟨D, h1, h2, _, _, _, _, h3⟩ := h
  exact ⟨D, h1, h2.isMap, h3⟩
theorem MapL.made (K : KeyT k κ) (w : World) : MapL K (w.alloc (.map #[] 0)) w.heap.size [] (fun _ => none) :=
  ⟨.map [], World.ownsMap_made w _ _ _, Maps.tidy_empty, rfl, List.nodup_nil, by simp, by simp, fun x hx kl hk => ⟨rfl, fun z => rfl⟩⟩
theorem MapL.keep (h : MapL K w b l f) (hk : w'.heap[b]? = w.heap[b]?) : MapL K w' b l f := by
  obtain ⟨D, ⟨es, clock, hb, r⟩, hm⟩ := h
  exact ⟨D, ⟨es, clock, hk.trans hb, r⟩, hm⟩
theorem MapL.lt (h : MapL K w b l f) : b < w.heap.size := h.at'.lt
theorem MapL.nodup (h : MapL K w b l f) : l.Nodup := by obtain ⟨D, _, _, _, h1, _⟩ := h; exact h1
theorem MapL.ok (h : MapL K w b l f) : ∀ x ∈ l, K.ok x := by obtain ⟨D, _, _, _, _, h1, _⟩ := h; exact h1
theorem MapL.dom (h : MapL K w b l f) {x : κ} (hx : K.ok x) : (f x).isSome = true ↔ x ∈ l := by obtain ⟨D, _, _, _, _, _, h1, _⟩ := h; exact h1 x hx
theorem MapL.len {t e : TypeId} (h : MapL K w b l f) (ht : Tryz.prog.underlying t = some (.map k e)) (ty : TypeId) : (Builtin.len_ #[t] ty #[.map (some b)]).run Tryz.prog w = .ok (.int .i64 l.length) w := by
  obtain ⟨D, h1, _, h2, _⟩ := h
  rw [h1.len ht ty, h2]
theorem MapL.same {g : κ → Option Value} (h : MapL K w b l f) (hg : ∀ x, K.ok x → f x = g x) : MapL K w b l g := by
  obtain ⟨D, h1, h2, h3, h4, h5, h6, h7⟩ := h
  exact ⟨D, h1, h2, h3, h4, h5, fun x hx => by rw [← hg x hx]; exact h6 x hx, fun x hx kl hk => by rw [← hg x hx]; exact h7 x hx kl hk⟩
theorem ownsMap_exact {H : Type} {P : Program} {k : TypeId} {R : Value → Option (DataW H × List MemPlace)} {b n : Nat} {D : DataW H} (h : w.ownsMap P k R b n D) : w.ownsMap P k R b (Maps.size D) D := by
  obtain ⟨es, clock, hb, F, _, rfl⟩ := h
  exact ⟨es, clock, hb, F, by simp [Maps.size, length_sorted], rfl⟩
theorem MapL.store [DecidableEq κ] {t e : TypeId} (h : MapL K w b l f) (ht : Tryz.prog.underlying t = some (.map k e)) {x : κ} (hx : K.ok x) (v : Value) (hn : l.length < 1000000000) :
    ∃ w', (Instr.mapUpdate t (.map (some b)) (K.kv x) v).run Tryz.prog w = .ok () w' ∧ MapL K w' b (if x ∈ l then l else l ++ [x]) (fun y => if y = x then some v else f y) ∧ w.grownBy w' (some b) := by
  obtain ⟨D, ho, hm, hsz, hnd, hok, hdom, hD⟩ := h
  obtain ⟨kl, hkl⟩ := K.key x hx
  obtain ⟨w', hrun, ho', hg⟩ := ho.update K.law ht (by unfold maxLen; omega) hkl (d := .held v) (ps := []) rfl
  have hsz' : Maps.size (D.put kl (.held v)) = (if x ∈ l then l else l ++ [x]).length := by
    rw [Maps.size_put hm, (hD x hx kl hkl).1]
    by_cases hxl : x ∈ l
    · rw [if_pos ((hdom x hx).2 hxl), if_pos hxl, hsz]
    · have : ¬ (f x).isSome = true := fun e => hxl ((hdom x hx).1 e)
      rw [if_neg this, if_neg hxl, hsz]; simp
  refine ⟨w', hrun, ⟨_, hsz' ▸ ownsMap_exact ho', hm.put (K.law.key hkl) _, hsz', ?_, ?_, ?_, fun y hy ky hky => ?_⟩, hg⟩
  · split
    · exact hnd
    · rename_i hxl
      rw [List.nodup_append]
      exact ⟨hnd, by simp, fun a ha c hc e => by rw [List.mem_singleton] at hc; subst hc; subst e; exact hxl ha⟩
  · intro y hy
    split at hy
    · exact hok y hy
    · rcases List.mem_append.1 hy with hy | hy
      · exact hok y hy
      · rw [List.mem_singleton] at hy; subst hy; exact hx
  · intro y hy
    dsimp only
    by_cases hxy : y = x
    · subst hxy
      rw [if_pos rfl]
      split
      · rename_i hxl; simp [hxl]
      · simp
    · rw [if_neg hxy, hdom y hy]
      split
      · exact Iff.rfl
      · simp [hxy]
  · obtain ⟨h1, h2⟩ := hD y hy ky hky
    by_cases hxy : y = x
    · subst hxy
      obtain rfl : kl = ky := Option.some.inj (hkl.symm.trans hky)
      dsimp only
      rw [if_pos rfl, Maps.has_put_same hm.isMap (K.law.key hkl)]
      exact ⟨rfl, fun z => by rw [Maps.atKey_put_same hm.isMap (K.law.key hkl)]; rfl⟩
    · have hne : ky ≠ kl := fun e => hxy (K.inj y x (K.law.inj hky (e ▸ hkl)))
      dsimp only
      rw [if_neg hxy, Maps.has_put_other hne, h1]
      exact ⟨rfl, fun z => by rw [Maps.atKey_put_other hne]; exact h2 z⟩
end
/-- Strings as keys. -/
def strK : KeyT 9 (List UInt8) where
  kv := fun x => .string ⟨x.toArray⟩
  ok x := x.length ≤ maxLen
  law := Go.Maps.string_keyed Tryz.underlying9
  key x hx := ⟨_, WideMaps.keyOf_string_mk Tryz.underlying9 (by simpa [ByteArray.size] using hx)⟩
  inj x y h := encStr_inj h
theorem MapL.perm {w : World} {b : Nat} {l : List (List UInt8)} {f : List UInt8 → Option Value} (h : MapL strK w b l f) :
    ∃ D : DataW Value, w.ownsMap Tryz.prog 9 rawR b l.length D ∧ Maps.size D = l.length ∧ l.Perm (strKeys D) := by
  obtain ⟨D, h1, h2, h3, h4, h5, h6, h7⟩ := h
  refine ⟨D, h1, h3, ?_⟩
  obtain ⟨es, rfl, hp⟩ := h2
  obtain ⟨es', he', hko⟩ := h1.keysOf
  obtain rfl : es = es' := by simpa using he'
  have hks : ∀ p ∈ es, ∃ x, p.1 = .string x ∧ x.length ≤ maxLen := fun p hp => by
    obtain ⟨v, hv⟩ := hko p hp
    obtain ⟨x, _, hx, hl⟩ := Maps.keyOf_str Tryz.underlying9 hv
    exact ⟨x, hx, hl⟩
  refine perm_strKeys hp (fun p hp => by obtain ⟨x, hx, _⟩ := hks p hp; exact ⟨x, hx⟩) h4 (fun x => ?_)
  have hkey : ∀ hx : x.length ≤ maxLen, keyOf Tryz.prog 9 (strK.kv x) = some (.string x) := fun hx => by
    have := WideMaps.keyOf_string_mk (P := Tryz.prog) (k := 9) Tryz.underlying9 (s := ⟨x.toArray⟩) (by simpa [ByteArray.size] using hx)
    simpa [strK] using this
  constructor
  · intro hx
    have hok := h5 x hx
    rw [(h7 x hok _ (hkey hok)).1]
    exact (h6 x hok).2 hx
  · intro hx
    have hok : x.length ≤ maxLen := by
      rw [Maps.has_eq, List.any_eq_true] at hx
      obtain ⟨p, hp1, hp2⟩ := hx
      obtain ⟨y, hy1, hy2⟩ := hks p hp1
      rw [hy1] at hp2
      have : y = x := by simpa [Lit.sameKey] using hp2
      rw [← this]; exact hy2
    rw [(h7 x hok _ (hkey hok)).1] at hx
    exact (h6 x hok).1 hx
end Go.Proofs.YtdgmjedkhjeadaaGreat
namespace Go.Proofs.YtdgmjedkhjeadaaGreat
open Go.RowKit
open Go.Maps (Keyed)
open Go.ChangeMaps Go.MapKept Go.WideShapes
set_option linter.unusedVariables false
section
variable {k : TypeId} {κ : Type} {K : KeyT k κ} {w w' : World} {b : Nat} {l : List κ} {f : κ → Option Value}
theorem MapL.del [DecidableEq κ] {t e : TypeId} (h : MapL K w b l f) (ht : Tryz.prog.underlying t = some (.map k e)) {x : κ} (hx : K.ok x) (ty : TypeId) :
    ∃ w', (Builtin.delete_ #[t, k] ty #[.map (some b), K.kv x]).run Tryz.prog w = .ok (.tuple #[]) w' ∧ MapL K w' b (l.erase x) (fun y => if y = x then none else f y) ∧ w.grownBy w' (some b) := by
  obtain ⟨D, ho, hm, hsz, hnd, hok, hdom, hD⟩ := h
  obtain ⟨kl, hkl⟩ := K.key x hx
  obtain ⟨w', hrun, ho', hg⟩ := ho.drop K.law ht hkl ty
  have hsd := Maps.size_del (k := kl) hm
  have hsz' : Maps.size (D.del kl) = (l.erase x).length := by
    rw [(hD x hx kl hkl).1] at hsd
    by_cases hxl : x ∈ l
    · rw [if_pos ((hdom x hx).2 hxl)] at hsd
      rw [List.length_erase_of_mem hxl]; omega
    · have : ¬ (f x).isSome = true := fun e => hxl ((hdom x hx).1 e)
      rw [if_neg this] at hsd
      rw [List.erase_of_not_mem hxl]; omega
  refine ⟨w', hrun, ⟨_, hsz' ▸ ownsMap_exact ho', hm.del _, hsz', hnd.erase x, fun y hy => hok y (List.mem_of_mem_erase hy), fun y hy => ?_, fun y hy ky hky => ?_⟩, hg.grown⟩
  · dsimp only
    rw [hnd.mem_erase_iff]
    by_cases hxy : y = x
    · subst hxy; simp
    · rw [if_neg hxy, hdom y hy]; simp [hxy]
  · obtain ⟨h1, h2⟩ := hD y hy ky hky
    by_cases hxy : y = x
    · subst hxy
      obtain rfl : kl = ky := Option.some.inj (hkl.symm.trans hky)
      dsimp only
      rw [if_pos rfl, Maps.has_del_same]
      exact ⟨rfl, fun z => by rw [Maps.atKey_del_same]; rfl⟩
    · have hne : ky ≠ kl := fun e => hxy (K.inj y x (K.law.inj hky (e ▸ hkl)))
      dsimp only
      rw [if_neg hxy, Maps.has_del_other hne, h1]
      exact ⟨rfl, fun z => by rw [Maps.atKey_del_other hne]; exact h2 z⟩
theorem MapL.clear {t e : TypeId} (h : MapL K w b l f) (ht : Tryz.prog.underlying t = some (.map k e)) (ty : TypeId) :
    ∃ w', (Builtin.clear_ #[t] ty #[.map (some b)]).run Tryz.prog w = .ok (.tuple #[]) w' ∧ MapL K w' b [] (fun _ => none) ∧ w.grownBy w' (some b) := by
  obtain ⟨D, ⟨es, clock, hb, F, hs, hD⟩, _⟩ := h
  have hrun : (Builtin.clear_ #[t] ty #[.map (some b)]).run Tryz.prog w = .ok (.tuple #[]) (setBlock w b (.map #[] clock)) := by
    simp [Builtin.clear_, run_underlying ht, Go.MapKept.run_getObj_map hb, Go.MapKept.run_setObj_map _ hb, setBlock, Result.andThen]
  refine ⟨_, hrun, ⟨.map [], ⟨#[], clock, heap_setBlock_same hb _, ⟨by simp, stamped_empty _, by simp⟩, Nat.le_refl _, rfl⟩, Maps.tidy_empty, rfl, List.nodup_nil, by simp, by simp, fun x hx kl hk => ⟨rfl, fun z => rfl⟩⟩, World.mapTurned.grown ⟨es, clock, #[], clock, hb, rfl⟩⟩
end
end Go.Proofs.YtdgmjedkhjeadaaGreat
