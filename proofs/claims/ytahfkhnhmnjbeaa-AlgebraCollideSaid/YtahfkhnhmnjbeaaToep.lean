/- Contracts of the Toeplitz hash (program and reference). Conditions: as each statement says. -/
import Derived.Test.YtahfkhnhmnjbeaaZip
import Derived.Test.YtahfkhnhmnjbeaaToepMath
namespace Go.Proofs.Ytahfkhnhmnjbeaa
open Go.RowKit
theorem ownsRow_base {w : World} {base base' : Nat} {t : TypeId} {sz n : Nat} {v : Value} {xs : List Value} (h : w.ownsRow base t sz v n xs) (hb : base' ≤ base) : w.ownsRow base' t sz v n xs := by
  refine ⟨h.1, ?_⟩
  rcases h.2 with h1 | ⟨g, cap, cur, hv, hg, rest⟩
  · exact .inl h1
  · exact .inr ⟨g, cap, cur, hv, by omega, rest⟩
def ToepRel (w : World) (seed a : List Bool) (out : Nat) (v i : Value) (wr : World) : Prop :=
  ∃ k : Nat, k ≤ a.length ∧ i = .int .i64 k ∧ ∃ A c, v = .slice A out c ∧ out ≤ c ∧ wr.ownsRow w.heap.size 4 1 (.slice A out c) out ((toepL seed a out k).map Value.bool) ∧ Below w.heap.size w wr
set_option maxRecDepth 100000 in
set_option maxHeartbeats 1000000 in
theorem Toeplitz_ok (A A' : Option Addr) (s cs n c out : Nat) (seed a : List Bool) (w : World) (hn : n ≤ 512) (hout : out ≤ 512) (hs : s = n + out - 1) (hcs : s ≤ cs)
    (h : Rd w w.heap.size 1 A s (seed.map Value.bool)) (h' : Rd w w.heap.size 1 A' n (a.map Value.bool)) :
    Calls Try.prog 25 #[.slice A s cs, .slice A' n c, .int .i64 out] w (RetOwn w 4 1 out ((toepL seed a out a.length).map Value.bool) (fun v => .tuple #[v, .int .i64 0])) := by
  have hl : seed.length = s := by have := h.1; simpa using this
  have hl' : a.length = n := by have := h'.1; simpa using this
  have hmax : max 0 ((n : Int) + (out : Int) - 1) = (s : Int) := by omega
  have H := Lib.hid h; clear h
  have H' := Lib.hid h'; clear h'
  have HL := Lib.hid hl; clear hl
  have HL' := Lib.hid hl'; clear hl'
  have HS := Lib.hid hs; clear hs
  have hmk := fun w => make_bool w out (by omega)
  go_enter Try.func25, Try.ntmps25
  go_wp2
  clear hmk hmax
  all_goals
    go_loopw [8, 34] (fun v i wr => ToepRel w seed a out v i wr) (fun _ i _ => n - (intOf i).toNat)
    case atStart =>
      refine ⟨0, Nat.zero_le _, rfl, _, _, rfl, Nat.le_refl _, own_of_row (xs := (toepL seed a out 0).map Value.bool) ?_ (by simp [toepL]) (Nat.le_refl _) (by simp [maxLen]; omega), (Below.refl _ _).alloc (Nat.le_refl _) _⟩
      rw [toepL_zero]
      simpa using heap_alloc_new w _
    case round =>
      obtain ⟨k, hk, rfl, Ah, ch, rfl, hch, hown, hbw⟩ := hrel
      have hsz := hbw.size
      have hkn : k ≤ n := by rw [← HL'.out]; exact hk
      by_cases hlt : k < n
      · obtain ⟨b', off', rfl, hb', hc'⟩ := H'.out.2 (by omega)
        have hka : k < a.length := by rw [HL'.out]; exact hlt
        have h1 : wr.cell? ⟨b', off' + k, none⟩ = some (.bool (a.getD k false)) := (hbw.cell (p := ⟨b', off' + k, none⟩) hb').trans (hc' k _ (by simp [hka]))
        have HK : Hid (k < a.length) := Lib.hid hka
        clear hc' hka hk
        cases hx : a.getD k false with
        | false =>
          rw [hx] at h1
          have HS := Lib.hid (toepL_skip (seed := seed) (out := out) hx)
          clear hx
          go_wp2
          refine ⟨⟨k + 1, HK.out, by go_num, Ah, ch, rfl, hch, by rw [HS.out]; exact hown, hbw⟩, by simp [intOf]; omega⟩
        | true =>
          rw [hx] at h1
          by_cases ho : out = 0
          · subst ho
            clear hx
            go_wp2
            refine ⟨⟨k + 1, HK.out, by go_num, Ah, ch, rfl, hch, hown, hbw⟩, by simp [intOf]; omega⟩
          · have ho' : (0 : Int) < (out : Int) := by omega
            obtain ⟨q, hq⟩ : ∃ q, q = n - 1 - k := ⟨_, rfl⟩
            have hqi : (n : Int) - 1 - (k : Int) = (q : Int) := by omega
            have hqs : q + out ≤ s := by have := HS.out; omega
            obtain ⟨A2, hsl, hrd⟩ := slice_cut (P := Try.prog) (t := 45) (sz := 1) Try.underlying45 Try.sizeOf4 (H.out.below hbw) q (q + out) cs (by omega) hqs hcs
            rw [show q + out - q = out by omega] at hsl hrd
            simp only [Int.natCast_add] at hsl
            have hrd' : Rd wr wr.heap.size 1 A2 out (((seed.drop q).take out).map Value.bool) := (by simpa [List.map_drop, List.map_take] using hrd : Rd wr w.heap.size 1 A2 out (((seed.drop q).take out).map Value.bool)).mono hsz
            have HRD := Lib.hid hrd'
            have HS2 := Lib.hid (toepL_add (seed := seed) (a := a) (out := out) (q := q) HK.out (by rw [HL'.out]; exact hq) (by rw [HL.out]; exact hqs) hx)
            have HRA := Lib.hid (Rd.own hown)
            have HQ := Lib.hid hq
            clear hx hrd hrd' hq
            go_wp2_with fail
            all_goals
              refine (zip_differ _ _ _ _ _ (toepL seed a out k) ((seed.drop q).take out) _ (by omega) HRA.out HRD.out).mono ?_
              rintro e w1 ⟨A3, c3, rfl, hc3, hown3, hb3⟩
              dsimp only [id]
              go_wp2
              refine ⟨⟨k + 1, HK.out, by go_num, A3, c3, rfl, hc3, by rw [HS2.out]; exact ownsRow_base hown3 hsz, hbw.trans (hb3.mono hsz)⟩, by simp [intOf]; omega⟩
      · go_wp2
        go_ret2
        have e : k = a.length := by rw [HL'.out] at hk; have := HL'.out; omega
        rw [← e]
        exact ⟨Ah, ch, rfl, hch, hown, hbw⟩
end Go.Proofs.Ytahfkhnhmnjbeaa
