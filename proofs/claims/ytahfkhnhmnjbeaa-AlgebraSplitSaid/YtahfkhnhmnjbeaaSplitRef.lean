/- The contracts of Value, Poly and Split of the reference, and of the comparison of shares. Conditions: as each statement says. -/
import Derived.Test.YtahfkhnhmnjbeaaPush
import Derived.Test.YtahfkhnhmnjbeaaShare
import Derived.Test.YtahfkhnhmnjbeaaHashMath
import Derived.Test.YtahfkhnhmnjbeaaRefField
import Derived.Test.YtahfkhnhmnjbeaaShareV
import Derived.Deep.RegionHeld3
namespace Go.Proofs.Ytahfkhnhmnjbeaa
open Go.RowKit
set_option linter.unusedVariables false
theorem sumP_val (key : Nat) (hk : key < 256) : ∀ (p : List Nat) (t : Nat), Bytes p → t < 256 → sumP 8 key p t = gm 8 (valF p key) t
  | [], t, _, _ => by simp [sumP, valF, zero_gm isW8]
  | c :: r, t, hp, ht => by
    have hg : gm 8 t key < 256 := gm8_lt ht
    have hv := valF_lt hp.tail key
    rw [sumP, sumP_val key hk r _ hp.tail hg, valF_cons, gm_xor_left isW8 (gm8_lt hv) hp.head, gm_assoc isW8 hv hk ht, gm_comm isW8 ht hk, Nat.xor_comm]
set_option maxHeartbeats 1000000 in
theorem refValue_nat (A : Option Addr) (n c : Nat) (p : List Nat) (x : Nat) (w : World) (B : Nat) (hn : n ≤ 1073741824) (hp : Bytes p) (hx : x < 256) (h : Rd w B 1 A n (u8s p)) :
    Calls Try.prog 64 #[.slice A n c, .int .u8 x] w fun e w' => e = .returned (.int .u8 (valF p x)) ∧ w = w' := by
  have hl : p.length = n := by have := h.1; simpa [u8s] using this
  have H := Lib.hid h; have HL := Lib.hid hl; have HP := Lib.hid hp
  clear h hl hp
  go_enter Try.func64, Try.ntmps64
  go_wp2
  go_loop [5, 6, 7] (fun o pw i => ∃ j a b : Nat, j ≤ n ∧ i = .int .i64 j ∧ o = .int .u64 a ∧ pw = .int .u64 b ∧ a < 256 ∧ b < 256 ∧ a ^^^ sumP 8 x (p.drop j) b = valF p x) (fun _ _ i => n - (intOf i).toNat)
  case atStart => exact ⟨0, 0, 1, Nat.zero_le _, rfl, rfl, rfl, by decide, by decide, by rw [Nat.zero_xor, List.drop_zero, sumP_val x hx p 1 HP.out (by decide), gm_one isW8]⟩
  case round =>
    obtain ⟨j, a, b, hj, rfl, rfl, rfl, ha, hb, he⟩ := hrel
    have HE := Lib.hid he; clear he
    by_cases hlt : j < n
    · have hjl : j < p.length := by rw [HL.out]; exact hlt
      obtain ⟨bb, off, rfl, hbb, hc⟩ := H.out.2 (by omega)
      have hcell : w.cell? ⟨bb, off + j, none⟩ = some (.int .u8 (p[j] : Nat)) := hc j _ (by simp [u8s, hjl])
      have hy := HP.out _ (List.getElem_mem hjl)
      have HS : Hid (sumP 8 x (p.drop j) b = gm 8 p[j] b ^^^ sumP 8 x (p.drop (j + 1)) (gm 8 b x)) := Lib.hid (by rw [List.drop_eq_getElem_cons hjl]; rfl)
      clear hc
      generalize p[j] = y at hcell hy HS
      clear hjl
      have hg1 : gm 8 y b < 256 := gm8_lt hy
      have hg2 : gm 8 b x < 256 := gm8_lt hb
      have M1 := refMul_nat 8 y b isW8 hy hb w
      have M2 := refMul_nat 8 b x isW8 hb hx w
      have HM1 := Lib.hid M1; have HM2 := Lib.hid M2
      clear M1 M2
      go_wp2_with fail
      refine HM1.out.mono ?_
      rintro e w' ⟨rfl, rfl⟩
      go_wp2_with fail
      refine HM2.out.mono ?_
      rintro e w' ⟨rfl, rfl⟩
      go_wp2_with fail
      go_round
      case rel => exact ⟨j + 1, a ^^^ gm 8 y b, gm 8 b x, by omega, by go_num, by rw [u64_xor' (by omega) (by omega)], rfl, xor8_lt ha hg1, hg2, by rw [← HE.out, HS.out, Nat.xor_assoc]⟩
      case measure => simp [intOf]; omega
    · obtain rfl : j = n := by omega
      have hv : a = valF p x := by have := HE.out; rwa [List.drop_of_length_le (by rw [HL.out]; exact Nat.le_refl _), sumP, Nat.xor_zero] at this
      have HV := Lib.hid hv
      clear hv HE
      go_wp2
      go_ret
      exact ⟨by rw [HV.out]; rfl, rfl⟩
theorem refValue_any (A : Option Addr) (n c : Nat) (p : List Nat) (x : Int) (w : World) (B : Nat) (hn : n ≤ 1073741824) (hp : Bytes p) (hx0 : 0 ≤ x) (hx : x ≤ 255) (h : Rd w B 1 A n (u8s p)) :
    Calls Try.prog 64 #[.slice A n c, .int .u8 x] w fun e w' => e = .returned (.int .u8 (valF p x.toNat)) ∧ w = w' := by
  have := refValue_nat A n c p x.toNat w B hn hp (by omega) h
  rw [toNat_cast_eq hx0] at this
  exact this
/-- The polynomial of byte j. -/
def polyL (sec co : List Nat) (q j : Nat) : List Nat := sec.getD j 0 :: (co.drop (j * q)).take q
set_option maxRecDepth 100000 in
set_option maxHeartbeats 1000000 in
theorem Poly_any (A A' : Option Addr) (n c m c' q j : Nat) (sec co : List Nat) (w : World) (hn : n ≤ 1024) (hq : q ≤ 15) (hj : j < n) (hm : m = n * q) (hmc : m ≤ c') (hs : Bytes sec) (h : Rd w w.heap.size 1 A n (u8s sec)) (h' : Rd w w.heap.size 1 A' m (u8s co)) :
    Calls Try.prog 65 #[.slice A n c, .slice A' m c', .int .i64 ((q : Int) + 1), .int .i64 j] w (RetOwn w 5 1 (q + 1) (u8s (polyL sec co q j)) id) := by
  have hl : sec.length = n := by have := h.1; simpa [u8s] using this
  obtain ⟨b, off, rfl, hb, hc⟩ := h.2 (by omega)
  have hjl : j < sec.length := by omega
  have hcell : w.cell? ⟨b, off + j, none⟩ = some (.int .u8 (sec[j] : Nat)) := hc j _ (by simp [u8s, hjl])
  have hjq1 : (j + 1) * q ≤ m := by rw [hm]; exact Nat.mul_le_mul_right _ hj
  have hjq2 : (j + 1) * q = j * q + q := by rw [Nat.add_mul, Nat.one_mul]
  have hmm : m ≤ 1024 * 15 := by rw [hm]; exact Nat.mul_le_mul hn hq
  obtain ⟨A2, hsl, hrd2⟩ := slice_cut (P := Try.prog) (t := 22) (sz := 1) Try.underlying22 Try.sizeOf5 h' (j * q) ((j + 1) * q) c' (by omega) hjq1 hmc
  rw [show (j + 1) * q - j * q = q by omega] at hsl hrd2
  have HRD : Hid (Rd w w.heap.size 1 A2 q (u8s ((co.drop (j * q)).take q))) := Lib.hid (by simpa [u8s, List.map_drop, List.map_take] using hrd2)
  have HY : Hid (u8s [sec[j]] ++ u8s ((co.drop (j * q)).take q) = u8s (polyL sec co q j)) := Lib.hid (by simp [polyL, u8s, hjl])
  have hm0 := i64_small q (by omega)
  have hm3 : IntKind.i64.wrap ((j : Int) + 1) = (j : Int) + 1 := i64_small (j + 1) (by omega)
  have hm1 := i64_mul' j q (by omega)
  have hm2 := i64_mul1 j q (by omega)
  have HS := Lib.hid hs
  have hsy := hs _ (List.getElem_mem hjl)
  generalize sec[j] = y at hcell HY hsy
  generalize (co.drop (j * q)).take q = pl at HRD HY
  have HH := Lib.hid h; have HH' := Lib.hid h'
  clear h h' hc hrd2 hjl hl hs hm HS
  have HJ := Lib.hid hjq1; have HJ2 := Lib.hid hjq2
  clear hjq1 hjq2
  generalize j * q = P1 at hsl hm1 HJ2
  generalize (j + 1) * q = P2 at hsl hm2 HJ HJ2
  go_enter Try.func65, Try.ntmps65
  go_wp2
  go_region_held3 (fun w' => w'.cell? ⟨b, off + j, none⟩ = some (.int .u8 y))
    (first | go_keep | (rw [hb1.cell (p := ⟨b, off + j, none⟩) hb]; go_keep))
    ((refine step_put elB_u8 _ _ (by rfl) (by rfl) w.heap.size 1 [.int .u8 y] (by rfl) (own_new _ #[.int .u8 y] 5 1 rfl (by omega)) (by rfl) (HRD.out.alloc (Nat.le_refl _) _) (oneCell_map fun _ => rfl) (by omega) (by decide) (by simp) ?_; intro v1 w1 hown1 hb1 _))
  go_wp2
  go_ret
  have h1 := hown1
  rw [show 1 + q = q + 1 by omega, show ([Value.int IntKind.u8 (y : Int)] : List Value) = u8s [y] from rfl, HY.out] at h1
  exact RetOwn.of (mk := id) h1 ((((Below.refl _ _).alloc (Nat.le_refl _) _).drew).trans hb1)
/-- The shares of a secret, as the definition says. -/
def sharesV (sec co : List Nat) (q n N : Nat) : List (Nat × List Nat) := (List.range N).map fun i => (i + 1, shareY sec co q (i + 1) n)
theorem sharesV_snoc (sec co : List Nat) (q n N : Nat) : sharesV sec co q n (N + 1) = sharesV sec co q n N ++ [(N + 1, shareY sec co q (N + 1) n)] := by simp [sharesV, List.range_succ]
theorem polyL_bytes {sec co : List Nat} {q j : Nat} (hs : Bytes sec) (hc : Bytes co) : Bytes (polyL sec co q j) := by
  refine Bytes.cons ?_ ((hc.drop _).take _)
  rcases Nat.lt_or_ge j sec.length with h | h
  · simp only [List.getD, List.getElem?_eq_getElem h, Option.getD_some]; exact hs _ (List.getElem_mem h)
  · simp [List.getD, List.getElem?_eq_none h]
theorem polyL_val (sec co : List Nat) (q j x : Nat) : valF (polyL sec co q j) x = shareB sec co q x j := rfl
theorem shareY_bytes {sec co : List Nat} {q x n : Nat} (hs : Bytes sec) (hc : Bytes co) : Bytes (shareY sec co q x n) := fun y hy => by
  obtain ⟨j, _, rfl⟩ := List.mem_map.1 hy
  rw [← polyL_val]; exact valF_lt (polyL_bytes hs hc) x
set_option maxRecDepth 100000 in
set_option maxHeartbeats 2000000 in
theorem refSplit_any (A A' : Option Addr) (n c m c' q N : Nat) (sec co : List Nat) (w : World) (hn : n ≤ 1024) (hN : N ≤ 16) (hqN : q + 1 ≤ N) (hm : m = n * q) (hmc : m ≤ c') (hs : Bytes sec) (hco : Bytes co) (h : Rd w w.heap.size 1 A n (u8s sec)) (h' : Rd w w.heap.size 1 A' m (u8s co)) :
    Calls Try.prog 18 #[.slice A n c, .int .i64 N, .int .i64 ((q : Int) + 1), .slice A' m c'] w
      (RetShares w N (sharesV sec co q n N) id) := by
  have H := Lib.hid h; have H' := Lib.hid h'; have HS := Lib.hid hs; have HCO := Lib.hid hco; have HM := Lib.hid hm
  clear h h' hs hco hm
  go_enter Try.func18, Try.ntmps18
  go_wp2
  go_loopw [9, 10] (fun v i wr => ∃ (k : Nat) (l : List ShareV), k ≤ N ∧ i = .int .i64 ((k : Int) + 1) ∧ ShOwn wr w.heap.size v k l ∧ l.map ShareV.view = sharesV sec co q n k ∧ Below w.heap.size w wr) (fun _ i _ => N + 1 - (intOf i).toNat)
  case atStart => exact ⟨0, [], Nat.zero_le _, rfl, ShOwn.nil _ _, rfl, Below.refl _ _⟩
  case round =>
    obtain ⟨wp, rfl⟩ : ∃ wp : World, wp = wr := ⟨_, rfl⟩
    obtain ⟨k, l, hk, rfl, hown, hl, hb⟩ := hrel
    have hsz := hb.size
    have HO := Lib.hid hown; have HLV := Lib.hid hl
    clear hown hl
    by_cases hlt : k < N
    · have hki : ((k : Int) + 1) ≤ (N : Int) := by omega
      go_wp2
      go_loopw [11, 12] (fun v j wr => ∃ p : Nat, p ≤ n ∧ j = .int .i64 p ∧ wr.ownsRow wp.heap.size 5 1 v p (u8s (shareY sec co q (k + 1) p)) ∧ Below wp.heap.size wp wr) (fun _ j _ => n - (intOf j).toNat)
      case atStart => exact ⟨0, Nat.zero_le _, rfl, by simpa [shareY, u8s] using World.ownsRow_nil _ _ _ _, Below.refl _ _⟩
      case round =>
        obtain ⟨p, hp, rfl, hown, hb2⟩ := hrel
        have hs2 := hb2.size
        have HO2 := Lib.hid hown
        clear hown
        have hbw : Below w.heap.size w wr := hb.trans (hb2.mono hsz)
        by_cases hlp : p < n
        · have hpi : (p : Int) < (n : Int) := by omega
          go_wp2_with fail
          refine (Poly_any A A' n c m c' q p sec co _ hn (by omega) hlp HM.out hmc HS.out ((H.out.below hbw).mono (by omega)) ((H'.out.below hbw).mono (by omega))).mono ?_
          rintro e w3 ⟨A3, c3, rfl, hc3, hown3, hb3⟩
          have R3 := Lib.hid (Rd.own hown3); clear hown3
          have s3 := hb3.size
          try dsimp only [id]
          have HPB := Lib.hid (polyL_bytes (q := q) (j := p) HS.out HCO.out)
          have hk8 : (k : Int) + 1 ≤ 255 := by omega
          go_wp2_with fail
          refine (refValue_nat A3 _ _ _ (k + 1) _ _ (by omega) HPB.out (by omega) R3.out).mono ?_
          rintro e w' ⟨rfl, rfl⟩
          rw [polyL_val]
          have HO3 := Lib.hid (ownsRow_below HO2.out hb3 (Nat.le_refl _)); clear HO2
          go_wp2_with (at_builtin; refine wpList_push elB_u8 (.tmp 24) (.tmp 33) rfl rfl wp.heap.size p _ rfl HO3.out rfl rfl (one_cell1 rfl) (by omega) (by decide) (by omega) ?_; intro v4 w4 hown4 hb4 _)
          go_roundw
          case rel => exact ⟨p + 1, by omega, by go_num, by rw [shareY_snoc, u8s, List.map_append]; exact hown4, hb2.trans ((hb3.mono hs2).trans hb4)⟩
          case measure => simp [intOf]; omega
        · obtain rfl : p = n := by omega
          have hpi : ¬ (p : Int) < (p : Int) := by omega
          obtain ⟨A5, c5, rfl, hc5⟩ := own_form HO2.out
          have hX : (k : Int) + 1 ≤ 255 := by omega
          have HO6 := Lib.hid (HO.out.past hb2)
          have hbs : Hid (ShareV.own wr w.heap.size ⟨k + 1, A5, p, c5, shareY sec co q (k + 1) p⟩) := Lib.hid ⟨by simp only; omega, shareY_bytes HS.out HCO.out, hc5, by simp only; omega, ownsRow_mono HO2.out (by omega)⟩
          go_wp2_with (at_builtin; refine wpList_push elB_share (.tmp 35) (.tmp 40) rfl rfl w.heap.size k _ rfl HO6.out.2.1 rfl rfl (by intro u hu; simp at hu; rcases hu with rfl | rfl <;> rfl) (by omega) (by decide) (by omega) ?_; intro v6 w6 hown6 hb6 hg6)
          exact ⟨⟨k + 1, l ++ [⟨k + 1, A5, p, c5, shareY sec co q (k + 1) p⟩], by omega, by go_num, HO6.out.push hbs.out (by simpa using hown6) hg6, by rw [List.map_append, HLV.out, sharesV_snoc]; rfl, (hb.trans (hb2.mono hsz)).trans hb6⟩, by simp [intOf]; omega⟩
    · obtain rfl : k = N := by omega
      have hki : ¬ ((k : Int) + 1) ≤ (k : Int) := by omega
      go_wp2
      go_ret
      exact RetShares.of (mk := id) HO.out HLV.out hb
end Go.Proofs.Ytahfkhnhmnjbeaa
