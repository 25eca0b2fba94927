/- le.Bits: Count, First; bits by number. -/
import Derived.Test.YtiapoinobdnboaaLeG
import Derived.Lib.BitFns
namespace Go.Proofs.Ytiapoinobdnboaa.Le
open Go Go.RowKit Base Mem
set_option linter.unusedSimpArgs false
set_option linter.unusedVariables false
/-- The first from lo on, below n, that is so. -/
def IsFirst (f : Nat → Bool) (is : Bool) (lo n : Nat) (r : Int) : Prop :=
  (r = -1 ∧ ∀ i, lo ≤ i → i < n → f i ≠ is) ∨ ∃ k : Nat, r = k ∧ lo ≤ k ∧ k < n ∧ f k = is ∧ ∀ i, lo ≤ i → i < k → f i ≠ is
theorem IsFirst.step {f : Nat → Bool} {is : Bool} {j n : Nat} {r : Int} (h : IsFirst f is (j + 1) n r) (hj : j < n) : IsFirst f is j n (if f j = is then (j : Int) else r) := by
  by_cases hf : f j = is
  · rw [if_pos hf]
    exact .inr ⟨j, rfl, Nat.le_refl _, hj, hf, fun i h1 h2 => by omega⟩
  · rw [if_neg hf]
    have hs : ∀ i, j ≤ i → (i = j ∨ j + 1 ≤ i) := fun i h => by omega
    rcases h with ⟨h1, h2⟩ | ⟨k, h1, h2, h3, h4, h5⟩
    · refine .inl ⟨h1, fun i a b => ?_⟩
      rcases hs i a with rfl | a
      · exact hf
      · exact h2 i a b
    · refine .inr ⟨k, h1, by omega, h3, h4, fun i a b => ?_⟩
      rcases hs i a with rfl | a
      · exact hf
      · exact h5 i a b
theorem IsFirst.none_ {f : Nat → Bool} {is : Bool} {lo n : Nat} (h : n ≤ lo) : IsFirst f is lo n (-1) := .inl ⟨rfl, fun i a b => by omega⟩
theorem IsFirst.found {f : Nat → Bool} {is : Bool} {lo n j : Nat} {r : Int} (h : IsFirst f is lo n r) (h1 : lo ≤ j) (h2 : j < n) (hf : f j = is) (hb : ∀ m, lo ≤ m → m < j → f m ≠ is) : r = j := by
  rcases h with ⟨-, h⟩ | ⟨k, rfl, a, b, c, d⟩
  · exact absurd hf (h j h1 h2)
  · rcases Nat.lt_trichotomy k j with e | e | e
    · exact absurd c (hb k a e)
    · rw [e]
    · exact absurd hf (d j h1 e)
theorem IsFirst.lost {f : Nat → Bool} {is : Bool} {lo n : Nat} {r : Int} (h : IsFirst f is lo n r) (hb : ∀ m, lo ≤ m → m < n → f m ≠ is) : r = -1 := by
  rcases h with ⟨h, -⟩ | ⟨k, rfl, a, b, c, d⟩
  · exact h
  · exact absurd c (hb k a b)
theorem IsFirst.congr {f f' : Nat → Bool} {is : Bool} {lo n : Nat} {r : Int} (h : IsFirst f is lo n r) (he : ∀ i, i < n → f i = f' i) : IsFirst f' is lo n r := by
  rcases h with ⟨h1, h2⟩ | ⟨k, h1, h2, h3, h4, h5⟩
  · exact .inl ⟨h1, fun i a b => by rw [← he i b]; exact h2 i a b⟩
  · exact .inr ⟨k, h1, h2, h3, by rw [← he k h3]; exact h4, fun i a b => by rw [← he i (by omega)]; exact h5 i a b⟩
/-- How many of the first m bits are set. -/
def cntTo (f : Nat → Bool) : Nat → Nat
  | 0 => 0
  | m + 1 => cntTo f m + (if f m then 1 else 0)
theorem cntTo_le (f : Nat → Bool) : ∀ m, cntTo f m ≤ m
  | 0 => Nat.le_refl _
  | m + 1 => by have := cntTo_le f m; unfold cntTo; split <;> omega
theorem cntTo_congr {f f' : Nat → Bool} : ∀ m, (∀ i, i < m → f i = f' i) → cntTo f m = cntTo f' m
  | 0, _ => rfl
  | m + 1, h => by unfold cntTo; rw [cntTo_congr m (fun i hi => h i (by omega)), h m (by omega)]
theorem cntTo_more {f : Nat → Bool} {n : Nat} (h : ∀ i, n ≤ i → f i = false) : ∀ m, n ≤ m → cntTo f m = cntTo f n
  | 0, hm => by obtain rfl : n = 0 := by omega
                rfl
  | m + 1, hm => by
    rcases Nat.lt_or_ge m n with e | e
    · obtain rfl : n = m + 1 := by omega
      rfl
    · show cntTo f m + _ = _
      rw [h m e, cntTo_more h m e]; simp
theorem ones_bits : ∀ n : Fin 256, Lib.onesCount n.val = cntTo (fun j => n.val / 2 ^ j % 2 == 1) 8 := by decide +kernel
theorem cnt_byte {B : List UInt8} {k : Nat} {x : UInt8} (h : B[k]? = some x) : cntTo (bitOf B) (8 * (k + 1)) = cntTo (bitOf B) (8 * k) + Lib.onesCount x.toNat := by
  have hb : ∀ j, j < 8 → bitOf B (8 * k + j) = (x.toNat / 2 ^ j % 2 == 1) := by
    intro j hj
    unfold bitOf
    rw [show (8 * k + j) / 8 = k by omega, show (8 * k + j) % 8 = j by omega, h, Option.getD_some]
  have h0 := hb 0 (by omega)
  have h1 := hb 1 (by omega)
  have h2 := hb 2 (by omega)
  have h3 := hb 3 (by omega)
  have h4 := hb 4 (by omega)
  have h5 := hb 5 (by omega)
  have h6 := hb 6 (by omega)
  have h7 := hb 7 (by omega)
  have ho := ones_bits ⟨x.toNat, bytes_lt x⟩
  show cntTo (bitOf B) (8 * k + 7 + 1) = _
  rw [ho]
  simp only [cntTo, h0, h1, h2, h3, h4, h5, h6, h7, Nat.add_zero] at *
  omega
theorem hasB_nat {n : Nat} {B : List UInt8} {k : Nat} (h : k < n) : hasB n B k = bitOf B k := by
  unfold hasB; rw [decide_eq_true (by omega), decide_eq_true (by omega), Int.toNat_natCast]; rfl
set_option maxRecDepth 100000 in
theorem Ones_int (x : Int) (w : World) (h0 : 0 ≤ x) (h1 : x ≤ 255) : Calls Try.prog 44 #[.int .u8 x] w fun e w' => e = .returned (.int .i64 (Lib.onesCount x.toNat)) ∧ w' = w := by
  rw [← Lib.pop8_int x h0 h1]
  go_enter Try.func44, Try.ntmps44
  go_wp2
  go_ret
  refine ⟨?_, rfl⟩
  show Ending.returned (.int .i64 (wrap64 (Lib.pop8 x))) = _
  rw [wrap64]
theorem Ones_any (x : Nat) (w : World) (h : x < 256) : Calls Try.prog 44 #[.int .u8 (x : Int)] w fun e w' => e = .returned (.int .i64 ((Lib.onesCount x : Nat) : Int)) ∧ w' = w :=
  Ones_int (x : Int) w (by omega) (by omega)
set_option maxRecDepth 100000 in
theorem Count_any (g R n : Nat) (B : List UInt8) (w : World) (h : Bts w g R n B) :
    Calls Try.prog 30 #[.pointer (some ⟨g, 0, none⟩)] w fun e w' => e = .returned (.int .i64 ((cntTo (bitOf B) (8 * B.length) : Nat) : Int)) ∧ w' = w := by
  obtain ⟨c0, c1, hg, hR, hne⟩ := h.open_
  have hL := h.2.2.1
  have hn := h.2.2.2
  have hl : B.length ≤ 8192 := by omega
  have HH := Lib.hid h
  clear h hL hn
  go_enter Try.func30, Try.ntmps30
  go_wp2
  go_loop [3, 5, 13] (fun a u i => ∃ j : Nat, j ≤ B.length ∧ i = .int .i64 (j : Int) ∧ a = .int .i64 ((cntTo (bitOf B) (8 * j) : Nat) : Int)) (fun _ _ i => B.length - (intOf i).toNat)
  case atStart => exact ⟨0, Nat.zero_le _, rfl, rfl⟩
  case round =>
    obtain ⟨j, hj, rfl, rfl⟩ := hrel
    by_cases hlt : j < B.length
    · obtain ⟨x, hx⟩ : ∃ x, B[j]? = some x := ⟨_, List.getElem?_eq_getElem hlt⟩
      have hc := HH.out.cell hx
      have hx8 := bytes_lt x
      have HN := Lib.hid (cnt_byte hx)
      have hcl := cntTo_le (bitOf B) (8 * j)
      have hcl2 := cntTo_le (bitOf B) (8 * (j + 1))
      rw [HN.out] at hcl2
      clear hx
      obtain ⟨c, hc2⟩ : ∃ c, cntTo (bitOf B) (8 * j) = c := ⟨_, rfl⟩
      rw [hc2] at hcl hcl2 ⊢
      have HC := Lib.hid hc2
      clear hc2
      obtain ⟨y, hy⟩ : ∃ y, x.toNat = y := ⟨_, rfl⟩
      rw [hy] at hc hx8 hcl2
      have HY := Lib.hid hy
      clear hy
      obtain ⟨o, ho⟩ : ∃ o, Lib.onesCount y = o := ⟨_, rfl⟩
      rw [ho] at hcl2
      have HO := Lib.hid ho
      clear ho
      go_wp2_with fail
      refine (Ones_any y _ hx8).mono ?_
      rw [HO.out]
      rintro e w' ⟨rfl, rfl⟩
      go_wp2
      go_round
      case rel => exact ⟨j + 1, by omega, by go_num, by rw [HN.out, HC.out, HY.out, HO.out]; go_num⟩
      case measure => simp [intOf]; omega
    · obtain rfl : j = B.length := by omega
      go_wp2
      go_ret
      exact ⟨rfl, rfl⟩
set_option maxRecDepth 100000 in
theorem First_any (g R n : Nat) (B : List UInt8) (is : Bool) (from_ : Int) (r : Int) (w : World) (h : Bts w g R n B) (hr : IsFirst (bitOf B) is from_.toNat n r) :
    Calls Try.prog 38 #[.pointer (some ⟨g, 0, none⟩), .bool is, .int .i64 from_] w fun e w' => e = .returned (.int .i64 r) ∧ w' = w := by
  obtain ⟨c0, c1, hg, hR, hne⟩ := h.open_
  have hn := h.2.2.2
  have HH := Lib.hid h
  have HR := Lib.hid hr
  clear h hr
  obtain ⟨lo, hlo⟩ : ∃ lo, from_.toNat = lo := ⟨_, rfl⟩
  rw [hlo] at HR
  have HLO := Lib.hid hlo
  clear hlo
  rcases (show 0 ≤ from_ ∨ from_ < 0 by omega) with hfr | hfr
  all_goals
    go_enter Try.func38, Try.ntmps38
    go_wp2
    go_loop [7] (fun i => ∃ j : Nat, lo ≤ j ∧ i = .int .i64 (j : Int) ∧ ∀ m, lo ≤ m → m < j → bitOf B m ≠ is) (fun i => n - (intOf i).toNat)
    case atStart => exact ⟨lo, Nat.le_refl _, by (have := HLO.out); first | rfl | (congr 1; omega), fun m a b => by omega⟩
    case round =>
      obtain ⟨j, hj, rfl, hb⟩ := hrel
      have HB := Lib.hid hb
      clear hb
      by_cases hlt : j < n
      · obtain ⟨z, hz⟩ : ∃ z, hasB n B j = z := ⟨_, rfl⟩
        have HZ := Lib.hid hz
        have hz2 : bitOf B j = z := by rw [← hz, hasB_nat hlt]
        by_cases he : z = is
        · have HE := Lib.hid (HR.out.found hj hlt (hz2.trans he) HB.out)
          subst he
          clear hz hz2
          go_wp2_with fail
          refine (Has_any g R n B j _ HH.out HZ.out).mono ?_
          rintro e w' ⟨rfl, rfl⟩
          cases z
          all_goals
            go_wp2
            go_ret
            exact ⟨by rw [HE.out]; rfl, rfl⟩
        · have HN : Hid (∀ m, lo ≤ m → m < j + 1 → bitOf B m ≠ is) := Lib.hid (fun m a b => by
            rcases Nat.lt_or_ge m j with e | e
            · exact HB.out m a e
            · obtain rfl : m = j := by omega
              rw [hz2]; exact he)
          clear hz hz2
          go_wp2_with fail
          refine (Has_any g R n B j _ HH.out HZ.out).mono ?_
          rintro e w' ⟨rfl, rfl⟩
          cases z <;> cases is
          · exact absurd rfl he
          · clear he
            go_wp2
            go_round
            case rel => exact ⟨j + 1, by omega, by go_num, HN.out⟩
            case measure => simp [intOf]; omega
          · clear he
            go_wp2
            go_round
            case rel => exact ⟨j + 1, by omega, by go_num, HN.out⟩
            case measure => simp [intOf]; omega
          · exact absurd rfl he
      · have HE := Lib.hid (HR.out.lost (fun m a b => HB.out m a (by omega)))
        have hge : (n : Int) ≤ j := by omega
        go_wp2
        go_ret
        exact ⟨by rw [HE.out]; rfl, rfl⟩
end Go.Proofs.Ytiapoinobdnboaa.Le
