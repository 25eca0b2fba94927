/- looks. -/
import Derived.Test.YtiapoinobdnboaaLeU
namespace Go.Proofs.Ytiapoinobdnboaa.Le
open Go Go.RowKit Base Mem
set_option linter.unusedSimpArgs false
set_option linter.unusedVariables false
abbrev RdO := Rd1 (fun b : Bool => Value.bool b)
/-- The bits are these. -/
structure Same (n : Nat) (B : List UInt8) (xs : List Bool) : Prop where
  len : xs.length = n
  at_ : ∀ i, i < n → xs[i]? = some (bitOf B i)
  rest : ∀ i, n ≤ i → bitOf B i = false
theorem max_low {j lo : Nat} (h : lo ≤ j) : max j lo = j := by omega
theorem max_high {j lo : Nat} (h : j < lo) : max (j + 1) lo = max j lo := by omega
set_option maxRecDepth 100000 in
set_option maxHeartbeats 1000000 in
theorem looks_any (g R n : Nat) (B : List UInt8) (v : Value) (xs : List Bool) (from_ : Int) (w : World) (h : Bts w g R n B) (hr : RdO w.heap.size w v xs) (hs : Same n B xs) :
    Calls Try.prog 33 #[.pointer (some ⟨g, 0, none⟩), v, .int .i64 from_] w fun e w' => e = .returned (.bool true) ∧ w' = w := by
  obtain ⟨A, c, rfl, h1, h2, -, -⟩ := id hr
  clear h1 h2
  have hn := h.2.2.2
  have hL := h.2.2.1
  have HH := Lib.hid h
  have HR := Lib.hid hr
  have HS := Lib.hid hs
  have hlen := hs.len
  clear h hr hs
  have HC : Hid (cntTo (bitOf B) (8 * B.length) = cntTo (bitOf B) n) := Lib.hid (cntTo_more HS.out.rest _ (by omega))
  obtain ⟨lo, hlo⟩ : ∃ lo, from_.toNat = lo := ⟨_, rfl⟩
  have HLO := Lib.hid hlo
  clear hlo hL
  go_enter Try.func33, Try.ntmps33
  go_wp2
  rw [hlen]
  go_loop [7, 8, 9, 10] (fun a b d i => ∃ (j c : Nat) (r1 r2 z : Int), j ≤ n ∧ i = .int .i64 z ∧ z = (j : Int) - 1 ∧ a = .int .i64 (c : Int) ∧ c + cntTo (bitOf B) j = cntTo (bitOf B) n ∧ b = .int .i64 r1 ∧ d = .int .i64 r2 ∧ IsFirst (bitOf B) true (max j lo) n r1 ∧ IsFirst (bitOf B) false (max j lo) n r2) (fun _ _ _ i => (intOf i + 1).toNat)
  case atStart => exact ⟨n, 0, -1, -1, _, Nat.le_refl _, rfl, rfl, rfl, by omega, rfl, rfl, IsFirst.none_ (by omega), IsFirst.none_ (by omega)⟩
  case round =>
    obtain ⟨j, c1, r1, r2, z, hj, rfl, hz, rfl, hc, rfl, rfl, hf1, hf2⟩ := hrel
    have HF1 := Lib.hid hf1
    have HF2 := Lib.hid hf2
    have HCC := Lib.hid hc
    clear hf1 hf2 hc
    rcases j with _ | k
    · have hz2 : z < 0 := by omega
      clear hz
      have hc1 : cntTo (bitOf B) (8 * B.length) = c1 := by have := HCC.out; rw [HC.out]; simpa [cntTo] using this.symm
      have HC1 := Lib.hid hc1
      have hF1 : IsFirst (bitOf B) true from_.toNat n r1 := by have := HF1.out; rw [HLO.out]; simpa using this
      have hF2 : IsFirst (bitOf B) false from_.toNat n r2 := by have := HF2.out; rw [HLO.out]; simpa using this
      have HF1 := Lib.hid hF1
      have HF2 := Lib.hid hF2
      clear hc1 hF1 hF2
      go_wp2_with fail
      refine (Count_any g R n B _ HH.out).mono ?_
      rw [HC1.out]
      rintro e w' ⟨rfl, rfl⟩
      go_wp2_with fail
      refine (First_any g R n B true from_ r1 _ HH.out HF1.out).mono ?_
      rintro e w'' ⟨rfl, rfl⟩
      go_wp2_with fail
      refine (First_any g R n B false from_ r2 _ HH.out HF2.out).mono ?_
      rintro e w3 ⟨rfl, rfl⟩
      go_wp2
      go_ret
      exact ⟨rfl, rfl⟩
    · obtain rfl : z = (k : Int) := by omega
      clear hz
      have hkn : k < n := by omega
      obtain ⟨g', o, x, rfl, hg', hx, hcell⟩ := HR.out.at_ (show k < xs.length by omega)
      have hxb : bitOf B k = x := by have := HS.out.at_ k hkn; rw [hx] at this; cases this; rfl
      have HX := Lib.hid hxb
      have hcl := cntTo_le (bitOf B) n
      have HN : Hid (c1 + (cntTo (bitOf B) k + (if x then 1 else 0)) = cntTo (bitOf B) n) := Lib.hid (by have := HCC.out; rw [← hxb]; exact this)
      have hc1b : c1 ≤ 65536 := by have := HCC.out; omega
      clear hx hxb hcl
      by_cases hfr : from_ ≤ (k : Int)
      · have hlo2 : lo ≤ k := by have := HLO.out; omega
        have G1 := Lib.hid (by have := HF1.out; rw [max_low (show lo ≤ k + 1 by omega)] at this; exact this.step hkn)
        have G2 := Lib.hid (by have := HF2.out; rw [max_low (show lo ≤ k + 1 by omega)] at this; exact this.step hkn)
        rw [HX.out] at G1 G2
        cases x
        all_goals
          simp only [if_true, if_false, Bool.false_eq_true, Bool.true_eq_false, reduceCtorEq] at G1 G2 HN
          go_wp2
          go_round
          case rel => first
            | exact ⟨k, c1, _, _, _, by omega, rfl, by go_num, rfl, (by have := HN.out; omega), rfl, rfl, by rw [max_low hlo2]; exact G1.out, by rw [max_low hlo2]; exact G2.out⟩
            | exact ⟨k, c1 + 1, _, _, _, by omega, rfl, by go_num, by first | rfl | go_num, (by have := HN.out; omega), rfl, rfl, by rw [max_low hlo2]; exact G1.out, by rw [max_low hlo2]; exact G2.out⟩
          case measure => simp [intOf]; try omega
      · have hlo2 : k < lo := by have := HLO.out; omega
        have hfr' : (k : Int) < from_ := by omega
        have G1 := Lib.hid (by have := HF1.out; rw [max_high hlo2] at this; exact this)
        have G2 := Lib.hid (by have := HF2.out; rw [max_high hlo2] at this; exact this)
        cases x
        all_goals
          simp only [if_true, if_false, Bool.false_eq_true, Bool.true_eq_false, reduceCtorEq] at HN
          go_wp2
          go_round
          case rel => first
            | exact ⟨k, c1, _, _, _, by omega, rfl, by go_num, rfl, (by have := HN.out; omega), rfl, rfl, G1.out, G2.out⟩
            | exact ⟨k, c1 + 1, _, _, _, by omega, rfl, by go_num, by first | rfl | go_num, (by have := HN.out; omega), rfl, rfl, G1.out, G2.out⟩
          case measure => simp [intOf]; try omega
end Go.Proofs.Ytiapoinobdnboaa.Le
