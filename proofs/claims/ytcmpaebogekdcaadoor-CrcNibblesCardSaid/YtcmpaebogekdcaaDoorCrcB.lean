/- crc's matrices: times, square, step, shift; Zeros and Join. -/
import Derived.Test.YtcmpaebogekdcaaDoorCrcA
import Derived.StillTailTactics
namespace Go.Proofs.YtcmpaebogekdcaaDoor.Crc
open Go Go.RowKit Base Mem
set_option linter.unusedSimpArgs false
set_option linter.unusedVariables false
/-- Block g holds a matrix. -/
def Mat (w : World) (g : Nat) (m : Nat → Nat) : Prop := g < w.heap.size ∧ ∀ i, i < 32 → w.cell? ⟨g, i, none⟩ = some (.int .u32 ((m i : Nat) : Int))
theorem and1W {y : Nat} (h : y < 4294967296) : bits .and .u32 (y : Int) 1 = ((y % 2 : Nat) : Int) := by
  rw [← nat_mask1]; exact u32_and_nat y 1 h (by omega)
theorem tm_lt {m : Nat → Nat} (hm : ∀ i, i < 32 → m i < 4294967296) : ∀ k i r, i + k ≤ 32 → tm m k i r < 4294967296
  | 0, _, _, _ => by unfold tm; omega
  | k + 1, i, r, h => by
    rw [tm]
    refine xor_lt ?_ (tm_lt hm k (i + 1) _ (by omega))
    split
    · exact hm i (by omega)
    · omega
theorem tm_step {m : Nat → Nat} {i y : Nat} (h : i < 32) : tm m (32 - i) i y = (if y % 2 = 1 then m i else 0) ^^^ tm m (32 - (i + 1)) (i + 1) (y / 2) := by
  rw [show 32 - i = (32 - (i + 1)) + 1 by omega, tm]
theorem pow_half {i y : Nat} (h : i < 32) (hy : y < 2 ^ (32 - i)) : y / 2 < 2 ^ (32 - (i + 1)) := by
  rw [show 32 - i = (32 - (i + 1)) + 1 by omega, Nat.pow_succ] at hy; omega
theorem pow_le32 (i : Nat) : 2 ^ (32 - i) ≤ 4294967296 := Nat.pow_le_pow_right (n := 2) (by omega) (show 32 - i ≤ 32 by omega)
set_option maxRecDepth 100000 in
theorem times_any (g : Nat) (m : Nat → Nat) (r : Nat) (w : World) (hr : r < 4294967296) (hM : Mat w g m) (hm : ∀ i, i < 32 → m i < 4294967296) :
    Calls Tryd.prog 27 #[.pointer (some ⟨g, 0, none⟩), .int .u32 (r : Int)] w fun e w' => e = .returned (.int .u32 (tm m 32 0 r : Nat)) ∧ w' = w := by
  have HM := Lib.hid hM.2
  clear hM
  go_enter Tryd.func27, Tryd.ntmps27
  go_wp2
  go_loop [1, 5, 6] (fun q o i => ∃ (k y u : Nat), i = .int .i64 k ∧ k ≤ 32 ∧ q = .int .u32 (y : Int) ∧ y < 2 ^ (32 - k) ∧ o = .int .u32 (u : Int) ∧ u < 4294967296 ∧ u ^^^ tm m (32 - k) k y = tm m 32 0 r) (fun q _ _ => (intOf q).toNat)
  case atStart => exact ⟨0, r, 0, rfl, by omega, rfl, by simpa using hr, rfl, by omega, by simp⟩
  case round =>
    obtain ⟨k, y, u, rfl, hk, rfl, hy, rfl, hu, he⟩ := hrel
    have hy32 := Nat.lt_of_lt_of_le hy (pow_le32 k)
    have e1 := and1W hy32
    by_cases h0 : y = 0
    · subst h0
      rw [tm_zero, Nat.xor_zero] at he
      subst he
      clear e1
      go_wp2
      go_ret
      exact ⟨rfl, rfl⟩
    · have hk32 : k < 32 := by
        rcases Nat.lt_or_ge k 32 with h | h
        · exact h
        · rw [show 32 - k = 0 by omega] at hy; omega
      have hyp : 0 < y := by omega
      have hne : ((y : Int) != 0) = true := by simp; omega
      have c := HM.out k hk32
      have hmk := hm k hk32
      have HE := Lib.hid (he.symm.trans (by rw [tm_step hk32]))
      clear he
      have hp := pow_half hk32 hy
      rcases Nat.mod_two_eq_zero_or_one y with h2 | h2
      · rw [h2] at e1 HE
        go_wp2
        go_round
        case rel => exact ⟨k + 1, y / 2, u, by go_num, by omega, by simp, hp, rfl, hu, by rw [HE.out]; simp⟩
        case measure => simp [intOf]; omega
      · rw [h2] at e1 HE
        have e2 := u32_xor_nat u (m k) hu hmk
        go_wp2
        go_round
        case rel => exact ⟨k + 1, y / 2, u ^^^ m k, by go_num, by omega, by simp, hp, rfl, xor_lt hu hmk, by rw [HE.out]; simp [Nat.xor_assoc]⟩
        case measure => simp [intOf]; omega
theorem zeros32 : rowF 32 (fun _ => .int .u32 0) = (Array.replicate 32 (.int .u32 0)) := by kernel_rfl
set_option maxRecDepth 100000 in
theorem square_any (g : Nat) (m : Nat → Nat) (w : World) (hM : Mat w g m) (hm : ∀ i, i < 32 → m i < 4294967296) :
    Calls Tryd.prog 26 #[.pointer (some ⟨g, 0, none⟩)] w fun e w' => ∃ g', e = .returned (.pointer (some ⟨g', 0, none⟩)) ∧ Mat w' g' (fun i => tm m 32 0 (m i)) ∧ Below w.heap.size w w' := by
  obtain ⟨hg, hM⟩ := hM
  have HM := Lib.hid hM
  clear hM
  go_enter Tryd.func26, Tryd.ntmps26
  go_wp2
  go_loopw [4, 5, 9] (fun a b i wr => ∃ k : Nat, k ≤ 32 ∧ i = .int .i64 k ∧ Blk wr w.heap.size 49 (rowF 32 fun j => .int .u32 ((if j < k then tm m 32 0 (m j) else 0 : Nat) : Int)) ∧ Below w.heap.size w wr) (fun _ _ i _ => 32 - (intOf i).toNat)
  case atStart => exact ⟨0, by omega, rfl, (by rw [rowF_congr (g := fun _ => .int .u32 0) (fun i _ => by simp), zeros32]; exact Blk.new w _ _), (by repeat (first | exact Below.refl _ _ | (with_reducible refine bel_call ?_ hb1) | (with_reducible refine bel_call ?_ hb2) | (with_reducible refine bel_call ?_ hb3) | (with_reducible refine bel_call ?_ hb4) | (with_reducible refine bel_call ?_ hb5) | (with_reducible refine bel_call ?_ hb6) | (with_reducible refine bel_call ?_ hb7) | (with_reducible refine bel_call ?_ hb8) | (with_reducible refine bel_call ?_ hb9) | (with_reducible refine bel_call ?_ hb10) | (with_reducible refine bel_call ?_ hb11) | (with_reducible refine bel_call ?_ hb12) | (with_reducible refine bel_call ?_ hb) | (with_reducible refine bel_over ?_) | (with_reducible refine bel_alloc ?_ _) | (with_reducible refine bel_drewN ?_ _) | (with_reducible refine bel_drew ?_) | (with_reducible refine bel_set ?_ (by simp; omega) _)))⟩
  case round =>
    obtain ⟨k, hk, rfl, hB, hb⟩ := hrel
    have HB := Lib.hid hB
    have hsz := hB.lt
    clear hB
    by_cases hlt : k < 32
    · have c0 : wr.cell? ⟨g, k, none⟩ = some (.int .u32 (m k : Nat)) := (hb.cell (p := ⟨g, k, none⟩) hg).trans (HM.out k hlt)
      have hmk := hm k hlt
      have hMr : Mat wr g m := ⟨by omega, fun i hi => (hb.cell (p := ⟨g, i, none⟩) hg).trans (HM.out i hi)⟩
      have HMr := Lib.hid hMr
      clear hMr
      have k0 : (0 : Int) ≤ (k : Int) := Int.natCast_nonneg _
      have k1 : (k : Int) < 32 := by omega
      go_wp2_with fail
      go_quiet (fail)
      have c1 : wr.cell? ⟨w.heap.size, k, none⟩ = some (.int .u32 ((if k < k then tm m 32 0 (m k) else 0 : Nat) : Int)) := (HB.out.cell k).trans (rowF_at hlt)
      have f1 := HB.out.frozen k
      go_wp2_with fail
      (refine wp_region_still_tail 7 (by kernel_rfl) (by kernel_rfl) ?_; simp only [List.take_succ_cons, List.take_zero, List.drop_succ_cons, List.drop_zero]; change wpStill _ _ (World.drew _) _ _ _; (repeat still_step); still_call (times_any g m (m k) _ hmk (by exact HMr.out) hm); (repeat still_step); (refine wpStill_nil ?_); change wpList _ _ _ _ _ (World.drew _))
      go_wp2
      go_roundw
      case rel =>
        refine ⟨k + 1, by omega, by go_num, ?_, bel_set (bel_drewN hb _) (Nat.le_refl _) _⟩
        have h2 := (HB.out.drewN (nq + 1)).set_ k (.int .u32 ((tm m 32 0 (m k) : Nat) : Int))
        rw [rowF_set] at h2
        rw [rowF_congr (g := fun j => if j = k then .int .u32 ((tm m 32 0 (m k) : Nat) : Int) else .int .u32 ((if j < k then tm m 32 0 (m j) else 0 : Nat) : Int))]
        · exact h2
        · intro i hi
          by_cases e : i = k
          · subst e; simp
          · rw [if_neg e]; by_cases h : i < k
            · rw [if_pos h, if_pos (by omega)]
            · rw [if_neg h, if_neg (by omega)]
      case measure => simp [intOf]; omega
    · obtain rfl : k = 32 := by omega
      go_wp2
      go_ret
      refine ⟨w.heap.size, rfl, ⟨hsz, fun i hi => ?_⟩, hb⟩
      rw [HB.out.cell, rowF_at hi, if_pos hi]
theorem Mat.below {w w' : World} {g : Nat} {m : Nat → Nat} (h : Mat w g m) (hb : Below w.heap.size w w') : Mat w' g m := ⟨Nat.lt_of_lt_of_le h.1 hb.size, fun i hi => (hb.cell (p := ⟨g, i, none⟩) h.1).trans (h.2 i hi)⟩
theorem mat_square {m : Nat → Nat} {e : Nat} (h : IsMat m e) : IsMat (fun i => tm m 32 0 (m i)) (e + e) := h.square fun _ _ => rfl
theorem step32 : rowF 32 (fun j => if j = 0 then .int .u32 2197175160 else .int .u32 0) = #[.int .u32 2197175160] ++ (Array.replicate 31 (.int .u32 0)) := by kernel_rfl
theorem pow_u32 {k : Nat} (h : k < 32) : IntKind.u32.wrap (2 ^ k) = ((2 ^ k : Nat) : Int) := by
  have h2 : 2 ^ k < 4294967296 := Nat.pow_lt_pow_right (n := 32) (by omega) h
  rw [IntKind.wrap_u32']
  have : ((2 : Int) ^ k) = ((2 ^ k : Nat) : Int) := by simp
  rw [this]
  clear this
  generalize 2 ^ k = x at *
  omega
set_option maxRecDepth 100000 in
theorem step_any (w : World) :
    Calls Tryd.prog 25 #[] w fun e w' => ∃ g', e = .returned (.pointer (some ⟨g', 0, none⟩)) ∧ Mat w' g' step1 ∧ Below w.heap.size w w' := by
  go_enter Tryd.func25, Tryd.ntmps25
  go_wp2
  go_loopw [2] (fun i wr => ∃ k : Nat, k ≤ 31 ∧ i = .int .i64 ((k : Int) + 1) ∧ Blk wr w.heap.size 49 (rowF 32 fun j => .int .u32 ((if j < k + 1 then step1 j else 0 : Nat) : Int)) ∧ Below w.heap.size w wr) (fun i _ => 32 - (intOf i).toNat)
  case atStart => exact ⟨0, by omega, rfl, (by rw [rowF_congr (g := fun j => if j = 0 then .int .u32 2197175160 else .int .u32 0) (fun i _ => by cases i <;> simp [step1, poly]), step32]; exact Blk.new w _ _), (by repeat (first | exact Below.refl _ _ | (with_reducible refine bel_call ?_ hb1) | (with_reducible refine bel_call ?_ hb2) | (with_reducible refine bel_call ?_ hb3) | (with_reducible refine bel_call ?_ hb4) | (with_reducible refine bel_call ?_ hb5) | (with_reducible refine bel_call ?_ hb6) | (with_reducible refine bel_call ?_ hb7) | (with_reducible refine bel_call ?_ hb8) | (with_reducible refine bel_call ?_ hb9) | (with_reducible refine bel_call ?_ hb10) | (with_reducible refine bel_call ?_ hb11) | (with_reducible refine bel_call ?_ hb12) | (with_reducible refine bel_call ?_ hb) | (with_reducible refine bel_over ?_) | (with_reducible refine bel_alloc ?_ _) | (with_reducible refine bel_drewN ?_ _) | (with_reducible refine bel_drew ?_) | (with_reducible refine bel_set ?_ (by simp; omega) _)))⟩
  case round =>
    obtain ⟨k, hk, rfl, hB, hb⟩ := hrel
    have HB := Lib.hid hB
    have hsz := hB.lt
    clear hB
    by_cases hlt : k < 31
    · have c1 : wr.cell? ⟨w.heap.size, k + 1, none⟩ = some (.int .u32 ((if k + 1 < k + 1 then step1 (k + 1) else 0 : Nat) : Int)) := (HB.out.cell (k + 1)).trans (rowF_at (by omega))
      have f1 := HB.out.frozen (k + 1)
      have k0 : (0 : Int) ≤ (k : Int) := Int.natCast_nonneg _
      have k1 : (k : Int) < 31 := by omega
      have k2 : IntKind.i64.wrap (k : Int) = k := IntWalk.i64_in _ ⟨by omega, by omega⟩
      have k3 : (0 : Int) ≤ (k : Int) + 1 := by omega
      have k5 := pow_u32 (show k < 32 by omega)
      go_wp2_with fail
      (refine wp_region_still_tail 7 (by kernel_rfl) (by kernel_rfl) ?_; simp only [List.take_succ_cons, List.take_zero, List.drop_succ_cons, List.drop_zero]; change wpStill _ _ (World.drew _) _ _ _; (repeat still_step); (refine wpStill_nil ?_); change wpList _ _ _ _ _ (World.drew _))
      go_wp2
      go_roundw
      case rel =>
        refine ⟨k + 1, by omega, by go_num, ?_, bel_set (bel_drew hb) (Nat.le_refl _) _⟩
        have h2 := HB.out.drew.set_ (k + 1) (.int .u32 ((2 ^ k : Nat) : Int))
        rw [rowF_set] at h2
        rw [rowF_congr (g := fun j => if j = k + 1 then .int .u32 ((2 ^ k : Nat) : Int) else .int .u32 ((if j < k + 1 then step1 j else 0 : Nat) : Int))]
        · exact h2
        · intro i hi
          by_cases e : i = k + 1
          · subst e; simp [step1]
          · rw [if_neg e]; by_cases h : i < k + 1
            · rw [if_pos h, if_pos (by omega)]
            · rw [if_neg h, if_neg (by omega)]
      case measure => simp [intOf]; omega
    · obtain rfl : k = 31 := by omega
      go_wp2
      go_ret
      refine ⟨w.heap.size, rfl, ⟨hsz, fun i hi => ?_⟩, hb⟩
      rw [HB.out.cell, rowF_at hi, if_pos hi]
theorem i64_and1 {n : Nat} (h : n < 9223372036854775808) : bits .and .i64 (n : Int) 1 = ((n % 2 : Nat) : Int) := by
  have hx : n &&& 1 = n % 2 := nat_mask1 n
  show IntKind.i64.wrap ((BitVec.ofInt 64 (n : Int) &&& BitVec.ofInt 64 1).toNat : Int) = _
  rw [BitVec.toNat_and, BitVec.ofInt_natCast, BitVec.toNat_ofNat, Nat.mod_eq_of_lt (show n < 2 ^ 64 by omega), show (BitVec.ofInt 64 1).toNat = 1 from rfl, hx, IntKind.wrap_i64]
  omega
theorem Sn_odd (e n r : Nat) (h : n % 2 = 1) : Sn ((e + e) * (n / 2)) (Sn e r) = Sn (e * n) r := by
  rw [← Sn_add]; congr 1
  have : n = 2 * (n / 2) + 1 := by omega
  conv => rhs; rw [this]
  rw [Nat.add_mul, Nat.mul_add, Nat.mul_one, Nat.two_mul, Nat.mul_add]; omega
theorem Sn_even (e n r : Nat) (h : n % 2 = 0) : Sn ((e + e) * (n / 2)) r = Sn (e * n) r := by
  congr 1
  have : n = 2 * (n / 2) := by omega
  conv => rhs; rw [this]
  rw [Nat.add_mul, Nat.two_mul, Nat.mul_add]
set_option maxRecDepth 100000 in
theorem shift_any (r n : Nat) (w : World) (hr : r < 4294967296) (hn : n < 9223372036854775808) :
    Calls Tryd.prog 24 #[.int .u32 (r : Int), .int .i64 (n : Int)] w fun e w' => e = .returned (.int .u32 (Sn (8 * n) r : Nat)) ∧ Below w.heap.size w w' := by
  go_enter Tryd.func24, Tryd.ntmps24
  go_wp2_with (go_at_call 25; refine (step_any _).mono ?_; rintro e w' ⟨g, rfl, hM, hb⟩; have hM := Lib.hid hM)
  go_loopw [5, 7] (fun p i wr => ∃ (g : Nat) (m : Nat → Nat) (k : Nat), p = .pointer (some ⟨g, 0, none⟩) ∧ Mat wr g m ∧ IsMat m (2 ^ k) ∧ k ≤ 3 ∧ i = .int .i64 (k : Int) ∧ Below w.heap.size w wr) (fun _ i _ => 3 - (intOf i).toNat)
  case atStart => exact ⟨g, step1, 0, rfl, hM.out, step1_mat, by omega, rfl, hb⟩
  case round =>
    obtain ⟨g, m, k, rfl, hM, hI, hk, rfl, hb⟩ := hrel
    have HM := Lib.hid hM
    have HI := Lib.hid hI
    clear hM hI
    by_cases hlt : k < 3
    · go_wp2_with (go_at_call 26; refine (square_any g m _ HM.out HI.out.lt).mono ?_; rintro e w' ⟨g', rfl, hM', hb'⟩)
      go_roundw
      case rel => exact ⟨g', _, k + 1, rfl, hM', by rw [Nat.pow_succ, Nat.mul_two]; exact mat_square HI.out, by omega, by go_num, bel_call hb hb'⟩
      case measure => simp [intOf]; omega
    · obtain rfl : k = 3 := by omega
      rw [show ((3 : Nat) : Int) = 3 from rfl]
      go_wp2
      go_loopw [0, 1, 5] (fun q i p wr => ∃ (g : Nat) (m : Nat → Nat) (e y x : Nat), q = .int .u32 (y : Int) ∧ y < 4294967296 ∧ i = .int .i64 (x : Int) ∧ x < 9223372036854775808 ∧ p = .pointer (some ⟨g, 0, none⟩) ∧ Mat wr g m ∧ IsMat m e ∧ Sn (e * x) y = Sn (8 * n) r ∧ Below w.heap.size w wr) (fun _ i _ _ => (intOf i).toNat)
      case atStart => exact ⟨g, m, 8, r, n, rfl, hr, rfl, hn, rfl, HM.out, HI.out, rfl, hb⟩
      case round =>
        obtain ⟨g, m, e, y, x, rfl, hy, rfl, hx, rfl, hM, hI, he, hb⟩ := hrel
        have HM := Lib.hid hM
        have HI := Lib.hid hI
        have HE := Lib.hid he
        clear hM hI he
        by_cases h0 : 0 < x
        · have e1 := i64_and1 hx
          have x0 : (0 : Int) < (x : Int) := by omega
          rcases Nat.mod_two_eq_zero_or_one x with h2 | h2
          · have H2 := Lib.hid h2
            rw [h2] at e1
            clear h2
            go_wp2_with (go_at_call 26; refine (square_any g m _ HM.out HI.out.lt).mono ?_; rintro e w' ⟨g', rfl, hM', hb'⟩)
            go_roundw
            case rel => exact ⟨g', _, e + e, y, x / 2, rfl, hy, by simp, by omega, rfl, hM', mat_square HI.out, (Sn_even e x y H2.out).trans HE.out, bel_call hb hb'⟩
            case measure => simp [intOf]; omega
          · have H2 := Lib.hid h2
            rw [h2] at e1
            clear h2
            go_wp2_with (first | (go_at_call 27; refine (times_any g m y _ hy HM.out HI.out.lt).mono ?_; rintro e w' ⟨rfl, rfl⟩) | (go_at_call 26; refine (square_any g m _ HM.out HI.out.lt).mono ?_; rintro e w' ⟨g', rfl, hM', hb'⟩))
            go_roundw
            case rel => exact ⟨g', _, e + e, tm m 32 0 y, x / 2, rfl, tm_lt HI.out.lt 32 0 y (by omega), by simp, by omega, rfl, hM', mat_square HI.out, (by rw [times_eq HI.out hy, Sn_odd e x y H2.out]; exact HE.out), bel_call hb hb'⟩
            case measure => simp [intOf]; omega
        · obtain rfl : x = 0 := by omega
          have hy2 : y = Sn (8 * n) r := HE.out
          go_wp2
          go_ret
          exact ⟨by rw [← hy2]; rfl, hb⟩
theorem shift_at (r n : Nat) (N : Int) (w : World) (hN : N = (n : Int)) (hr : r < 4294967296) (hn : n < 9223372036854775808) :
    Calls Tryd.prog 24 #[.int .u32 (r : Int), .int .i64 N] w fun e w' => e = .returned (.int .u32 (Sn (8 * n) r : Nat)) ∧ Below w.heap.size w w' := by
  subst hN; exact shift_any r n w hr hn
set_option maxRecDepth 100000 in
theorem Zeros_any (s n : Nat) (w : World) (hs : s < 4294967296) (hn : n < 9223372036854775808) :
    Calls Tryd.prog 23 #[.int .u32 (s : Int), .int .i64 (n : Int)] w fun e w' => e = .returned (.int .u32 (zeros s n : Nat)) ∧ Below w.heap.size w w' := by
  have hc := cplW hs
  have hl := xor_lt hs ff_lt
  have h2 := cplW (Sn_lt (8 * n) hl)
  have H3 := Lib.hid (show zeros s n = Sn (8 * n) (s ^^^ ff) ^^^ ff from rfl)
  generalize s ^^^ ff = y at *
  generalize hz : Sn (8 * n) y ^^^ ff = z at *
  clear hz
  go_enter Tryd.func23, Tryd.ntmps23
  go_wp2_with fail
  refine (shift_any y n _ hl hn).mono ?_
  rintro e w' ⟨rfl, hb⟩
  go_wp2
  go_ret
  exact ⟨by rw [H3.out]; rfl, hb⟩
set_option maxRecDepth 100000 in
theorem Zeros_neg (s : Nat) (n : Int) (w : World) (hs : s < 4294967296) (hn : n < 0) :
    Calls Tryd.prog 23 #[.int .u32 (s : Int), .int .i64 n] w fun e w' => e = .returned (.int .u32 (s : Nat)) ∧ Below w.heap.size w w' := by
  have hc := cplW hs
  have hl := xor_lt hs ff_lt
  have h2 := cplW (Sn_lt (8 * 0) hl)
  have h3 : Sn (8 * 0) (s ^^^ ff) ^^^ ff = s := zeros_zero s
  have H3 := Lib.hid h3
  clear h3
  generalize s ^^^ ff = y at *
  generalize hz : Sn (8 * 0) y ^^^ ff = z at *
  clear hz
  go_enter Tryd.func23, Tryd.ntmps23
  go_wp2_with fail
  refine (shift_at y 0 0 _ rfl hl (by omega)).mono ?_
  rintro e w' ⟨rfl, hb⟩
  go_wp2
  go_ret
  exact ⟨by rw [← H3.out]; rfl, hb⟩
set_option maxRecDepth 100000 in
theorem Join_any (a b n : Nat) (w : World) (ha : a < 4294967296) (hb' : b < 4294967296) (hn : n < 9223372036854775808) :
    Calls Tryd.prog 18 #[.int .u32 (a : Int), .int .u32 (b : Int), .int .i64 (n : Int)] w fun e w' => e = .returned (.int .u32 (Sn (8 * n) a ^^^ b : Nat)) ∧ Below w.heap.size w w' := by
  have h2 := u32_xor_nat (Sn (8 * n) a) b (Sn_lt (8 * n) ha) hb'
  go_enter Tryd.func18, Tryd.ntmps18
  go_wp2_with (go_at_call 24; refine (shift_any a n _ ha hn).mono ?_; rintro e w' ⟨rfl, hb⟩)
  go_ret
  exact ⟨rfl, hb⟩
theorem Join_at (a b n : Nat) (N : Int) (r : Nat) (w : World) (hN : N = (n : Int)) (hr : Sn (8 * n) a ^^^ b = r) (ha : a < 4294967296) (hb' : b < 4294967296) (hn : n < 9223372036854775808) :
    Calls Tryd.prog 18 #[.int .u32 (a : Int), .int .u32 (b : Int), .int .i64 N] w fun e w' => e = .returned (.int .u32 (r : Nat)) ∧ Below w.heap.size w w' := by
  subst hN; subst hr; exact Join_any a b n w ha hb' hn
end Go.Proofs.YtcmpaebogekdcaaDoor.Crc
