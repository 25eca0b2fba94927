/- le.Reader's and the reference's Get, Int, Done. -/
import Derived.Test.YtiapoinobdnboaaLeD
namespace Go.Proofs.Ytiapoinobdnboaa.Le
open Go Go.RowKit Base Mem
set_option linter.unusedSimpArgs false
set_option linter.unusedVariables false
theorem or_step {t : List UInt8} {x : UInt8} {k : Nat} (hk : t.length = k) (h8 : k < 8) : bits .or .u64 ((leVal t : Nat) : Int) (((x.toNat * 2 ^ (8 * k) : Nat)) : Int) = ((leVal (t ++ [x]) : Nat) : Int) := by
  subst hk
  have h1 := leVal_lt t
  have hp : (256 : Nat) ^ t.length = 2 ^ (8 * t.length) := by rw [Nat.pow_mul]
  have h2 : leVal t < 2 ^ (8 * t.length) := by rw [← hp]; exact h1
  have h64 : 2 ^ (8 * t.length) * 256 ≤ 18446744073709551616 := by
    have : 2 ^ (8 * t.length) * 256 = 2 ^ (8 * t.length + 8) := by rw [Nat.pow_add]
    rw [this]
    exact Nat.pow_le_pow_right (n := 2) (by omega) (show 8 * t.length + 8 ≤ 64 by omega)
  have hx := x.toNat_lt
  have h3 : x.toNat * 2 ^ (8 * t.length) + 2 ^ (8 * t.length) ≤ 2 ^ (8 * t.length) * 256 := by
    rw [← Nat.succ_mul, Nat.mul_comm (2 ^ (8 * t.length)) 256]; exact Nat.mul_le_mul_right _ (by omega)
  rw [u64_or_nat _ _ (by omega) (by omega), leVal_snoc, hp, Nat.or_comm, nat_join (8 * t.length) _ _ (Nat.mul_mod_left _ _) h2, Nat.add_comm]
theorem u64_wrap {m : Nat} (h : m < 18446744073709551616) : IntKind.u64.wrap (m : Int) = (m : Int) := by
  have : IntKind.u64.wrap (m : Int) = (m : Int) % 18446744073709551616 := by simp [IntKind.wrap, IntKind.bits, IntKind.signed]
  rw [this]; omega
theorem or_walk {t : List UInt8} {x : UInt8} {k : Nat} (hk : t.length = k) (h8 : k < 8) : bits .or .u64 ((leVal t : Nat) : Int) (IntKind.u64.wrap ((x.toNat : Int) * 2 ^ (8 * k))) = ((leVal (t ++ [x]) : Nat) : Int) := by
  have hx := x.toNat_lt
  have hp : 2 ^ (8 * k) ≤ 2 ^ 56 := Nat.pow_le_pow_right (n := 2) (by omega) (by omega)
  have h1 : x.toNat * 2 ^ (8 * k) ≤ 255 * 2 ^ 56 := Nat.mul_le_mul (by omega) hp
  have e : (x.toNat : Int) * 2 ^ (8 * k) = ((x.toNat * 2 ^ (8 * k) : Nat) : Int) := by simp
  rw [e, u64_wrap (by omega), or_step hk h8]
theorem getOk_split {l : List UInt8} {bad : Bool} {n : Int} (h : getOk l bad n = true) : bad = false ∧ sizeB n = true ∧ ∃ k : Nat, n = k ∧ k ≤ l.length ∧ k ≤ 8 := by
  simp only [getOk, takeOk, Bool.and_eq_true, Bool.not_eq_true', decide_eq_true_eq] at h
  obtain ⟨h1, ⟨h2, h3⟩, h4⟩ := h
  have := sizeB_cases h1
  obtain ⟨k, rfl⟩ := Int.eq_ofNat_of_zero_le h3
  exact ⟨h2, h1, k, rfl, by omega, by omega⟩
set_option maxRecDepth 100000 in
theorem RGet_yes (D g : Nat) (l : List UInt8) (k : Nat) (w : World) (h : Rdr 73 D w g l false) (hs : sizeB k = true) (hk : k ≤ l.length) (hz : l.length ≤ 140737488355328) :
    Calls Try.prog 14 #[.pointer (some ⟨g, 0, none⟩), .int .i64 (k : Int)] w fun e w' => e = .returned (.int .u64 ((leVal (l.take k) : Nat) : Int)) ∧ Rdr 73 D w' g (l.drop k) false ∧ Kept (fun j => j = g) w w' := by
  have HS := Lib.hid hs
  have HH := Lib.hid h
  have hk8 : k ≤ 8 := by have := sizeB_cases hs; omega
  have hlk : (l.take k).length = k := by rw [List.length_take]; omega
  clear hs h
  go_enter Try.func14, Try.ntmps14
  go_wp2_with fail
  go_step3
  go_wp2_with (go_at_call 39; refine (isSize_b _ _ _ HS.out).mono ?_; rintro e w' ⟨rfl, rfl⟩)
  refine (RBytes_yes D g l k _ HH.out hk hz).mono ?_
  rintro e w1 ⟨v1, rfl, hR1, hRd, hK⟩
  have HRd := Lib.hid hRd
  have HK := Lib.hid hK
  generalize hls : l.take k = ls at *
  have HLS := Lib.hid hls
  have HR := Lib.hid hR1
  obtain ⟨A, c, rfl, -, -, -, -⟩ := id hR1
  clear hRd hK hls hR1
  have HLK := Lib.hid hlk
  clear hlk
  go_wp2_with fail
  go_loop [5, 6, 7, 17] (fun n a b i => ∃ j : Nat, j ≤ ls.length ∧ i = .int .i64 (j : Int) ∧ n = .int .u64 ((leVal (ls.take j) : Nat) : Int)) (fun _ _ _ i => ls.length - (intOf i).toNat)
  case atStart => exact ⟨0, Nat.zero_le _, rfl, rfl⟩
  case round =>
    obtain ⟨j, hj, rfl, rfl⟩ := hrel
    by_cases hlt : j < ls.length
    · obtain ⟨g', o, x, rfl, hg', hx, hc⟩ := HR.out.at_ hlt
      have hj8 : j < 8 := by rw [HLK.out] at hlt; omega
      have hor := or_walk (t := ls.take j) (x := x) (k := j) (by rw [List.length_take]; omega) hj8
      rw [← take_succ' hx] at hor
      have hx8 := bytes_lt x
      have k6 : IntKind.i64.wrap (8 * (j : Int)) = 8 * (j : Int) := IntWalk.i64_in _ ⟨by omega, by omega⟩
      clear hx
      go_wp2
      go_round
      case rel => exact ⟨j + 1, by omega, by go_num, rfl⟩
      case measure => simp [intOf]; omega
    · obtain rfl : j = ls.length := by omega
      have ht := List.take_length (l := ls)
      have HTT := Lib.hid ht
      clear ht
      go_wp2_with fail
      go_ret
      exact ⟨by rw [HLS.out]; rfl, HRd.out, HK.out⟩
set_option maxRecDepth 100000 in
theorem RGet_no (D g : Nat) (l : List UInt8) (bad : Bool) (n : Int) (w : World) (h : Rdr 73 D w g l bad) (hok : getOk l bad n = false) :
    Calls Try.prog 14 #[.pointer (some ⟨g, 0, none⟩), .int .i64 n] w fun e w' => e = .returned (.int .u64 0) ∧ Rdr 73 D w' g l true ∧ Kept (fun j => j = g) w w' := by
  have HH := Lib.hid h
  by_cases hs : sizeB n = true
  · have ht : takeOk l bad n = false := by simpa [getOk, hs] using hok
    have HT := Lib.hid ht
    have HS := Lib.hid hs
    clear h hok hs ht
    go_enter Try.func14, Try.ntmps14
    go_wp2_with fail
    go_step3
    go_wp2_with (go_at_call 39; refine (isSize_b _ _ _ HS.out).mono ?_; rintro e w' ⟨rfl, rfl⟩)
    refine (RBytes_no D g l bad n _ HH.out HT.out).mono ?_
    rintro e w1 ⟨rfl, hRd, hK⟩
    have HRd := Lib.hid hRd
    have HK := Lib.hid hK
    clear hRd hK
    go_wp2_with fail
    refine wp_loop_rounds 1 ?_
    rw [rounds_succ]
    go_wp2_with fail
    rw [Exit.noGoto_ret]
    go_ret
    exact ⟨rfl, HRd.out, HK.out⟩
  · have HS := Lib.hid (show sizeB n = false by simpa using hs)
    obtain ⟨A, c, hB, hR, c0, c1, hsz, hD⟩ := h.open_
    have f1 := hB.frozen 1
    have HM := Lib.hid (h.mark true)
    clear h hok hs hB hR
    go_enter Try.func14, Try.ntmps14
    go_wp2_with fail
    refine wp_scope_jumps 0 (fun a' w' => w' = w ∧ ∃ (u1 u2 u3 u4 u5 u6 u7 u8 u9 u10 u11 u12 u13 u14 u15 u16 u17 u18 u19 u20 u21 u22 u23 u24 u25 u26 u27 u28 u29 u30 u31 u32 u33 : Value), a' = ({ tmps := #[.pointer (some ⟨g, 0, none⟩), u1, u2, u3, u4, u5, u6, u7, u8, u9, u10, u11, u12, u13, u14, u15, u16, u17, u18, u19, u20, u21, u22, u23, u24, u25, u26, u27, u28, u29, u30, u31, u32, u33], defers := [] } : Act)) (fun _ _ => 0) rfl ?_ ?_
    · go_wp2_with (go_at_call 39; refine (isSize_b _ _ _ HS.out).mono ?_; rintro e w' ⟨rfl, rfl⟩)
      go_step3
      exact ⟨rfl, rfl, ⟨_, _, _, _, _, _, _, _, _, _, _, _, _, _, _, _, _, _, _, _, _, _, _, _, _, _, _, _, _, _, _, _, _, rfl⟩⟩
    · rintro a' w' ⟨rfl, ⟨u1, u2, u3, u4, u5, u6, u7, u8, u9, u10, u11, u12, u13, u14, u15, u16, u17, u18, u19, u20, u21, u22, u23, u24, u25, u26, u27, u28, u29, u30, u31, u32, u33, rfl⟩⟩
      go_wp2_with fail
      simp only [Exit.jump]
      go_ret
      exact ⟨rfl, HM.out 0⟩
set_option maxRecDepth 100000 in
theorem rGet_yes (D g : Nat) (l : List UInt8) (k : Nat) (w : World) (h : Rdr 41 D w g l false) (hs : sizeB k = true) (hk : k ≤ l.length) :
    Calls Try.prog 16 #[.pointer (some ⟨g, 0, none⟩), .int .i64 (k : Int)] w fun e w' => e = .returned (.int .u64 ((leVal (l.take k) : Nat) : Int)) ∧ Rdr 41 D w' g (l.drop k) false ∧ Kept (fun j => j = g) w w' := by
  have HS := Lib.hid hs
  have HH := Lib.hid h
  have hk8 : k ≤ 8 := by have := sizeB_cases hs; omega
  have hlk : (l.take k).length = k := by rw [List.length_take]; omega
  clear hs h
  go_enter Try.func16, Try.ntmps16
  go_wp2_with (go_at_call 43; refine (rsize_b _ _ _ HS.out).mono ?_; rintro e w' ⟨rfl, rfl⟩)
  refine (rBytes_yes' D g l k _ HH.out hk).mono ?_
  rintro e w1 ⟨v1, rfl, hR1, hRd, hK⟩
  have HRd := Lib.hid hRd
  have HK := Lib.hid hK
  generalize hls : l.take k = ls at *
  have HLS := Lib.hid hls
  have HR := Lib.hid hR1
  obtain ⟨A, c, rfl, -, -, -, -⟩ := id hR1
  clear hRd hK hls hR1
  have HLK := Lib.hid hlk
  clear hlk
  go_wp2_with fail
  go_loop [6, 7] (fun n i => ∃ j : Nat, j ≤ ls.length ∧ i = .int .i64 (j : Int) ∧ n = .int .u64 ((leVal (ls.take j) : Nat) : Int)) (fun _ i => ls.length - (intOf i).toNat)
  case atStart => exact ⟨0, Nat.zero_le _, rfl, rfl⟩
  case round =>
    obtain ⟨j, hj, rfl, rfl⟩ := hrel
    by_cases hlt : j < ls.length
    · obtain ⟨g', o, x, rfl, hg', hx, hc⟩ := HR.out.at_ hlt
      have hj8 : j < 8 := by rw [HLK.out] at hlt; omega
      have hor := or_walk (t := ls.take j) (x := x) (k := j) (by rw [List.length_take]; omega) hj8
      rw [← take_succ' hx] at hor
      have hx8 := bytes_lt x
      have k6 : IntKind.i64.wrap (8 * (j : Int)) = 8 * (j : Int) := IntWalk.i64_in _ ⟨by omega, by omega⟩
      clear hx
      go_wp2
      go_round
      case rel => exact ⟨j + 1, by omega, by go_num, rfl⟩
      case measure => simp [intOf]; omega
    · obtain rfl : j = ls.length := by omega
      have ht := List.take_length (l := ls)
      have HTT := Lib.hid ht
      clear ht
      go_wp2
      go_ret
      exact ⟨by rw [HLS.out]; rfl, HRd.out, HK.out⟩
set_option maxRecDepth 100000 in
theorem rGet_no (D g : Nat) (l : List UInt8) (bad : Bool) (n : Int) (w : World) (h : Rdr 41 D w g l bad) (hok : getOk l bad n = false) :
    Calls Try.prog 16 #[.pointer (some ⟨g, 0, none⟩), .int .i64 n] w fun e w' => e = .returned (.int .u64 0) ∧ Rdr 41 D w' g l true ∧ Kept (fun j => j = g) w w' := by
  have HH := Lib.hid h
  by_cases hs : sizeB n = true
  · have ht : takeOk l bad n = false := by simpa [getOk, hs] using hok
    have HT := Lib.hid ht
    have HS := Lib.hid hs
    clear h hok hs ht
    go_enter Try.func16, Try.ntmps16
    go_wp2_with (go_at_call 43; refine (rsize_b _ _ _ HS.out).mono ?_; rintro e w' ⟨rfl, rfl⟩)
    refine (rBytes_no' D g l bad n _ HH.out HT.out).mono ?_
    rintro e w1 ⟨rfl, hRd, hK⟩
    have HRd := Lib.hid hRd
    have HK := Lib.hid hK
    clear hRd hK
    go_wp2_with fail
    refine wp_loop_rounds 1 ?_
    rw [rounds_succ]
    go_wp2_with fail
    go_ret
    exact ⟨rfl, HRd.out, HK.out⟩
  · have HS := Lib.hid (show sizeB n = false by simpa using hs)
    obtain ⟨A, c, hB, hR, c0, c1, hsz, hD⟩ := h.open_
    have f1 := hB.frozen 1
    have HM := Lib.hid (h.mark true)
    clear h hok hs hB hR
    go_enter Try.func16, Try.ntmps16
    go_wp2_with (go_at_call 43; refine (rsize_b _ _ _ HS.out).mono ?_; rintro e w' ⟨rfl, rfl⟩)
    go_ret
    exact ⟨rfl, HM.out 0⟩
def intOk (l : List UInt8) (bad : Bool) (n least most : Int) : Bool := getOk l bad n && decide (least ≤ IntKind.i64.wrap (getR l bad n)) && decide (IntKind.i64.wrap (getR l bad n) ≤ most)
def intR (l : List UInt8) (bad : Bool) (n least most : Int) : Int := if intOk l bad n least most then IntKind.i64.wrap (getR l bad n) else 0
/-- One contract for both ways of Get. -/
theorem RGet_any (D g : Nat) (l : List UInt8) (bad : Bool) (n : Int) (w : World) (h : Rdr 73 D w g l bad) (hz : l.length ≤ 140737488355328) :
    Calls Try.prog 14 #[.pointer (some ⟨g, 0, none⟩), .int .i64 n] w fun e w' => e = .returned (.int .u64 ((getR l bad n : Nat) : Int)) ∧ Rdr 73 D w' g (getL l bad n) (!getOk l bad n) ∧ Kept (fun j => j = g) w w' := by
  by_cases ho : getOk l bad n = true
  · obtain ⟨rfl, hs, k, rfl, hk, _⟩ := getOk_split ho
    unfold getR getL; rw [if_pos ho, if_pos ho, ho]
    exact RGet_yes D g l k w h hs hk hz
  · have ho' : getOk l bad n = false := by simpa using ho
    unfold getR getL; rw [if_neg ho, if_neg ho, ho']
    exact RGet_no D g l bad n w h ho'
theorem rGet_any (D g : Nat) (l : List UInt8) (bad : Bool) (n : Int) (w : World) (h : Rdr 41 D w g l bad) :
    Calls Try.prog 16 #[.pointer (some ⟨g, 0, none⟩), .int .i64 n] w fun e w' => e = .returned (.int .u64 ((getR l bad n : Nat) : Int)) ∧ Rdr 41 D w' g (getL l bad n) (!getOk l bad n) ∧ Kept (fun j => j = g) w w' := by
  by_cases ho : getOk l bad n = true
  · obtain ⟨rfl, hs, k, rfl, hk, _⟩ := getOk_split ho
    unfold getR getL; rw [if_pos ho, if_pos ho, ho]
    exact rGet_yes D g l k w h hs hk
  · have ho' : getOk l bad n = false := by simpa using ho
    unfold getR getL; rw [if_neg ho, if_neg ho, ho']
    exact rGet_no D g l bad n w h ho'
theorem RBytes_any (D g : Nat) (l : List UInt8) (bad : Bool) (n : Int) (w : World) (h : Rdr 73 D w g l bad) (hz : l.length ≤ 140737488355328) :
    Calls Try.prog 19 #[.pointer (some ⟨g, 0, none⟩), .int .i64 n] w fun e w' => ∃ v', e = .returned v' ∧ RdB w'.heap.size w' v' (takeR l bad n) ∧ Rdr 73 D w' g (takeL l bad n) (!takeOk l bad n) ∧ Kept (fun j => j = g) w w' := by
  by_cases ho : takeOk l bad n = true
  · have h2 := ho
    simp only [takeOk, Bool.and_eq_true, Bool.not_eq_true', decide_eq_true_eq] at h2
    obtain ⟨⟨rfl, h3⟩, h4⟩ := h2
    obtain ⟨k, rfl⟩ := Int.eq_ofNat_of_zero_le h3
    unfold takeR takeL; rw [if_pos ho, if_pos ho, ho]
    exact RBytes_yes D g l k w h (by omega) hz
  · have ho' : takeOk l bad n = false := by simpa using ho
    unfold takeR takeL; rw [if_neg ho, if_neg ho, ho']
    exact (RBytes_no D g l bad n w h ho').mono fun e w' ⟨h1, h2, h3⟩ => ⟨_, h1, Rd1.nil_, h2, h3⟩
theorem rBytes_any' (D g : Nat) (l : List UInt8) (bad : Bool) (n : Int) (w : World) (h : Rdr 41 D w g l bad) :
    Calls Try.prog 20 #[.pointer (some ⟨g, 0, none⟩), .int .i64 n] w fun e w' => ∃ v', e = .returned v' ∧ RdB D w' v' (takeR l bad n) ∧ Rdr 41 D w' g (takeL l bad n) (!takeOk l bad n) ∧ Kept (fun j => j = g) w w' := by
  by_cases ho : takeOk l bad n = true
  · have h2 := ho
    simp only [takeOk, Bool.and_eq_true, Bool.not_eq_true', decide_eq_true_eq] at h2
    obtain ⟨⟨rfl, h3⟩, h4⟩ := h2
    obtain ⟨k, rfl⟩ := Int.eq_ofNat_of_zero_le h3
    unfold takeR takeL; rw [if_pos ho, if_pos ho, ho]
    exact rBytes_yes' D g l k w h (by omega)
  · have ho' : takeOk l bad n = false := by simpa using ho
    unfold takeR takeL; rw [if_neg ho, if_neg ho, ho']
    exact (rBytes_no' D g l bad n w h ho').mono fun e w' ⟨h1, h2, h3⟩ => ⟨_, h1, Rd1.nil_, h2, h3⟩
set_option maxRecDepth 100000 in
set_option maxHeartbeats 1000000 in
theorem RInt_any (D g : Nat) (l : List UInt8) (bad : Bool) (n least most : Int) (w : World) (h : Rdr 73 D w g l bad) (hz : l.length ≤ 140737488355328) :
    Calls Try.prog 17 #[.pointer (some ⟨g, 0, none⟩), .int .i64 n, .int .i64 least, .int .i64 most] w fun e w' => e = .returned (.int .i64 (intR l bad n least most)) ∧ Rdr 73 D w' g (getL l bad n) (!intOk l bad n least most) ∧ Kept (fun j => j = g) w w' := by
  have HH := Lib.hid h
  clear h
  obtain ⟨z, hz2⟩ : ∃ z, IntKind.i64.wrap ((getR l bad n : Nat) : Int) = z := ⟨_, rfl⟩
  by_cases ho : getOk l bad n = true
  · have hiR : intR l bad n least most = if least ≤ z ∧ z ≤ most then z else 0 := by unfold intR intOk; rw [ho, hz2]; simp
    have hiO : intOk l bad n least most = decide (least ≤ z ∧ z ≤ most) := by unfold intOk; rw [ho, hz2]; simp
    have HIR := Lib.hid hiR
    have HIO := Lib.hid hiO
    have HO := Lib.hid ho
    clear hiR hiO ho
    by_cases h1 : z < least
    · go_enter Try.func17, Try.ntmps17
      go_wp2_with fail
      refine (RGet_any D g l bad n _ HH.out hz).mono ?_
      rintro e w1 ⟨rfl, hRd, hK⟩
      rw [HO.out] at hRd
      obtain ⟨A, c, hB, hR, c0, c1, hsz, hD⟩ := hRd.open_
      have f1 := hB.frozen 1
      have HM := Lib.hid (hRd.mark true 0)
      have HK := Lib.hid hK
      clear hRd hK hB hR
      go_wp2
      go_ret
      exact ⟨by rw [HIR.out, if_neg (by omega)]; rfl, by rw [HIO.out, decide_eq_false (by omega)]; exact HM.out.1, HK.out.trans HM.out.2 (fun _ _ e => e)⟩
    · by_cases h2 : most < z
      · go_enter Try.func17, Try.ntmps17
        go_wp2_with fail
        refine (RGet_any D g l bad n _ HH.out hz).mono ?_
        rintro e w1 ⟨rfl, hRd, hK⟩
        rw [HO.out] at hRd
        obtain ⟨A, c, hB, hR, c0, c1, hsz, hD⟩ := hRd.open_
        have f1 := hB.frozen 1
        have HM := Lib.hid (hRd.mark true 0)
        have HK := Lib.hid hK
        clear hRd hK hB hR
        go_wp2
        go_ret
        exact ⟨by rw [HIR.out, if_neg (by omega)]; rfl, by rw [HIO.out, decide_eq_false (by omega)]; exact HM.out.1, HK.out.trans HM.out.2 (fun _ _ e => e)⟩
      · go_enter Try.func17, Try.ntmps17
        go_wp2_with fail
        refine (RGet_any D g l bad n _ HH.out hz).mono ?_
        rintro e w1 ⟨rfl, hRd, hK⟩
        rw [HO.out] at hRd
        obtain ⟨A, c, hB, hR, c0, c1, hsz, hD⟩ := hRd.open_
        have HRd := Lib.hid hRd
        have HK := Lib.hid hK
        clear hRd hK hB hR
        go_wp2
        go_ret
        exact ⟨by rw [HIR.out, if_pos (by omega)]; rfl, by rw [HIO.out, decide_eq_true (by omega)]; exact HRd.out, HK.out⟩
  · have ho' : getOk l bad n = false := by simpa using ho
    have HIR := Lib.hid (show intR l bad n least most = 0 by unfold intR intOk; rw [ho']; simp)
    have HIO := Lib.hid (show intOk l bad n least most = false by unfold intOk; rw [ho']; simp)
    have HO := Lib.hid ho'
    clear ho ho'
    go_enter Try.func17, Try.ntmps17
    go_wp2_with fail
    refine (RGet_any D g l bad n _ HH.out hz).mono ?_
    rintro e w1 ⟨rfl, hRd, hK⟩
    rw [HO.out] at hRd
    obtain ⟨A, c, hB, hR, c0, c1, hsz, hD⟩ := hRd.open_
    have HRd := Lib.hid hRd
    have HK := Lib.hid hK
    clear hRd hK hB hR
    go_wp2
    go_ret
    exact ⟨by rw [HIR.out]; rfl, by rw [HIO.out]; exact HRd.out, HK.out⟩
end Go.Proofs.Ytiapoinobdnboaa.Le
