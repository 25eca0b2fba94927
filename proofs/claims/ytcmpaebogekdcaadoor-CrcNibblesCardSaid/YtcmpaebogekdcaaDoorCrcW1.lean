/- The walks of CrcSums, CrcNibbles, CrcChecks, CrcZeros. -/
import Derived.Test.YtcmpaebogekdcaaDoorCrcL
import Derived.Test.YtcmpaebogekdcaaDoorCrcD
namespace Go.Proofs.YtcmpaebogekdcaaDoor.Crc
open Go Go.RowKit Base Mem
set_option linter.unusedSimpArgs false
set_option linter.unusedVariables false
set_option maxRecDepth 100000 in
theorem CrcSums_walk (w : World) (s : Nat) (hs : s < 4294967296) (v : Value) (l : List UInt8) (hr : RdB w.heap.size w v l) (hz : l.length * 1 ≤ 140737488351232) (ht : Tb w) :
    Calls Tryd.prog 3 #[.int .u32 (s : Int), v] w fun e w' => e = .returned (.bool true) ∧ Below w.heap.size w w' := by
  have HT := Lib.hid ht
  have HR := Lib.hid hr
  clear ht hr
  generalize hS : sum l = S
  have HS := Lib.hid hS
  generalize hO : on s l = O
  have HO := Lib.hid hO
  clear hS hO
  go_enter Tryd.func3, Tryd.ntmps3
  go_wp2_with fail
  refine (lives_any _ HT.out).mono ?_
  rintro e w1 ⟨rfl, hb1⟩
  have HT1 := Lib.hid (HT.out.below hb1)
  have HR1 := Lib.hid (HR.out.now hb1)
  go_wp2_with fail
  refine (Sum_any _ l _ HT1.out HR1.out).mono ?_
  rw [HS.out]
  rintro e w' ⟨rfl, rfl⟩
  go_wp2_with fail
  refine (refSum_any _ l _ HR1.out).mono ?_
  rw [HS.out]
  rintro e w' ⟨rfl, rfl⟩
  go_wp2_with fail
  refine (On_any s _ l _ hs HT1.out HR1.out).mono ?_
  rw [HO.out]
  rintro e w' ⟨rfl, rfl⟩
  go_wp2_with fail
  refine (refOn_any s _ l _ hs HR1.out).mono ?_
  rw [HO.out]
  rintro e w' ⟨rfl, rfl⟩
  go_wp2
  go_ret
  exact ⟨rfl, hb1⟩
set_option maxRecDepth 100000 in
theorem CrcChecks_walk (w : World) (v : Value) (l : List UInt8) (hr : RdB w.heap.size w v l) (hz : l.length * 1 ≤ 140737488351232) (ht : Tb w) :
    Calls Tryd.prog 8 #[v] w fun e w' => e = .returned (.bool true) ∧ Below w.heap.size w w' := by
  have HT := Lib.hid ht
  have HR := Lib.hid hr
  clear ht hr
  generalize hS : checkB l = S
  have HS := Lib.hid hS
  clear hS
  go_enter Tryd.func8, Tryd.ntmps8
  go_wp2_with fail
  refine (lives_any _ HT.out).mono ?_
  rintro e w1 ⟨rfl, hb1⟩
  have HT1 := Lib.hid (HT.out.below hb1)
  have HR1 := Lib.hid (HR.out.now hb1)
  go_wp2_with fail
  refine (Check_any _ l _ HT1.out HR1.out).mono ?_
  rw [HS.out]
  rintro e w2 ⟨rfl, hb2⟩
  have HR2 := Lib.hid (HR1.out.now hb2)
  go_wp2_with fail
  refine (refCheck_any _ l _ HR2.out).mono ?_
  rw [HS.out]
  rintro e w3 ⟨rfl, hb3⟩
  go_wp2
  go_ret
  exact ⟨by simp, bel_call (bel_call hb1 hb2) hb3⟩
theorem nibble_in {k : Nat} (h : k < 16) : nibble (k : Int) = refStep (refStep (refStep (refStep k 0) 0) 0) 0 := by
  unfold nibble
  rw [if_pos (by omega), refStep_eq _ 0 (by omega), refStep_eq _ 0 (by omega), refStep_eq _ 0 (by omega), refStep_eq _ 0 (by omega)]
  simp [Sn]
set_option maxRecDepth 100000 in
theorem CrcNibbles_walk (w : World) (i : Int) (hi : (Lit.int .i64 i).wf = true) (ht : Tb w) :
    Calls Tryd.prog 4 #[.int .i64 i] w fun e w' => e = .returned (.bool true) ∧ Below w.heap.size w w' := by
  have HT := Lib.hid ht
  clear ht hi
  by_cases hin : 0 ≤ i ∧ i < 16
  · obtain ⟨h0, h1⟩ := hin
    obtain ⟨k, rfl⟩ := Int.eq_ofNat_of_zero_le h0
    have HN := Lib.hid (nibble_in (k := k) (by omega))
    have hk : k < 16 := by omega
    go_enter Tryd.func4, Tryd.ntmps4
    go_wp2
    go_loopw [3, 4] (fun r j wr => ∃ (n y : Nat), n ≤ 4 ∧ j = .int .i64 (n : Int) ∧ r = .int .u32 (y : Int) ∧ y < 4294967296 ∧ Sn (4 - n) y = Sn 4 k ∧ wr = w) (fun _ j _ => 4 - (intOf j).toNat)
    case atStart => exact ⟨0, k, by omega, rfl, rfl, by omega, rfl, rfl⟩
    case round =>
      obtain ⟨n, y, hn, rfl, rfl, hy, he, rfl⟩ := hrel
      have HE := Lib.hid he
      clear he
      by_cases hlt : n < 4
      · have HS := Lib.hid (show Sn (4 - n) y = Sn (4 - (n + 1)) (refStep y 0) by rw [refStep_eq _ 0 (by omega), Nat.xor_zero, show 4 - n = (4 - (n + 1)) + 1 by omega]; rfl)
        go_wp2_with (go_at_call 16; refine (Step_at y 0 0 _ rfl hy (by omega)).mono ?_; rintro e w' ⟨rfl, rfl⟩)
        go_roundw
        case rel => exact ⟨n + 1, _, by omega, by go_num, rfl, refStep_lt hy, by rw [← HS.out]; exact HE.out, trivial⟩
        case measure => simp [intOf]; omega
      · obtain rfl : n = 4 := by omega
        have hy2 : nibble (k : Int) = y := by
          have h2 : y = Sn 4 k := HE.out
          rw [h2]; unfold nibble; rw [if_pos (by omega)]; rfl
        have HY := Lib.hid hy2
        clear hy2
        go_wp2_with fail
        refine (lives_any _ HT.out).mono ?_
        rintro e w1 ⟨rfl, hb1⟩
        have HT1 := Lib.hid (HT.out.below hb1)
        go_wp2_with fail
        refine (Nibble_any _ _ HT1.out).mono ?_
        rw [HY.out]
        rintro e w' ⟨rfl, rfl⟩
        go_wp2
        go_ret
        exact ⟨by simp, hb1⟩
  · have HN := Lib.hid (show nibble i = 0 by unfold nibble; rw [if_neg hin])
    have hd : decide (0 ≤ i) = false ∨ decide (i < 16) = false := by
      rcases Int.lt_or_le i 0 with h | h
      · left; simp; omega
      · right; simp; omega
    by_cases h0 : 0 ≤ i
    · have h1 : decide (i < 16) = false := by simp; omega
      clear hin hd
      go_enter Tryd.func4, Tryd.ntmps4
      go_wp2_with fail
      refine (lives_any _ HT.out).mono ?_
      rintro e w1 ⟨rfl, hb1⟩
      have HT1 := Lib.hid (HT.out.below hb1)
      go_wp2_with fail
      refine (Nibble_any _ _ HT1.out).mono ?_
      rw [HN.out]
      rintro e w' ⟨rfl, rfl⟩
      go_wp2
      go_ret
      exact ⟨rfl, hb1⟩
    · have h1 : decide (0 ≤ i) = false := by simp; omega
      clear hin hd
      go_enter Tryd.func4, Tryd.ntmps4
      go_wp2_with fail
      refine (lives_any _ HT.out).mono ?_
      rintro e w1 ⟨rfl, hb1⟩
      have HT1 := Lib.hid (HT.out.below hb1)
      go_wp2_with fail
      refine (Nibble_any _ _ HT1.out).mono ?_
      rw [HN.out]
      rintro e w' ⟨rfl, rfl⟩
      go_wp2
      go_ret
      exact ⟨rfl, hb1⟩
end Go.Proofs.YtcmpaebogekdcaaDoor.Crc
