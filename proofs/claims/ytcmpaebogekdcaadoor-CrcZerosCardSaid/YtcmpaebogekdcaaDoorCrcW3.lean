/- The walks of CrcZeros and CrcBroken. -/
import Derived.Test.YtcmpaebogekdcaaDoorCrcL
import Derived.Test.YtcmpaebogekdcaaDoorCrcD
namespace Go.Proofs.YtcmpaebogekdcaaDoor.Crc
open Go Go.RowKit Base Mem
set_option linter.unusedSimpArgs false
set_option linter.unusedVariables false
theorem Zeros_at (s n z : Nat) (N : Int) (w : World) (hN : N = (n : Int)) (hz : zeros s n = z) (hs : s < 4294967296) (hn : n < 9223372036854775808) :
    Calls Tryd.prog 23 #[.int .u32 (s : Int), .int .i64 N] w fun e w' => e = .returned (.int .u32 (z : Nat)) ∧ Below w.heap.size w w' := by
  subst hN; subst hz; exact Zeros_any s n w hs hn
theorem zeros_lt (s n : Nat) (h : s < 4294967296) : zeros s n < 4294967296 := xor_lt (Sn_lt _ (xor_lt h ff_lt)) ff_lt
set_option maxRecDepth 100000 in
set_option maxHeartbeats 1000000 in
theorem CrcZeros_walk (w : World) (s : Nat) (hs : s < 4294967296) (n : Int) (hn : (Lit.int .i64 n).wf = true) (ht : Tb w) :
    Calls Tryd.prog 10 #[.int .u32 (s : Int), .int .i64 n] w fun e w' => e = .returned (.bool true) ∧ Below w.heap.size w w' := by
  have HT := Lib.hid ht
  clear ht
  have hb : -9223372036854775808 ≤ n ∧ n ≤ 9223372036854775807 := by simpa [Lit.wf, IntKind.min, IntKind.max, IntKind.bits, IntKind.signed] using hn
  clear hn
  obtain ⟨hlo, hhi⟩ := hb
  by_cases h1 : 3000 < n
  · obtain ⟨k, rfl⟩ := Int.eq_ofNat_of_zero_le (show 0 ≤ n by omega)
    obtain ⟨za, hza⟩ : ∃ z, zeros s (k / 2) = z := ⟨_, rfl⟩
    obtain ⟨zb, hzb⟩ : ∃ z, zeros s k = z := ⟨_, rfl⟩
    have hzc : zeros za (k - k / 2) = zb := by rw [← hza, zeros_add, ← hzb]; congr 1; omega
    have hla : za < 4294967296 := by rw [← hza]; exact zeros_lt s _ hs
    have HA := Lib.hid hza
    have HB := Lib.hid hzb
    have HC := Lib.hid hzc
    clear hza hzb hzc
    go_enter Tryd.func10, Tryd.ntmps10
    go_wp2_with fail
    refine (lives_any _ HT.out).mono ?_
    rintro e w1 ⟨rfl, hb1⟩
    go_wp2_with fail
    refine (Zeros_at s k zb _ _ (by omega) HB.out hs (by omega)).mono ?_
    rintro e w2 ⟨rfl, hb2⟩
    go_wp2_with fail
    refine (Zeros_at s (k / 2) za _ _ (by omega) HA.out hs (by omega)).mono ?_
    rintro e w3 ⟨rfl, hb3⟩
    go_wp2_with fail
    refine (Zeros_at za (k - k / 2) zb _ _ (by omega) HC.out hla (by omega)).mono ?_
    rintro e w4 ⟨rfl, hb4⟩
    go_wp2
    go_ret
    exact ⟨by simp, bel_call (bel_call (bel_call hb1 hb2) hb3) hb4⟩
  · by_cases h0 : n < 0
    · go_enter Tryd.func10, Tryd.ntmps10
      go_wp2_with fail
      refine (lives_any _ HT.out).mono ?_
      rintro e w1 ⟨rfl, hb1⟩
      go_wp2_with fail
      refine (Zeros_neg s n _ hs h0).mono ?_
      rintro e w2 ⟨rfl, hb2⟩
      go_wp2
      go_ret
      exact ⟨by simp, bel_call hb1 hb2⟩
    · obtain ⟨k, rfl⟩ := Int.eq_ofNat_of_zero_le (show 0 ≤ n by omega)
      obtain ⟨zb, hzb⟩ : ∃ z, zeros s k = z := ⟨_, rfl⟩
      have HB := Lib.hid hzb
      have HO := Lib.hid (show on s (zs k) = zb by rw [← hzb, zeros_on]; rfl)
      clear hzb
      have hkm : k ≤ maxLen := by unfold maxLen; omega
      have hmk := fun W => run_makeB k (by omega) W
      have hlk : ((zs k).length : Int) = k := by rw [zs_length]
      go_enter Tryd.func10, Tryd.ntmps10
      go_wp2_with fail
      go_region_with (first | (go_at_call 11; refine (lives_any _ (by exact HT.out)).mono ?_; rintro e w1 ⟨rfl, hb1⟩) | (go_at_call 23; refine (Zeros_at s k zb _ _ rfl HB.out hs (by omega)).mono ?_; rintro e w2 ⟨rfl, hb2⟩) | (go_at_call 15; refine (refOn_any s _ (zs k) _ hs (by first | exact RdB.of_own (zs k) (Blk.new w2 _ _) (by simp) k k (zs_length k) (Nat.le_refl _) hkm | exact (RdB.of_own (B := (w1.alloc _).heap.size) (zs k) (Blk.new w1 _ _) (by simp) k k (zs_length k) (Nat.le_refl _) hkm).now hb2)).mono ?_; rw [HO.out]; rintro e w3 ⟨rfl, rfl⟩))
      all_goals
        have hb0 := bel_call (bel_drew (Below.refl w.heap.size w)) hb1
        go_wp2
        go_ret
        refine ⟨by first | rfl | simp, ?_⟩
        first | exact bel_alloc (bel_call hb0 hb2) _ | exact bel_call (bel_alloc hb0 _) hb2
theorem set4 (l : List UInt8) (a : Nat) (e : Nat → UInt8) (h : a + 4 ≤ l.length) :
    ∃ b0 b1 b2 b3, l = l.take a ++ ([b0, b1, b2, b3] ++ l.drop (a + 4)) := by
  refine ⟨l[a], l[a + 1], l[a + 2], l[a + 3], ?_⟩
  have h0 : l.drop a = l[a] :: l.drop (a + 1) := List.drop_eq_getElem_cons (by omega)
  have h1 : l.drop (a + 1) = l[a + 1] :: l.drop (a + 1 + 1) := List.drop_eq_getElem_cons (by omega)
  have h2 : l.drop (a + 2) = l[a + 2] :: l.drop (a + 2 + 1) := List.drop_eq_getElem_cons (by omega)
  have h3 : l.drop (a + 3) = l[a + 3] :: l.drop (a + 3 + 1) := List.drop_eq_getElem_cons (by omega)
  conv => lhs; rw [← List.take_append_drop a l, h0, h1, h2, h3]
  rfl
end Go.Proofs.YtcmpaebogekdcaaDoor.Crc
