/- crc.On, Sum, Nibble and the reference's Step, On, Sum: what they compute of any bytes. -/
import Derived.Test.YtcmpaebogekdcaaDoorProg
import Derived.Test.YtcmpaebogekdcaaDoorMem
import Derived.Test.YtcmpaebogekdcaaDoorCrcP
import Derived.Laws.BitsAllLaws
import Derived.Outline
namespace Go.Proofs.YtcmpaebogekdcaaDoor.Crc
open Go Go.RowKit Base Mem
set_option linter.unusedSimpArgs false
set_option linter.unusedVariables false
/-- The table lies in block 0. -/
def Tb (w : World) : Prop := 0 < w.heap.size ∧ ∀ i, i < 16 → w.cell? ⟨0, i, none⟩ = some (.int .u32 ((tab.getD i 0 : Nat) : Int))
theorem Tb.below {w w' : World} (h : Tb w) (hb : Below w.heap.size w w') : Tb w' := ⟨Nat.lt_of_lt_of_le h.1 hb.size, fun i hi => (hb.cell (p := ⟨0, i, none⟩) h.1).trans (h.2 i hi)⟩
theorem cplW {s : Nat} (h : s < 4294967296) : bits .xor .u32 IntKind.u32.max (s : Int) = ((s ^^^ ff : Nat) : Int) := by
  rw [Nat.xor_comm]; exact u32_xor_nat 4294967295 s (by omega) h
theorem and15W {y : Nat} (h : y < 4294967296) : bits .and .u32 (y : Int) 15 = ((y % 16 : Nat) : Int) := by
  rw [← nat_mask4]; exact u32_and_nat y 15 h (by omega)
theorem shxW {y u : Nat} (h : y < 4294967296) (hu : u < 4294967296) : bits .xor .u32 ((y : Int) / 16) (u : Int) = ((y / 16 ^^^ u : Nat) : Int) := by
  have := u32_xor_nat (y / 16) u (by omega) hu
  rw [← this]; simp
set_option maxRecDepth 100000 in
theorem On_any (s : Nat) (v : Value) (l : List UInt8) (w : World) (hs : s < 4294967296) (ht : Tb w) (hr : RdB w.heap.size w v l) :
    Calls Tryd.prog 14 #[.int .u32 (s : Int), v] w fun e w' => e = .returned (.int .u32 (on s l : Nat)) ∧ w = w' := by
  have HT := Lib.hid ht.2
  clear ht
  obtain ⟨A, c, rfl, h1, h2, h3, h4⟩ := id hr
  clear h4
  unfold maxLen at h2
  have HR := Lib.hid hr
  clear hr
  have hc := cplW hs
  go_enter Tryd.func14, Tryd.ntmps14
  go_wp2
  clear hc
  go_loop [5, 12] (fun r i => ∃ k : Nat, k ≤ l.length ∧ i = .int .i64 k ∧ r = .int .u32 (reg (s ^^^ ff) (l.take k) : Nat)) (fun _ i => l.length - (intOf i).toNat)
  case atStart => exact ⟨0, Nat.zero_le _, rfl, rfl⟩
  case round =>
    obtain ⟨k, hk, rfl, rfl⟩ := hrel
    have hlt := reg_lt (l.take k) (xor_lt hs ff_lt)
    by_cases hkl : k < l.length
    · obtain ⟨g, o, x, rfl, hg, hx, hcell⟩ := HR.out.at_ hkl
      have HX := Lib.hid (show reg (s ^^^ ff) (l.take (k + 1)) = nib (nib (reg (s ^^^ ff) (l.take k) ^^^ x.toNat)) by rw [take_succ' hx, reg_snoc, nib2_eq])
      clear hx
      generalize reg (s ^^^ ff) (l.take k) = r at *
      have e1 := u32_xor_nat r x.toNat hlt (byte_lt x)
      have hx8 := bytes_lt x
      have hy := xor_lt hlt (byte_lt x)
      have hnib : ∀ y : Nat, nib y = y / 16 ^^^ tab.getD (y % 16) 0 := fun y => rfl
      rw [hnib (nib _), hnib (r ^^^ x.toNat)] at HX
      clear hnib
      generalize r ^^^ x.toNat = y at *
      have e2 := and15W hy
      have hj : y % 16 < 16 := Nat.mod_lt _ (by omega)
      have c2 := HT.out _ hj
      have hu := tab_lt _ hj
      generalize y % 16 = j at *
      generalize tab.getD j 0 = t0 at *
      have e3 := shxW hy hu
      have hz := xor_lt (show y / 16 < 4294967296 by omega) hu
      generalize y / 16 ^^^ t0 = z at *
      have e4 := and15W hz
      have hj' : z % 16 < 16 := Nat.mod_lt _ (by omega)
      have c3 := HT.out _ hj'
      have hu' := tab_lt _ hj'
      generalize z % 16 = j' at *
      generalize tab.getD j' 0 = t1 at *
      have e5 := shxW hz hu'
      generalize z / 16 ^^^ t1 = q at *
      go_wp2
      go_round
      case rel => exact ⟨k + 1, by omega, by go_num, by rw [HX.out]⟩
      case measure => simp [intOf]; omega
    · obtain rfl : k = l.length := by omega
      rw [List.take_length]
      rw [List.take_length] at hlt
      have hc := cplW (reg_lt l (xor_lt hs ff_lt))
      go_wp2
      go_ret
      exact ⟨rfl, rfl⟩
theorem On0 (l : List UInt8) : on 0 l = sum l := rfl
set_option maxRecDepth 100000 in
theorem Sum_any (v : Value) (l : List UInt8) (w : World) (ht : Tb w) (hr : RdB w.heap.size w v l) :
    Calls Tryd.prog 12 #[v] w fun e w' => e = .returned (.int .u32 (sum l : Nat)) ∧ w = w' := by
  have HT := Lib.hid ht
  have HR := Lib.hid hr
  clear ht hr
  go_enter Tryd.func12, Tryd.ntmps12
  go_wp2_with (go_at_call 14; refine (On_any 0 v l _ (by omega) HT.out HR.out).mono ?_; rintro e w' ⟨rfl, rfl⟩)
  go_ret
  exact ⟨rfl, rfl⟩
set_option maxRecDepth 100000 in
theorem Step_any (r b : Nat) (w : World) (hr : r < 4294967296) (hb : b < 2) :
    Calls Tryd.prog 16 #[.int .u32 (r : Int), .int .u32 (b : Int)] w fun e w' => e = .returned (.int .u32 (refStep r b : Nat)) ∧ w = w' := by
  have e1 : bits .xor .u32 ((r : Int) / 2) 2197175160 = ((r / 2 ^^^ poly : Nat) : Int) := by
    have := u32_xor_nat (r / 2) poly (by omega) (by decide)
    rw [← this]; simp [poly]
  by_cases h : r % 2 = b
  · have ht : ((r : Int) % 2 == (b : Int)) = true := by simp; omega
    have H : refStep r b = r / 2 := by unfold refStep; rw [if_neg (by simpa using h)]
    have H' := Lib.hid H
    clear H
    go_enter Tryd.func16, Tryd.ntmps16
    go_wp2
    go_ret
    exact ⟨by rw [H'.out]; simp, rfl⟩
  · have ht : ((r : Int) % 2 == (b : Int)) = false := by simp; omega
    have H : refStep r b = r / 2 ^^^ poly := by unfold refStep; rw [if_pos h]
    have H' := Lib.hid H
    clear H
    go_enter Tryd.func16, Tryd.ntmps16
    go_wp2
    go_ret
    exact ⟨by rw [H'.out]; rfl, rfl⟩
theorem Step_at (r b : Nat) (B : Int) (w : World) (hB : B = (b : Int)) (hr : r < 4294967296) (hb : b < 2) :
    Calls Tryd.prog 16 #[.int .u32 (r : Int), .int .u32 B] w fun e w' => e = .returned (.int .u32 (refStep r b : Nat)) ∧ w = w' := by
  subst hB; exact Step_any r b w hr hb
theorem refStep_lt {r b : Nat} (h : r < 4294967296) : refStep r b < 4294967296 := by
  unfold refStep; split
  · exact Nat.xor_lt_two_pow (n := 32) (by omega) (by unfold poly; omega)
  · omega
theorem refBits_step {n r c k : Nat} (h : k < 8) : refBits (8 - k) r (c / 2 ^ k) = refBits (8 - (k + 1)) (refStep r (c / 2 ^ k % 2)) (c / 2 ^ (k + 1)) := by
  rw [show 8 - k = (8 - (k + 1)) + 1 by omega, refBits, Nat.div_div_eq_div_mul, ← Nat.pow_succ]
set_option maxRecDepth 100000 in
theorem refOn_any (s : Nat) (v : Value) (l : List UInt8) (w : World) (hs : s < 4294967296) (hr : RdB w.heap.size w v l) :
    Calls Tryd.prog 15 #[.int .u32 (s : Int), v] w fun e w' => e = .returned (.int .u32 (on s l : Nat)) ∧ w = w' := by
  obtain ⟨A, c, rfl, h1, h2, h3, h4⟩ := id hr
  clear h4
  unfold maxLen at h2
  have HR := Lib.hid hr
  clear hr
  have hc := cplW hs
  go_enter Tryd.func15, Tryd.ntmps15
  go_wp2
  clear hc
  go_loop [5, 6, 7] (fun r i j => ∃ (k : Nat) (u : Value), k ≤ l.length ∧ i = .int .i64 k ∧ j = u ∧ r = .int .u32 (reg (s ^^^ ff) (l.take k) : Nat)) (fun _ i _ => l.length - (intOf i).toNat)
  case atStart => exact ⟨0, _, Nat.zero_le _, rfl, rfl, rfl⟩
  case round =>
    obtain ⟨k, u, hk, rfl, rfl, rfl⟩ := hrel
    have hlt := reg_lt (l.take k) (xor_lt hs ff_lt)
    by_cases hkl : k < l.length
    · obtain ⟨g, o, x, rfl, hg, hx, hcell⟩ := HR.out.at_ hkl
      have HX := Lib.hid (show reg (s ^^^ ff) (l.take (k + 1)) = refBits 8 (reg (s ^^^ ff) (l.take k)) x.toNat by rw [take_succ' hx, reg_snoc, refBits_eq _ _ _ (bytes_lt x)])
      clear hx
      generalize reg (s ^^^ ff) (l.take k) = r at *
      have hx8 := bytes_lt x
      go_wp2
      go_loop [5, 7] (fun q i => ∃ (j y : Nat), j ≤ 8 ∧ i = .int .i64 j ∧ q = .int .u32 (y : Nat) ∧ y < 4294967296 ∧ refBits (8 - j) y (x.toNat / 2 ^ j) = refBits 8 r x.toNat) (fun _ i => 8 - (intOf i).toNat)
      case atStart => exact ⟨0, r, by omega, rfl, rfl, hlt, by simp⟩
      case round =>
        obtain ⟨j, y, hj, rfl, rfl, hy, he⟩ := hrel
        have HE := Lib.hid he
        clear he
        by_cases hjl : j < 8
        · have HS := Lib.hid (@refBits_step 0 y x.toNat j hjl)
          go_wp2_with (go_at_call 16; refine (Step_at y (x.toNat / 2 ^ j % 2) _ _ (by simp) hy (Nat.mod_lt _ (by omega))).mono ?_; rintro e w' ⟨rfl, rfl⟩)
          go_round
          case rel => exact ⟨j + 1, _, by omega, by go_num, rfl, refStep_lt hy, by rw [← HS.out]; exact HE.out⟩
          case measure => simp [intOf]; omega
        · obtain rfl : j = 8 := by omega
          have he : y = refBits 8 r x.toNat := HE.out
          clear HE
          subst he
          go_wp2
          go_round
          case rel => exact ⟨k + 1, _, by omega, by go_num, rfl, by rw [HX.out]⟩
          case measure => simp [intOf]; omega
    · obtain rfl : k = l.length := by omega
      rw [List.take_length]
      rw [List.take_length] at hlt
      have hc := cplW (reg_lt l (xor_lt hs ff_lt))
      go_wp2
      go_ret
      exact ⟨rfl, rfl⟩
set_option maxRecDepth 100000 in
theorem refSum_any (v : Value) (l : List UInt8) (w : World) (hr : RdB w.heap.size w v l) :
    Calls Tryd.prog 13 #[v] w fun e w' => e = .returned (.int .u32 (sum l : Nat)) ∧ w = w' := by
  have HR := Lib.hid hr
  clear hr
  go_enter Tryd.func13, Tryd.ntmps13
  go_wp2_with (go_at_call 15; refine (refOn_any 0 v l _ (by omega) HR.out).mono ?_; rintro e w' ⟨rfl, rfl⟩)
  go_ret
  exact ⟨rfl, rfl⟩
def nibble (i : Int) : Nat := if 0 ≤ i ∧ i < 16 then Sn 4 i.toNat else 0
set_option maxRecDepth 100000 in
theorem Nibble_any (i : Int) (w : World) (ht : Tb w) :
    Calls Tryd.prog 17 #[.int .i64 i] w fun e w' => e = .returned (.int .u32 (nibble i : Nat)) ∧ w = w' := by
  have HT := Lib.hid ht.2
  clear ht
  by_cases h0 : 0 ≤ i
  · by_cases h1 : i < 16
    · obtain ⟨k, rfl⟩ := Int.eq_ofNat_of_zero_le h0
      have hk : k < 16 := by omega
      have c2 := HT.out k hk
      have HN := Lib.hid (show nibble (k : Int) = tab.getD k 0 by unfold nibble; rw [if_pos (by omega), tab_at k hk]; rfl)
      generalize tab.getD k 0 = t0 at *
      go_enter Tryd.func17, Tryd.ntmps17
      go_wp2
      go_ret
      exact ⟨by rw [HN.out]; rfl, rfl⟩
    · have HN := Lib.hid (show nibble i = 0 by unfold nibble; rw [if_neg (by omega)])
      go_enter Tryd.func17, Tryd.ntmps17
      go_wp2
      go_ret
      exact ⟨by rw [HN.out]; rfl, rfl⟩
  · have HN := Lib.hid (show nibble i = 0 by unfold nibble; rw [if_neg (by omega)])
    have h0' : i < 0 := by omega
    go_enter Tryd.func17, Tryd.ntmps17
    go_wp2
    go_ret
    exact ⟨by rw [HN.out]; rfl, rfl⟩
end Go.Proofs.YtcmpaebogekdcaaDoor.Crc
