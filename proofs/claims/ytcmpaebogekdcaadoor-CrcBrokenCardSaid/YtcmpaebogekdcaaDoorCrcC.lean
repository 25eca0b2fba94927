/- crc.Seal and Check, the reference's Seal and Check. -/
import Derived.Test.YtcmpaebogekdcaaDoorCrcA
import Derived.StillTailTactics
import Derived.Test.YtcmpaebogekdcaaDoorByt
import Derived.Laws.CopyOwn
import Derived.OwnWalk
namespace Go.Proofs.YtcmpaebogekdcaaDoor.Crc
open Go Go.RowKit Base Mem
set_option linter.unusedSimpArgs false
set_option linter.unusedVariables false
def fill (l : List UInt8) : List UInt8 := l ++ zs (124 - l.length)
def byteOf (s i : Nat) : UInt8 := UInt8.ofNat (s / 2 ^ (8 * i))
theorem byteOf_val (s k : Nat) : (s : Int) / 2 ^ (8 * k) % 256 = ((byteOf s k).toNat : Int) := by
  simp [byteOf]
def head4 (s : Nat) : List UInt8 := [byteOf s 0, byteOf s 1, byteOf s 2, byteOf s 3]
def sealed (l : List UInt8) : List UInt8 := head4 (sum (fill l)) ++ fill l
theorem splice_fill (l : List UInt8) (hl : l.length ≤ 124) : splice (zs 128) 4 l = zs 4 ++ fill l := by
  unfold splice fill zs
  rw [List.take_replicate, List.drop_replicate]
  congr 3
  omega
theorem fill_length {l : List UInt8} (hl : l.length ≤ 124) : (fill l).length = 124 := by simp [fill, zs]; omega
theorem head_set (s : Nat) (l : List UInt8) (k : Nat) (hk : k < 4) : ((head4 s).take k ++ (zs (4 - k) ++ l)).set k (byteOf s k) = (head4 s).take (k + 1) ++ (zs (4 - (k + 1)) ++ l) := by
  have : k = 0 ∨ k = 1 ∨ k = 2 ∨ k = 3 := by omega
  rcases this with rfl | rfl | rfl | rfl <;> rfl
set_option maxRecDepth 100000 in
theorem Seal_yes (v : Value) (l : List UInt8) (w : World) (ht : Tb w) (hr : RdB w.heap.size w v l) (hl : l.length ≤ 124) :
    Calls Tryd.prog 19 #[v] w fun e w' => ∃ g, e = .returned (.tuple #[.slice (some ⟨g, 0, none⟩) 128 128, .int .i64 0]) ∧ w.heap.size ≤ g ∧ Blk w' g 5 (bc (sealed l)).toArray ∧ Below w.heap.size w w' := by
  have HT := Lib.hid ht
  clear ht
  obtain ⟨A, c, rfl, h1, h2, h3, h4⟩ := id hr
  clear h4
  unfold maxLen at h2
  have HR := Lib.hid hr
  clear hr
  obtain ⟨Z, hZ⟩ : ∃ Z, Z = (bc (zs 128)).toArray := ⟨_, rfl⟩
  have hmk : ∀ W : World, (Instr.makeSlice 23 (.int .i64 128) (.int .i64 128)).run Tryd.prog W = .ok (.slice (some ⟨W.heap.size, 0, none⟩) 128 128) (W.alloc (.cells Z 5)) := fun W => by rw [hZ]; exact run_makeB 128 (by omega) W
  have HZ := Lib.hid hZ
  clear hZ
  have HS := Lib.hid (splice_fill l hl)
  have HF := Lib.hid (fill_length hl)
  have hd : decide ((124 : Int) < (l.length : Int)) = false := decide_eq_false (by omega)
  go_enter Tryd.func19, Tryd.ntmps19
  go_wp2_with (first | ((refine wpList_copyB (o := ⟨some 14, _, _, _, _, _⟩) rfl (.tmp 12) (.tmp 13) rfl w.heap.size 4 124 124 (zs 128) l (.slice A l.length c) w.heap.size rfl rfl ?_ ?_ ?_ hl ?_); rotate_left 3; intro w2 hB2 hg2) | (go_at_call 12; refine (Sum_any _ (fill l) _ ?_ ?_).mono ?_; rotate_left 2; rintro e w' ⟨rfl, rfl⟩))
  · have hb2 : Below w.heap.size w w2 := (show Below w.heap.size w _ from (by repeat (first | exact Below.refl _ _ | (with_reducible refine bel_call ?_ hb1) | (with_reducible refine bel_call ?_ hb2) | (with_reducible refine bel_call ?_ hb3) | (with_reducible refine bel_call ?_ hb4) | (with_reducible refine bel_call ?_ hb5) | (with_reducible refine bel_call ?_ hb6) | (with_reducible refine bel_call ?_ hb7) | (with_reducible refine bel_call ?_ hb8) | (with_reducible refine bel_call ?_ hb9) | (with_reducible refine bel_call ?_ hb10) | (with_reducible refine bel_call ?_ hb11) | (with_reducible refine bel_call ?_ hb12) | (with_reducible refine bel_call ?_ hb) | (with_reducible refine bel_over ?_) | (with_reducible refine bel_alloc ?_ _) | (with_reducible refine bel_drewN ?_ _) | (with_reducible refine bel_drew ?_) | (with_reducible refine bel_set ?_ (by simp; omega) _)))).trans (grown_other hg2 (Nat.le_refl _) (by simp))
    have hlt2 := hB2.out.lt
    rw [HS.out] at hB2
    go_loopw [6, 18] (fun j i wr => ∃ k : Nat, k ≤ 4 ∧ i = .int .i64 k ∧ Blk wr w.heap.size 5 (bc ((head4 (sum (fill l))).take k ++ (zs (4 - k) ++ fill l))).toArray ∧ Below w.heap.size w wr) (fun _ i _ => 4 - (intOf i).toNat)
    case atStart => exact ⟨0, by omega, rfl, hB2.out, hb2⟩
    case round =>
      obtain ⟨k, hk, rfl, hB, hb⟩ := hrel
      have HB := Lib.hid hB
      have hsz := hB.lt
      clear hB
      by_cases hlt : k < 4
      · have hl2 : ((head4 (sum (fill l))).take k ++ (zs (4 - k) ++ fill l)).length = 128 := by rw [List.length_append, List.length_append, List.length_take, zs_length, HF.out]; simp [head4]; omega
        have c1 : ∃ u, wr.cell? ⟨w.heap.size, k, none⟩ = some u := by
          rw [HB.out.cell]
          exact ⟨_, Array.getElem?_eq_getElem (by rw [List.size_toArray, bc_length, hl2]; omega)⟩
        obtain ⟨u, c1⟩ := c1
        have f1 := HB.out.frozen k
        have k0 : (0 : Int) ≤ (k : Int) := Int.natCast_nonneg _
        have k1 : (k : Int) < 4 := by omega
        have hv := byteOf_val (sum (fill l)) k
        go_wp2
        go_roundw
        case rel =>
          refine ⟨k + 1, by omega, by go_num, ?_, bel_set hb (Nat.le_refl _) _⟩
          have h2 := HB.out.set_ k (.int .u8 ((byteOf (sum (fill l)) k).toNat : Int))
          rw [bc_set, head_set _ _ _ hlt] at h2
          exact h2
        case measure => simp [intOf]; omega
      · obtain rfl : k = 4 := by omega
        go_wp2
        go_ret2
        exact ⟨w.heap.size, rfl, Nat.le_refl _, HB.out, hb⟩
  · exact HT.out.below ((show Below w.heap.size w _ from (by repeat (first | exact Below.refl _ _ | (with_reducible refine bel_call ?_ hb1) | (with_reducible refine bel_call ?_ hb2) | (with_reducible refine bel_call ?_ hb3) | (with_reducible refine bel_call ?_ hb4) | (with_reducible refine bel_call ?_ hb5) | (with_reducible refine bel_call ?_ hb6) | (with_reducible refine bel_call ?_ hb7) | (with_reducible refine bel_call ?_ hb8) | (with_reducible refine bel_call ?_ hb9) | (with_reducible refine bel_call ?_ hb10) | (with_reducible refine bel_call ?_ hb11) | (with_reducible refine bel_call ?_ hb12) | (with_reducible refine bel_call ?_ hb) | (with_reducible refine bel_over ?_) | (with_reducible refine bel_alloc ?_ _) | (with_reducible refine bel_drewN ?_ _) | (with_reducible refine bel_drew ?_) | (with_reducible refine bel_set ?_ (by simp; omega) _)))).trans (grown_other hg2 (Nat.le_refl _) (by simp)))
  · have hlt2 := hB2.out.lt
    have h3 : ((zs 4 ++ fill l).drop 4).take 124 = fill l := by
      rw [List.drop_left' (zs_length 4)]; exact List.take_of_length_le (by rw [HF.out]; omega)
    have hl4 : (zs 4 ++ fill l).length = 128 := by rw [List.length_append, zs_length, HF.out]
    rw [HS.out] at hB2
    have h4 := (RdB.of_own (B := w2.heap.size) (zs 4 ++ fill l) hB2.out hlt2 128 128 hl4 (by omega) (by simp [maxLen])).cut 4 124 124 (by omega) (by omega) (by simp [maxLen])
    rw [h3] at h4
    exact h4
  · rw [HZ.out]
    exact Blk.new w _ _
  · exact HR.out.below (by simpa using (Below.refl w.heap.size w).alloc (Nat.le_refl _) (.cells Z 5))
  · rw [zs_length]; omega
set_option maxRecDepth 100000 in
theorem Seal_no (v : Value) (l : List UInt8) (w : World) (hr : RdB w.heap.size w v l) (hl : ¬ l.length ≤ 124) :
    Calls Tryd.prog 19 #[v] w fun e w' => e = .returned (.tuple #[.slice none 0 0, .int .i64 3]) ∧ w = w' := by
  obtain ⟨A, c, rfl, h1, h2, h3, h4⟩ := id hr
  clear h4 hr
  unfold maxLen at h2
  have hd : decide ((124 : Int) < (l.length : Int)) = true := decide_eq_true (by omega)
  go_enter Tryd.func19, Tryd.ntmps19
  go_wp2
  go_ret2
  exact ⟨rfl, rfl⟩
/-- Is it a sealed sector? -/
def checkB (l : List UInt8) : Bool := decide (l.length = 128 ∧ l.take 4 = head4 (sum (l.drop 4)))
theorem check_no {l : List UInt8} {k : Nat} {x : UInt8} (hk : k < 4) (hx : l[k]? = some x) (h : x ≠ byteOf (sum (l.drop 4)) k) : checkB l = false := by
  unfold checkB
  rw [decide_eq_false_iff_not]
  rintro ⟨_, h2⟩
  apply h
  have h3 : (l.take 4)[k]? = some x := by rw [List.getElem?_take_of_lt hk]; exact hx
  rw [h2] at h3
  have : k = 0 ∨ k = 1 ∨ k = 2 ∨ k = 3 := by omega
  rcases this with rfl | rfl | rfl | rfl <;> simpa [head4] using h3.symm
theorem head_at {s k : Nat} (hk : k < 4) : (head4 s)[k]? = some (byteOf s k) := by
  have : k = 0 ∨ k = 1 ∨ k = 2 ∨ k = 3 := by omega
  rcases this with rfl | rfl | rfl | rfl <;> rfl
set_option maxRecDepth 100000 in
theorem Check_any (v : Value) (l : List UInt8) (w : World) (ht : Tb w) (hr : RdB w.heap.size w v l) :
    Calls Tryd.prog 21 #[v] w fun e w' => e = .returned (.bool (checkB l)) ∧ Below w.heap.size w w' := by
  have HT := Lib.hid ht
  clear ht
  obtain ⟨A, c, rfl, h1, h2, h3, h4⟩ := id hr
  unfold maxLen at h2
  have HR := Lib.hid hr
  clear hr
  by_cases hl : l.length = 128
  · obtain ⟨g, o, rfl, hg, hc⟩ := h4 (by intro e; subst e; simp at hl)
    clear h3 h4
    have HL := Lib.hid hl
    have hl2 : ((l.length : Int) != 128) = false := by simp; omega
    have hcl : (128 : Nat) ≤ c := by omega
    have HRd := Lib.hid (HR.out.cut 4 124 (c - 4) (by omega) (by omega) (by unfold maxLen; omega))
    have hdr : (l.drop 4).take 124 = l.drop 4 := List.take_of_length_le (by simp; omega)
    rw [hdr] at HRd
    have HC := Lib.hid hc
    clear hc hdr h1
    have hc4 : ¬ c = 4 := by omega
    rw [hl] at HR ⊢
    have hl3 : ((128 : Int) != 128) = false := rfl
    clear hl hl2
    go_enter Tryd.func21, Tryd.ntmps21
    go_wp2_with (go_at_call 12; refine (Sum_any _ (l.drop 4) _ HT.out HRd.out).mono ?_; rintro e w' ⟨rfl, rfl⟩)
    go_loopw [4, 11] (fun j i wr => ∃ k : Nat, k ≤ 4 ∧ i = .int .i64 k ∧ l.take k = (head4 (sum (l.drop 4))).take k ∧ Below w.heap.size w wr) (fun _ i _ => 4 - (intOf i).toNat)
    case atStart => exact ⟨0, by omega, rfl, rfl, Below.refl _ _⟩
    case round =>
      obtain ⟨k, hk, rfl, hd, hb⟩ := hrel
      have HD := Lib.hid hd
      clear hd
      by_cases hlt : k < 4
      · obtain ⟨x, hx⟩ : ∃ x, l[k]? = some x := ⟨_, List.getElem?_eq_getElem (by rw [HL.out]; omega)⟩
        have c1 := (hb.cell (p := ⟨g, o + k, none⟩) hg).trans (HC.out k _ hx)
        have HX := Lib.hid hx
        clear hx
        have hv := byteOf_val (sum (l.drop 4)) k
        have k0 : (0 : Int) ≤ (k : Int) := Int.natCast_nonneg _
        have k1 : (k : Int) < 128 := by omega
        have k2 : (k : Int) < 4 := by omega
        by_cases he : x = byteOf (sum (l.drop 4)) k
        · have ht : ((x.toNat : Int) != ((byteOf (sum (l.drop 4)) k).toNat : Int)) = false := by rw [he]; simp
          have HE := Lib.hid (show l.take (k + 1) = (head4 (sum (l.drop 4))).take (k + 1) by rw [take_succ' HX.out, take_succ' (head_at hlt), HD.out, he])
          clear he
          go_wp2_with fail
          go_quiet (fail)
          go_wp2
          go_roundw
          case rel => exact ⟨k + 1, by omega, by go_num, HE.out, below_drewN hb _⟩
          case measure => simp [intOf]; omega
        · have ht : ((x.toNat : Int) != ((byteOf (sum (l.drop 4)) k).toNat : Int)) = true := by
            simp only [bne_iff_ne, ne_eq]; intro e; apply he; apply UInt8.toNat_inj.1; omega
          have HE := Lib.hid (check_no hlt HX.out he)
          clear he
          go_wp2_with fail
          go_quiet (fail)
          go_wp2
          go_ret
          exact ⟨by rw [HE.out]; rfl, below_drewN hb _⟩
      · obtain rfl : k = 4 := by omega
        have HE := Lib.hid (show checkB l = true from decide_eq_true ⟨HL.out, HD.out⟩)
        go_wp2
        go_ret
        exact ⟨by rw [HE.out]; rfl, hb⟩
  · have HE := Lib.hid (show checkB l = false from decide_eq_false fun h => hl h.1)
    have hl2 : ((l.length : Int) != 128) = true := by simp; omega
    clear h4 hl
    go_enter Tryd.func21, Tryd.ntmps21
    go_wp2
    go_ret
    exact ⟨by rw [HE.out]; rfl, Below.refl _ _⟩
end Go.Proofs.YtcmpaebogekdcaaDoor.Crc
