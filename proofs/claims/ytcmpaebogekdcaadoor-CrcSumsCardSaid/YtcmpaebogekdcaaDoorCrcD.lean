/- The reference's Seal and Check. -/
import Derived.Test.YtcmpaebogekdcaaDoorCrcC
import Derived.Deep.RegionWith
import Derived.Deep.RegionHeld3
namespace Go.Proofs.YtcmpaebogekdcaaDoor.Crc
open Go Go.RowKit Base Mem
set_option linter.unusedSimpArgs false
set_option linter.unusedVariables false
theorem head_cells (s : Nat) : [Value.int .u8 ((s : Int) % 256), .int .u8 ((s : Int) / 256 % 256), .int .u8 ((s : Int) / 65536 % 256), .int .u8 ((s : Int) / 16777216 % 256)] = bc (head4 s) := by
  have h0 := byteOf_val s 0
  have h1 := byteOf_val s 1
  have h2 := byteOf_val s 2
  have h3 := byteOf_val s 3
  simp only [Nat.mul_zero, Int.pow_zero, Int.ediv_one] at h0
  have e1 : (2 : Int) ^ (8 * 1) = 256 := by decide
  have e2 : (2 : Int) ^ (8 * 2) = 65536 := by decide
  have e3 : (2 : Int) ^ (8 * 3) = 16777216 := by decide
  rw [e1] at h1; rw [e2] at h2; rw [e3] at h3
  rw [h0, h1, h2, h3]; rfl
theorem sealed_length {l : List UInt8} (hl : l.length ≤ 124) : (sealed l).length = 128 := by
  unfold sealed; rw [List.length_append, fill_length hl]; rfl
set_option maxRecDepth 100000 in
theorem refSeal_any (v : Value) (l : List UInt8) (w : World) (hr : RdB w.heap.size w v l) (hl : l.length ≤ 124) :
    Calls Tryd.prog 20 #[v] w fun e w' => ∃ v', e = .returned v' ∧ RdB w'.heap.size w' v' (sealed l) ∧ Below w.heap.size w w' := by
  obtain ⟨A, c, rfl, h1, h2, h3, h4⟩ := id hr
  clear h4
  unfold maxLen at h2
  have HR := Lib.hid hr
  clear hr
  have HF := Lib.hid (fill_length hl)
  have hk : (124 : Int) - (l.length : Int) = ((124 - l.length : Nat) : Int) := by omega
  go_enter Tryd.func20, Tryd.ntmps20
  have hE : (w.alloc (.cells #[] 5)).ownsRow w.heap.size 5 1 (.slice (some ⟨w.heap.size, 0, none⟩) 0 0) ([] : List UInt8).length (bc []) :=
    World.ownsRow_lit w #[] 0 (Nat.le_refl _) (by simp) rfl
  have HE := Lib.hid hE
  clear hE
  go_wp2_with (first
    | (refine wpList_appendB (o := ⟨some 7, _, _, _, _, _⟩) rfl (.tmp 5) (.tmp 6) rfl w.heap.size [] l (.slice (some ⟨w.heap.size, 0, none⟩) 0 0) (.slice A l.length c) rfl rfl HE.out w.heap.size (HR.out.below ((Below.refl _ _).alloc (Nat.le_refl _) _)) (by simp; omega) (by simp) ?_; intro v1 w1 hown1 hg1 hat1
       have hb1 : Below w.heap.size w w1 := ((Below.refl w.heap.size w).alloc (Nat.le_refl _) _).trans (grown_below hg1 HE.out (Nat.le_refl _) (by simp))
       have hs1 := hb1.size; clear hg1 hat1)
    | (refine wpList_appendZ (o := ⟨some 11, _, _, _, _, _⟩) rfl (.tmp 7) (.tmp 10) rfl w.heap.size ([] ++ l) (124 - l.length) v1 rfl rfl hown1.out (by simp; omega) hs1 ?_; intro v2 w2 hown2 hg2 hat2
       have hb2 : Below w.heap.size w w2 := hb1.trans (grown_below hg2 hown1.out (Nat.le_refl _) hs1)
       have hs2 := hb2.size; clear hg2 hat2))
  refine (refSum_any v2 (fill l) _ (RdB.of_row hown2.out)).mono ?_
  rintro e w' ⟨rfl, rfl⟩
  have hC := head_cells (sum (fill l))
  have HC := Lib.hid hC
  clear hC
  go_wp2_with (refine wpList_appendB (o := ⟨some 27, _, _, _, _, _⟩) rfl (.tmp 25) (.tmp 26) rfl w.heap.size (head4 (sum (fill l))) (fill l) (.slice (some ⟨w2.heap.size, 0, none⟩) 4 4) v2 rfl rfl ?_ w2.heap.size ?_ ?_ ?_ ?_; rotate_left 4; intro v3 w3 hown3 hg3 hat3)
  · go_ret
    refine ⟨v3, rfl, RdB.of_row hown3.out, ?_⟩
    exact (bel_alloc hb2 _).trans ⟨hg3.os, hg3.tape, hg3.output, hg3.size, fun k hk => hg3.block k (by simp; omega) (by simp [Value.ownBlock]; omega)⟩
  · rw [← HC.out]
    have := World.ownsRow_lit (base := w.heap.size) (e := 5) (size := 1) w2 #[.int .u8 (((sum (fill l) : Nat) : Int) % 256), .int .u8 (((sum (fill l) : Nat) : Int) / 256 % 256), .int .u8 (((sum (fill l) : Nat) : Int) / 65536 % 256), .int .u8 (((sum (fill l) : Nat) : Int) / 16777216 % 256)] 4 hs2 (by simp [maxLen]) rfl
    exact this
  · exact (RdB.of_row hown2.out).below ((Below.refl _ _).alloc (Nat.le_refl _) _)
  · rw [HF.out]; simp [head4]
  · simp; omega
theorem check_sealed (l : List UInt8) (h : l.length = 128) : (sealed (l.drop 4) = l) = (checkB l = true) := by
  unfold checkB sealed
  have hf : fill (l.drop 4) = l.drop 4 := by unfold fill zs; rw [List.length_drop, h]; simp
  rw [hf, decide_eq_true_iff]
  apply propext
  constructor
  · intro e
    refine ⟨h, ?_⟩
    have : (head4 (sum (l.drop 4)) ++ l.drop 4).take 4 = head4 (sum (l.drop 4)) := List.take_left' rfl
    rw [← this, e]
  · rintro ⟨_, e⟩
    rw [← e, List.take_append_drop]
set_option maxRecDepth 100000 in
set_option maxHeartbeats 4000000 in
theorem refCheck_any (v : Value) (l : List UInt8) (w : World) (hr : RdB w.heap.size w v l) :
    Calls Tryd.prog 22 #[v] w fun e w' => e = .returned (.bool (checkB l)) ∧ Below w.heap.size w w' := by
  obtain ⟨A, c, rfl, h1, h2, h3, h4⟩ := id hr
  unfold maxLen at h2
  have HR := Lib.hid hr
  clear hr
  by_cases hl : l.length = 128
  · obtain ⟨g, o, rfl, hg, hc⟩ := h4 (by intro e; subst e; simp at hl)
    clear h3 h4
    have HL := Lib.hid hl
    have hcl : (128 : Nat) ≤ c := by omega
    have HRd := Lib.hid (HR.out.cut 4 124 (c - 4) (by omega) (by omega) (by unfold maxLen; omega))
    have hdr : (l.drop 4).take 124 = l.drop 4 := List.take_of_length_le (by simp; omega)
    rw [hdr] at HRd
    clear hc hdr h1
    have hc4 : ¬ c = 4 := by omega
    rw [hl] at HR ⊢
    have hl4 : (l.drop 4).length ≤ 124 := by simp; omega
    have hc0 := run_string (w := w.drew) HR.out
    have he := str_eq (sealed (l.drop 4)) l
    have HK := Lib.hid (check_sealed l hl)
    clear hl
    have HRW := Lib.hid (show RdB w.drew.heap.size w.drew (.slice (some ⟨g, o, none⟩) 128 c) l from HR.out)
    go_enter Tryd.func22, Tryd.ntmps22
    go_wp2_with fail
    go_region_with (go_at_call 20; refine (refSeal_any _ (l.drop 4) _ (by exact HRd.out) hl4).mono ?_; rintro e w1 ⟨v1, rfl, hr1, hb1⟩; have hc1 := run_string hr1; have hc2 := run_string (HRW.out.below hb1))
    all_goals
      go_wp2
      go_ret
      refine ⟨ret_bool ?_, ((Below.refl w.heap.size w).drew).trans hb1⟩
      rw [Bool.eq_iff_iff, beq_iff_eq]
      exact iff_of_eq HK.out
  · have HE := Lib.hid (show checkB l = false from decide_eq_false fun h => hl h.1)
    have hl2 : ((l.length : Int) == 128) = false := by simp; omega
    clear h4 hl
    go_enter Tryd.func22, Tryd.ntmps22
    go_wp2_with fail
    go_quiet (fail)
    go_wp2
    go_ret
    exact ⟨by rw [HE.out]; rfl, below_drewN (Below.refl _ _) _⟩
end Go.Proofs.YtcmpaebogekdcaaDoor.Crc
