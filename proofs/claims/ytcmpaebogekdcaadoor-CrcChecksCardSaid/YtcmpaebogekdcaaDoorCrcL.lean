/- The law's lives(): true, whatever the world, where the table lies. -/
import Derived.Test.YtcmpaebogekdcaaDoorCrcB
import Derived.Test.YtcmpaebogekdcaaDoorCrcC
import Derived.Lib.SlBytesConst
namespace Go.Proofs.YtcmpaebogekdcaaDoor.Crc
open Go Go.RowKit Base Mem
set_option linter.unusedSimpArgs false
set_option linter.unusedVariables false
theorem head_len (s : Nat) : (head4 s).length = 4 := rfl
theorem check_of_seal {l : List UInt8} (hl : l.length ≤ 124) : checkB (sealed l) = true := by
  refine decide_eq_true ⟨?_, ?_⟩
  · unfold sealed; rw [List.length_append, fill_length hl]; rfl
  · unfold sealed; rw [List.take_left' (head_len _), List.drop_left' (head_len _)]
theorem check_short {l : List UInt8} (hl : l.length ≠ 128) : checkB l = false := decide_eq_false fun h => hl h.1
theorem sealed_len {l : List UInt8} (hl : l.length ≤ 124) : (sealed l).length = 128 := by
  unfold sealed; rw [List.length_append, fill_length hl]; rfl
theorem sum9 : sum [49, 50, 51, 52, 53, 54, 55, 56, 57] = 3808858755 := by decide +kernel
theorem join9 : Sn (8 * 5) (sum [49, 50, 51, 52]) ^^^ sum [53, 54, 55, 56, 57] = 3808858755 := by decide +kernel
theorem nib1 : nibble 1 = 274646895 := by decide +kernel
theorem RdB_const {w : World} (l : List UInt8) (n : Nat) (cs : Array Value) (fr : Nat × Nat) (hcs : cs = (bc l).toArray) (hn : l.length = n) (hm : n ≤ maxLen) (b : Nat) (hb : b = w.heap.size) : RdB (w.alloc (.cells cs 5 fr)).heap.size (w.alloc (.cells cs 5 fr)) (.slice (some ⟨b, 0, none⟩) n n) l := by
  subst hcs; subst hb
  refine ⟨_, n, by rw [hn], by omega, hm, (fun e => by cases e), fun _ => ⟨w.heap.size, 0, rfl, by simp, fun i x hx => ?_⟩⟩
  rw [Nat.zero_add, cell_of_row _ w.heap.size i _ 5 fr (heap_alloc_new w _)]
  simpa using bc_at hx
theorem run_const (w : World) (C : Array Value) (n c b : Nat) (hb : b = w.heap.size) : (convert 23 23 (.slice (some ⟨b, 0, none⟩) n c)).run Tryd.prog (w.alloc (.cells C 5)) = .ok (.slice (some ⟨b, 0, none⟩) n c) (w.alloc (.cells C 5 (C.size, C.size + 1))) := by
  subst hb; exact Lib.run_convert_bytes_const (P := Tryd.prog) w 23 5 C n c Tryd.underlying23 Tryd.underlying5
set_option maxRecDepth 100000 in
theorem lives_any (w : World) (ht : Tb w) :
    Calls Tryd.prog 11 #[] w fun e w' => e = .returned (.bool true) ∧ Below w.heap.size w w' := by
  have HT := Lib.hid ht
  clear ht
  have kc := run_const
  go_enter Tryd.func11, Tryd.ntmps11
  go_wp2_with fail
  refine (Seal_yes _ [97, 98, 99] _ (HT.out.below (by repeat (first | exact Below.refl _ _ | (with_reducible refine bel_call ?_ hb1) | (with_reducible refine bel_call ?_ hb2) | (with_reducible refine bel_call ?_ hb3) | (with_reducible refine bel_call ?_ hb4) | (with_reducible refine bel_call ?_ hb5) | (with_reducible refine bel_call ?_ hb6) | (with_reducible refine bel_call ?_ hb7) | (with_reducible refine bel_call ?_ hb8) | (with_reducible refine bel_call ?_ hb9) | (with_reducible refine bel_call ?_ hb10) | (with_reducible refine bel_call ?_ hb11) | (with_reducible refine bel_call ?_ hb12) | (with_reducible refine bel_call ?_ hb) | (with_reducible refine bel_over ?_) | (with_reducible refine bel_alloc ?_ _) | (with_reducible refine bel_drewN ?_ _) | (with_reducible refine bel_drew ?_) | (with_reducible refine bel_set ?_ (by simp; omega) _)))) (RdB_const [97, 98, 99] 3 _ _ rfl rfl (by simp [maxLen]) _ (by simp)) (by decide)).mono ?_
  rintro e w1 ⟨g, rfl, hg, hB, hb⟩
  have hb1 : Below w.heap.size w w1 := bel_call (show Below w.heap.size w _ from (by repeat (first | exact Below.refl _ _ | (with_reducible refine bel_call ?_ hb1) | (with_reducible refine bel_call ?_ hb2) | (with_reducible refine bel_call ?_ hb3) | (with_reducible refine bel_call ?_ hb4) | (with_reducible refine bel_call ?_ hb5) | (with_reducible refine bel_call ?_ hb6) | (with_reducible refine bel_call ?_ hb7) | (with_reducible refine bel_call ?_ hb8) | (with_reducible refine bel_call ?_ hb9) | (with_reducible refine bel_call ?_ hb10) | (with_reducible refine bel_call ?_ hb11) | (with_reducible refine bel_call ?_ hb12) | (with_reducible refine bel_call ?_ hb) | (with_reducible refine bel_over ?_) | (with_reducible refine bel_alloc ?_ _) | (with_reducible refine bel_drewN ?_ _) | (with_reducible refine bel_drew ?_) | (with_reducible refine bel_set ?_ (by simp; omega) _)))) hb
  have HB := Lib.hid hB
  clear hb hB hg
  have hT1 := Lib.hid (HT.out.below hb1)
  have q1 := sum9
  go_wp2_with fail
  refine (Sum_any _ [49, 50, 51, 52, 53, 54, 55, 56, 57] _ (hT1.out.below (bel_alloc (Below.refl _ _) _)) (RdB_const [49, 50, 51, 52, 53, 54, 55, 56, 57] 9 _ _ rfl rfl (by simp [maxLen]) _ (by simp))).mono ?_
  rw [q1]
  rintro e w' ⟨rfl, rfl⟩
  go_wp2_with fail
  generalize hs4 : sum [49, 50, 51, 52] = s4
  refine (Sum_any _ [49, 50, 51, 52] _ (hT1.out.below (bel_alloc (bel_alloc (Below.refl _ _) _) _)) (RdB_const [49, 50, 51, 52] 4 _ _ rfl rfl (by simp [maxLen]) _ (by simp))).mono ?_
  have H4 := Lib.hid hs4
  rw [hs4]
  clear hs4
  rintro e w' ⟨rfl, rfl⟩
  go_wp2_with fail
  generalize hs5 : sum [53, 54, 55, 56, 57] = s5
  refine (Sum_any _ [53, 54, 55, 56, 57] _ (hT1.out.below (bel_alloc (bel_alloc (bel_alloc (Below.refl _ _) _) _) _)) (RdB_const [53, 54, 55, 56, 57] 5 _ _ rfl rfl (by simp [maxLen]) _ (by simp))).mono ?_
  have H5 := Lib.hid hs5
  rw [hs5]
  clear hs5
  rintro e w' ⟨rfl, rfl⟩
  have l4 : s4 < 4294967296 := by rw [← H4.out]; exact sum_lt _
  have l5 : s5 < 4294967296 := by rw [← H5.out]; exact sum_lt _
  have hj : Sn (8 * 5) s4 ^^^ s5 = 3808858755 := by rw [← H4.out, ← H5.out]; exact join9
  go_wp2_with fail
  refine (Join_at s4 s5 5 _ 3808858755 _ rfl hj l4 l5 (by omega)).mono ?_
  clear hj
  rintro e w2 ⟨rfl, hb2⟩
  have hb12 : Below w1.heap.size w1 w2 := bel_call (bel_alloc (bel_alloc (bel_alloc (Below.refl _ _) _) _) _) hb2
  clear hb2
  have hR2 := Lib.hid (RdB.of_own (B := w2.heap.size) (sealed [97, 98, 99]) (HB.out.now hb12) (HB.out.now hb12).lt 128 128 (sealed_len (by decide)) (by omega) (by simp [maxLen]))
  have hT2 := Lib.hid (hT1.out.below hb12)
  go_wp2_with fail
  refine (Check_any _ (sealed [97, 98, 99]) _ hT2.out hR2.out).mono ?_
  rw [check_of_seal (by decide)]
  rintro e w3 ⟨rfl, hb3⟩
  have hT3 := Lib.hid (hT2.out.below hb3)
  have hR3 := Lib.hid ((hR2.out.now hb3).cut 0 127 128 (by rw [sealed_len (by decide)]; omega) (by omega) (by simp [maxLen]))
  go_wp2_with fail
  refine (Check_any _ _ _ hT3.out hR3.out).mono ?_
  rw [check_short (by rw [List.length_take, List.drop_zero, sealed_len (by decide)]; decide)]
  rintro e w4 ⟨rfl, hb4⟩
  have hT4 := Lib.hid (hT3.out.below hb4)
  have hn1 := nib1
  go_wp2_with fail
  refine (Nibble_any 1 _ hT4.out).mono ?_
  rw [hn1]
  rintro e w' ⟨rfl, rfl⟩
  go_wp2
  go_ret
  exact ⟨rfl, bel_call (bel_call (bel_call hb1 hb12) hb3) hb4⟩
end Go.Proofs.YtcmpaebogekdcaaDoor.Crc
