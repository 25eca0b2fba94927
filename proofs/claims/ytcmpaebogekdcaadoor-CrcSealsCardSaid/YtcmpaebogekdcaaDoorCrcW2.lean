/- The walk of CrcSeals. -/
import Derived.Test.YtcmpaebogekdcaaDoorCrcL
import Derived.Test.YtcmpaebogekdcaaDoorCrcD
namespace Go.Proofs.YtcmpaebogekdcaaDoor.Crc
open Go Go.RowKit Base Mem
set_option linter.unusedSimpArgs false
set_option linter.unusedVariables false
set_option maxRecDepth 100000 in
set_option maxHeartbeats 1000000 in
theorem CrcSeals_walk (w : World) (v : Value) (l : List UInt8) (hr : RdB w.heap.size w v l) (hz : l.length * 1 ≤ 140737488351232) (ht : Tb w) :
    Calls Tryd.prog 7 #[v] w fun e w' => e = .returned (.bool true) ∧ Below w.heap.size w w' := by
  obtain ⟨A, c, rfl, h1, h2, h3, h4⟩ := id hr
  unfold maxLen at h2
  clear h4
  have HT := Lib.hid ht
  have HR := Lib.hid hr
  clear ht hr
  have hE : (w.alloc (.cells #[] 5)).ownsRow w.heap.size 5 1 (.slice (some ⟨w.heap.size, 0, none⟩) 0 0) ([] : List UInt8).length (bc []) :=
    World.ownsRow_lit w #[] 0 (Nat.le_refl _) (by simp) rfl
  have HE := Lib.hid hE
  clear hE
  go_enter Tryd.func7, Tryd.ntmps7
  go_wp2_with (refine wpList_appendB (o := ⟨some 8, _, _, _, _, _⟩) rfl (.tmp 6) (.tmp 7) rfl w.heap.size [] l (.slice (some ⟨w.heap.size, 0, none⟩) 0 0) (.slice A l.length c) rfl rfl HE.out w.heap.size (HR.out.below ((Below.refl _ _).alloc (Nat.le_refl _) _)) (by simp; omega) (by simp) ?_; intro v1 w1 hown1 hg1 hat1)
  have hb1 : Below w.heap.size w w1 := ((Below.refl w.heap.size w).alloc (Nat.le_refl _) _).trans (grown_below hg1 HE.out (Nat.le_refl _) (by simp))
  clear hg1 hat1
  have hR1 : RdB w1.heap.size w1 v1 l := RdB.of_row (a_nil_append hown1.out)
  have HR1 := Lib.hid hR1
  have HT1 := Lib.hid (HT.out.below hb1)
  have HV1 := Lib.hid (HR.out.now hb1)
  clear hown1 hR1
  by_cases hl : l.length ≤ 124
  · refine (Seal_yes _ l _ HT1.out HR1.out hl).mono ?_
    rintro e w2 ⟨g, rfl, hg, hB, hb⟩
    have hR2 := Lib.hid (RdB.of_own (B := w2.heap.size) (sealed l) hB hB.lt 128 128 (sealed_len hl) (by omega) (by simp [maxLen]))
    have HT2 := Lib.hid (HT1.out.below hb)
    have HR2 := Lib.hid (HR1.out.now hb)
    have HV2 := Lib.hid (HV1.out.now hb)
    have hb2 := bel_call hb1 hb
    clear hB hb hb1
    go_wp2_with fail
    refine (lives_any _ HT2.out).mono ?_
    rintro e w3 ⟨rfl, hb⟩
    have hR3 := Lib.hid (hR2.out.now hb)
    have HT3 := Lib.hid (HT2.out.below hb)
    have HR3 := Lib.hid (HR2.out.now hb)
    have HV3 := Lib.hid (HV2.out.now hb)
    have hb3 := bel_call hb2 hb
    clear hb hb2
    have c1 := run_string HR3.out
    have c2 := run_string HV3.out
    have hd : decide ((124 : Int) < (l.length : Int)) = false := decide_eq_false (by omega)
    go_wp2_with fail
    clear c1 c2
    have c1 := run_string (w := w3.drew) hR3.out
    have HV4 := Lib.hid (show RdB w3.drew.heap.size w3.drew (.slice A l.length c) l from HV3.out)
    have hR4 := Lib.hid (show RdB w3.drew.heap.size w3.drew _ _ from hR3.out)
    have HT4 := Lib.hid (show Tb w3.drew from HT3.out)
    have hk := check_of_seal hl
    go_region_with (first | (go_at_call 20; refine (refSeal_any _ l _ HV4.out hl).mono ?_; rintro e w4 ⟨v4, rfl, hr4, hb4⟩; have c3 := run_string hr4; have c4 := run_string (hR4.out.below hb4); have HT5 := Lib.hid (HT4.out.below hb4); have hR5 := Lib.hid (hR4.out.now hb4)) | (go_at_call 21; refine (Check_any _ (sealed l) _ HT5.out hR5.out).mono ?_; rw [hk]; rintro e w5 ⟨rfl, hb5⟩))
    all_goals
      go_wp2
      go_ret
      exact ⟨by first | rfl | simp, bel_call (bel_call (bel_drew hb3) hb4) hb5⟩
  · refine (Seal_no _ l _ HR1.out hl).mono ?_
    rintro e w2 ⟨rfl, rfl⟩
    go_wp2_with fail
    refine (lives_any _ HT1.out).mono ?_
    rintro e w3 ⟨rfl, hb⟩
    have HR3 := Lib.hid (HR1.out.now hb)
    have HV3 := Lib.hid (HV1.out.now hb)
    have hb3 := bel_call hb1 hb
    clear hb hb1
    have c1 := run_string HR3.out
    have c2 := run_string HV3.out
    have hd : decide ((124 : Int) < (l.length : Int)) = true := decide_eq_true (by omega)
    go_wp2
    go_ret
    exact ⟨rfl, hb3⟩
end Go.Proofs.YtcmpaebogekdcaaDoor.Crc
