/- le.Writer: Len, Done. -/
import Derived.Test.YtiapoinobdnboaaLeW
namespace Go.Proofs.Ytiapoinobdnboaa.Le
open Go Go.RowKit Base Mem
set_option linter.unusedSimpArgs false
set_option linter.unusedVariables false
set_option maxRecDepth 100000 in
theorem Len_any (g : Nat) (r : Option Nat) (l : List UInt8) (room : Int) (bad : Bool) (w : World) (hW : WrI w g r l room bad) :
    Calls Try.prog 27 #[.pointer (some ⟨g, 0, none⟩)] w fun e w' => e = .returned (.int .i64 (l.length : Int)) ∧ w' = w := by
  obtain ⟨A, c, hv, hB, hown, c0, c1, c2, hsz⟩ := hW.open_
  clear hB hown hv hW
  go_enter Try.func27, Try.ntmps27
  go_wp2
  go_ret
  exact ⟨rfl, rfl⟩
set_option maxRecDepth 100000 in
theorem Done_bad (g : Nat) (r : Option Nat) (l : List UInt8) (room : Int) (w : World) (hW : WrI w g r l room true) :
    Calls Try.prog 12 #[.pointer (some ⟨g, 0, none⟩)] w fun e w' => e = .returned (.tuple #[.slice none 0 0, .int .i64 2]) ∧ w' = w := by
  obtain ⟨A, c, hv, hB, hown, c0, c1, c2, hsz⟩ := hW.open_
  clear hB hown hv hW
  go_enter Try.func12, Try.ntmps12
  go_wp2
  go_ret2
  exact ⟨rfl, rfl⟩
set_option maxRecDepth 100000 in
theorem Done_ok (g : Nat) (r : Option Nat) (l : List UInt8) (room : Nat) (w : World) (hW : WrI w g r l room false) (hr : room ≤ 65536) (hl : l.length ≤ room) :
    Calls Try.prog 12 #[.pointer (some ⟨g, 0, none⟩)] w fun e w' => ∃ g', e = .returned (.tuple #[.slice (some ⟨g', 0, none⟩) room room, .int .i64 0]) ∧ w.heap.size ≤ g' ∧ Blk w' g' 5 (bc (l ++ zs (room - l.length))).toArray ∧ Below w.heap.size w w' := by
  obtain ⟨A, c, hv, hB, hown, c0, c1, c2, hsz⟩ := hW.open_
  have HR := Lib.hid (RdB.of_row hown)
  obtain ⟨Z, hZ⟩ : ∃ Z, Z = (bc (zs room)).toArray := ⟨_, rfl⟩
  have hmk : ∀ W : World, (Instr.makeSlice 28 (.int .i64 (room : Int)) (.int .i64 (room : Int))).run Try.prog W = .ok (.slice (some ⟨W.heap.size, 0, none⟩) room room) (W.alloc (.cells Z 5)) := fun W => by rw [hZ]; exact run_makeB room (by omega) W
  have HZ := Lib.hid hZ
  clear hB hown hv hW hZ
  have HS := Lib.hid (show splice (zs room) 0 l = l ++ zs (room - l.length) by unfold splice zs; rw [List.take_zero, List.nil_append, List.drop_replicate, Nat.zero_add])
  have hBZ : Blk (w.alloc (.cells Z 5)) w.heap.size 5 (bc (zs room)).toArray := by rw [← HZ.out]; exact Blk.new w _ _
  have HBZ := Lib.hid hBZ
  have HRZ := Lib.hid (HR.out.below ((Below.refl w.heap.size w).alloc (Nat.le_refl _) (.cells Z 5)))
  clear hBZ
  have hfit : 0 + l.length ≤ (zs room).length := by rw [zs_length]; omega
  go_enter Try.func12, Try.ntmps12
  go_wp2_with (refine wpList_copyB (o := ⟨some 23, _, _, _, _, _⟩) rfl (.tmp 18) (.tmp 22) rfl w.heap.size 0 room room (zs room) l (.slice A l.length c) w.heap.size ?_ ?_ ?_ ?_ ?_ ?_ ?_; rotate_left 6; intro w2 hB2 hg2)
  · go_ret2
    rw [HS.out] at hB2
    exact ⟨w.heap.size, rfl, Nat.le_refl _, hB2.out, ((Below.refl w.heap.size w).alloc (Nat.le_refl _) _).trans (grown_other hg2 (Nat.le_refl _) (by simp))⟩
  · rfl
  · rfl
  · exact HBZ.out
  · exact HRZ.out
  · exact hfit
  · exact hl
end Go.Proofs.Ytiapoinobdnboaa.Le
