/- Out of the row's list: the table's cells. -/
import Derived.Test.YtcmpaebogekdcaaDoorRows
import Derived.Test.YtcmpaebogekdcaaDoorCrcA
import Derived.Lib.LaidTab
namespace Go.Proofs.YtcmpaebogekdcaaDoor.Crc
open Go Go.RowKit
theorem gTab : Tryd.prog.globalNamed "thatch/crc.nibbles" = some 0 := by kernel_rfl
theorem gTabType : (Tryd.prog.globals[0]?).map (·.type) = some 44 := by kernel_rfl
theorem Tb_of {W : World} {rest : List (String × DataW Unit)} (h : laidMet Tryd.prog (("thatch/crc.nibbles", Rows.laid_thatch_crc_nibbles) :: rest) W) : Tb W := by
  have hT : Lib.TabIs Tryd.prog W "thatch/crc.nibbles" .u32 (tab.map fun n : Nat => (n : Int)) :=
    Lib.tabIs_of_head (rest := rest) gTab gTabType Tryd.underlying44 Tryd.underlying22 (by kernel_rfl) (by kernel_rfl) h
  have key : ∀ i, i < 16 → W.cell? ⟨0, i, none⟩ = some (.int .u32 ((tab.getD i 0 : Nat) : Int)) := by
    intro i hi
    rw [hT.cell gTab i (by simpa [tab] using hi)]
    have : (tab.map fun n : Nat => (n : Int)).getD i 0 = ((tab.getD i 0 : Nat) : Int) := by
      simp [List.getD, List.getElem?_map]
      cases tab[i]? <;> simp
    rw [this]
  refine ⟨?_, key⟩
  rcases Nat.eq_zero_or_pos W.heap.size with h0 | h0
  · have := key 0 (by omega)
    simp [World.cell?, Array.getElem?_eq_none (show W.heap.size ≤ 0 by omega)] at this
  · exact h0
end Go.Proofs.YtcmpaebogekdcaaDoor.Crc
