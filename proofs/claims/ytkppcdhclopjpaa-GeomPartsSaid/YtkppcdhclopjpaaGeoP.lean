/- The plain words of the geometry: what follows from five numbers; no program here. -/
import GoSem.Claim
namespace Go.Proofs.Ytkppcdhclopjpaa.Geo
/-- A checkpoint slot's sectors, of c conventional ones. -/
def slotOf (c : Int) : Int := (c - 2) / 4
def ringOf (c : Int) : Int := 2 + 2 * slotOf c
def ringLenOf (c : Int) : Int := c - ringOf c
def bandsOf (a1 a4 : Int) : Int := a1 - a4 - 1
def roomOf (c a1 a4 : Int) : Int := slotOf c * 96 - 40 - 2 * bandsOf a1 a4 - (a1 + 7) / 8
def extentsOf (c a1 a4 : Int) : Int := if 2048 < (if roomOf c a1 a4 < 0 then 0 else roomOf c a1 a4) / 16 then 2048 else (if roomOf c a1 a4 < 0 then 0 else roomOf c a1 a4) / 16
def runOf (a2 : Int) : Int := if a2 - 2 < 8 then a2 - 2 else 8
def sectorsOf (a1 a2 a4 : Int) : Int := bandsOf a1 a4 * (a2 - 1)
/-- The bounds of the five numbers. -/
def Bnd (a0 a1 a2 a3 a4 : Int) : Prop := 2 ≤ a0 ∧ a0 ≤ 16 ∧ 4 ≤ a1 ∧ a1 ≤ 128 ∧ 8 ≤ a2 ∧ a2 ≤ 1024 ∧ 2 ≤ a3 ∧ a3 ≤ a1 ∧ 1 ≤ a4 ∧ a4 ≤ a1 - 2
/-- A geometry that may be. -/
def Ok (a0 a1 a2 a3 a4 : Int) : Prop := Bnd a0 a1 a2 a3 a4 ∧ 8 ≤ extentsOf (a0 * a2) a1 a4
instance (a0 a1 a2 a3 a4 : Int) : Decidable (Bnd a0 a1 a2 a3 a4) := inferInstanceAs (Decidable (_ ∧ _))
instance (a0 a1 a2 a3 a4 : Int) : Decidable (Ok a0 a1 a2 a3 a4) := inferInstanceAs (Decidable (_ ∧ _))
theorem conv_bd {a0 a2 : Int} (h0 : 2 ≤ a0) (h1 : a0 ≤ 16) (h2 : 8 ≤ a2) (h3 : a2 ≤ 1024) : 16 ≤ a0 * a2 ∧ a0 * a2 ≤ 16384 := by
  constructor
  · calc (16 : Int) = 2 * 8 := rfl
      _ ≤ 2 * a2 := by omega
      _ ≤ a0 * a2 := Int.mul_le_mul_of_nonneg_right h0 (by omega)
  · calc a0 * a2 ≤ 16 * a2 := Int.mul_le_mul_of_nonneg_right h1 (by omega)
      _ ≤ 16384 := by omega
theorem ring_ge {c : Int} (h : 16 ≤ c) : 8 ≤ ringLenOf c := by unfold ringLenOf ringOf slotOf; omega
theorem sectors_bd {a1 a2 a4 : Int} (h0 : 1 ≤ bandsOf a1 a4) (h1 : bandsOf a1 a4 ≤ 126) (h2 : 8 ≤ a2) (h3 : a2 ≤ 1024) : 7 ≤ sectorsOf a1 a2 a4 ∧ sectorsOf a1 a2 a4 ≤ 128898 := by
  unfold sectorsOf
  constructor
  · calc (7 : Int) ≤ 1 * (a2 - 1) := by omega
      _ ≤ bandsOf a1 a4 * (a2 - 1) := Int.mul_le_mul_of_nonneg_right h0 (by omega)
  · calc bandsOf a1 a4 * (a2 - 1) ≤ 126 * (a2 - 1) := Int.mul_le_mul_of_nonneg_right h1 (by omega)
      _ ≤ 128898 := by omega
end Go.Proofs.Ytkppcdhclopjpaa.Geo
