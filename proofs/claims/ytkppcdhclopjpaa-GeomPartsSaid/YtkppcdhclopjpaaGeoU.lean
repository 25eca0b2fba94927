/- A span cut into runs: the words, no program. -/
import Derived.Test.YtkppcdhclopjpaaGeoP
import GoSem.Claim
namespace Go.Proofs.Ytkppcdhclopjpaa.Geo
def min3 (x y z : Int) : Int := if (if y < x then y else x) ≤ z then (if y < x then y else x) else z
/-- The run that begins at q: not longer than 'run', not beyond e, not beyond its band. -/
def runN (run bl e q : Int) : Int := min run (min (e - q) (bl - q % bl))
def runsF (run bl e : Int) : Nat → Int → List (Int × Int)
  | 0, _ => []
  | k + 1, q => if q < e then (q, runN run bl e q) :: runsF run bl e k (q + runN run bl e q) else []
theorem runN_ge {run bl e q : Int} (hr : 1 ≤ run) (hb : 1 ≤ bl) (h : q < e) : 1 ≤ runN run bl e q := by
  have := Int.emod_lt_of_pos q (show 0 < bl by omega)
  unfold runN; omega
theorem runN_le {run bl e q : Int} : runN run bl e q ≤ e - q := by unfold runN; omega
theorem runs_nil {run bl e q : Int} (h : e ≤ q) : ∀ k, runsF run bl e k q = []
  | 0 => rfl
  | k + 1 => by rw [runsF, if_neg (by omega)]
theorem runs_fuel {run bl e : Int} (hr : 1 ≤ run) (hb : 1 ≤ bl) : ∀ (k j : Nat) (q : Int), e - q ≤ k → e - q ≤ j → runsF run bl e k q = runsF run bl e j q
  | 0, j, q, h1, h2 => by rw [runs_nil (by omega), runs_nil (by omega)]
  | k + 1, 0, q, h1, h2 => by rw [runs_nil (by omega), runs_nil (by omega)]
  | k + 1, j + 1, q, h1, h2 => by
    rw [runsF, runsF]
    by_cases h : q < e
    · rw [if_pos h, if_pos h]
      have := runN_ge hr hb h
      rw [runs_fuel hr hb k j _ (by omega) (by omega)]
    · rw [if_neg h, if_neg h]
/-- All runs of the sectors p up to e. -/
def runs (run bl e p : Int) : List (Int × Int) := runsF run bl e (e - p).toNat p
theorem runs_step {run bl e q : Int} (hr : 1 ≤ run) (hb : 1 ≤ bl) (h : q < e) : runs run bl e q = (q, runN run bl e q) :: runs run bl e (q + runN run bl e q) := by
  unfold runs
  obtain ⟨k, hk⟩ : ∃ k, (e - q).toNat = k + 1 := ⟨(e - q).toNat - 1, by omega⟩
  have := runN_ge hr hb h
  rw [hk, runsF, if_pos h, runs_fuel hr hb k (e - (q + runN run bl e q)).toNat _ (by omega) (by omega)]
theorem runs_end {run bl e q : Int} (h : e ≤ q) : runs run bl e q = [] := runs_nil h _
/-- Spans as the cells of a row. -/
def sc (l : List (Int × Int)) : List Value := l.flatMap fun s => [.int .i64 s.1, .int .i64 s.2]
theorem sc_length : ∀ l, (sc l).length = l.length * 2
  | [] => rfl
  | a :: l => by simp only [sc, List.flatMap_cons, List.length_append, List.length_cons, List.length_nil]; have := sc_length l; unfold sc at this; omega
theorem sc_snoc (l : List (Int × Int)) (a b : Int) : sc (l ++ [(a, b)]) = sc l ++ [.int .i64 a, .int .i64 b] := by simp [sc]
theorem sc_at : ∀ (l : List (Int × Int)) (i : Nat), i < l.length → (sc l)[i * 2]? = some (.int .i64 (l.getD i (0, 0)).1) ∧ (sc l)[i * 2 + 1]? = some (.int .i64 (l.getD i (0, 0)).2)
  | [], i, h => absurd h (by simp)
  | a :: l, 0, _ => by simp [sc]
  | a :: l, i + 1, h => by
    have := sc_at l i (by simpa using h)
    rw [show (i + 1) * 2 = i * 2 + 1 + 1 by omega]
    simpa [sc] using this
/-- Where the reference's steps end: the longest n that is not longer than 'run', not beyond e, not beyond the band. -/
theorem div_same {bl q n : Int} (hb : 1 ≤ bl) (h0 : 0 ≤ n) (h : n < bl - q % bl) : (q + n) / bl = q / bl := by
  have hd := Int.mul_ediv_add_emod q bl
  have hm := Int.emod_nonneg q (show bl ≠ 0 by omega)
  have : q + n = (q % bl + n) + bl * (q / bl) := by omega
  rw [this, Int.add_mul_ediv_left _ _ (by omega), Int.ediv_eq_zero_of_lt (by omega) (by omega)]; omega
theorem div_next {bl q : Int} (hb : 1 ≤ bl) : (q + (bl - q % bl)) / bl = q / bl + 1 := by
  have hd := Int.mul_ediv_add_emod q bl
  have : q + (bl - q % bl) = 0 + bl * (q / bl + 1) := by rw [Int.mul_add]; omega
  rw [this, Int.add_mul_ediv_left _ _ (by omega)]; simp
end Go.Proofs.Ytkppcdhclopjpaa.Geo
