/- thatchref03.Same on two lists that are the same. -/
import Derived.Test.YtkppcdhclopjpaaGeoV
import Derived.Outline
namespace Go.Proofs.Ytkppcdhclopjpaa.Geo
open Go Go.RowKit Base
set_option linter.unusedSimpArgs false
set_option linter.unusedVariables false
/-- A slice of spans, read: its block and what its cells hold. -/
def RdSp (w : World) (v : Value) (l : List (Int × Int)) : Prop :=
  (v = .slice none 0 0 ∧ l = []) ∨ ∃ g c, v = .slice (some ⟨g, 0, none⟩) l.length c ∧ g < w.heap.size ∧ ∀ i, i < l.length → w.cell? ⟨g, i * 2, none⟩ = some (.int .i64 (l.getD i (0, 0)).1) ∧ w.cell? ⟨g, i * 2 + 1, none⟩ = some (.int .i64 (l.getD i (0, 0)).2)
theorem RdSp.of_own {w : World} {base : Nat} {v : Value} {l : List (Int × Int)} {e : TypeId} (h : w.ownsRow base e 2 v l.length (sc l)) : RdSp w v l := by
  obtain ⟨h1, h2⟩ := h
  rcases h2 with ⟨rfl, hn⟩ | ⟨g, cap, cur, rfl, hg, hh, h3, h4, h5, h6⟩
  · exact .inl ⟨rfl, List.length_eq_zero_iff.1 hn⟩
  · refine .inr ⟨g, cap, rfl, (Array.getElem?_eq_some_iff.1 hh).1, fun i hi => ?_⟩
    have key : ∀ j, j < l.length * 2 → w.cell? ⟨g, j, none⟩ = (sc l)[j]? := by
      intro j hj
      rw [cell_of_row w g j cur e (0, 0) hh]
      rw [← h6, List.getElem?_take_of_lt hj]; simp
    obtain ⟨s1, s2⟩ := sc_at l i hi
    exact ⟨by rw [key _ (by omega), s1], by rw [key _ (by omega), s2]⟩
theorem RdSp.below {w w' : World} {v : Value} {l : List (Int × Int)} (h : RdSp w v l) (hb : Below w.heap.size w w') : RdSp w' v l := by
  rcases h with h | ⟨g, c, rfl, hg, hc⟩
  · exact .inl h
  · exact .inr ⟨g, c, rfl, Nat.lt_of_lt_of_le hg hb.size, fun i hi => by rw [hb.cell (by simpa using hg), hb.cell (by simpa using hg)]; exact hc i hi⟩
set_option maxRecDepth 100000 in
set_option maxHeartbeats 4000000 in
theorem refSame_eq (v1 v2 : Value) (l : List (Int × Int)) (w : World) (h1 : RdSp w v1 l) (h2 : RdSp w v2 l) (hl : l.length ≤ 1000000) :
    Calls Try.prog 15 #[v1, v2] w fun e w' => e = .returned (.bool true) ∧ Below w.heap.size w w' := by
  have hu25 := Try.underlying25
  rcases h1 with ⟨rfl, rfl⟩ | ⟨g1, c1, rfl, hg1, hc1⟩
  · rcases h2 with ⟨rfl, _⟩ | ⟨g2, c2, rfl, hg2, hc2⟩
    all_goals
      go_enter Try.func15, Try.ntmps15
      go_wp2
      refine wp_loop_rounds 1 ?_
      rw [rounds_succ]
      go_wp2
      go_ret
      exact ⟨rfl, Below.refl _ _⟩
  · rcases h2 with ⟨rfl, rfl⟩ | ⟨g2, c2, rfl, hg2, hc2⟩
    · go_enter Try.func15, Try.ntmps15
      go_wp2
      refine wp_loop_rounds 1 ?_
      rw [rounds_succ]
      go_wp2
      go_ret
      exact ⟨rfl, Below.refl _ _⟩
    · go_enter Try.func15, Try.ntmps15
      go_wp2
      go_loopw [5] (fun i wr => ∃ k : Nat, k ≤ l.length ∧ i = .int .i64 k ∧ Below w.heap.size w wr) (fun i _ => l.length - (intOf i).toNat)
      case atStart => exact ⟨0, by omega, rfl, Below.refl _ _⟩
      case round =>
        obtain ⟨k, hk, rfl, hB⟩ := hrel
        by_cases hlt : k < l.length
        · have x0 : wr.cell? ⟨g1, k * 2, none⟩ = some (.int .i64 (l.getD k (0, 0)).1) := by rw [hB.cell (by simpa using hg1)]; exact (hc1 k hlt).1
          have x1 : wr.cell? ⟨g1, k * 2 + 1, none⟩ = some (.int .i64 (l.getD k (0, 0)).2) := by rw [hB.cell (by simpa using hg1)]; exact (hc1 k hlt).2
          have y0 : wr.cell? ⟨g2, k * 2, none⟩ = some (.int .i64 (l.getD k (0, 0)).1) := by rw [hB.cell (by simpa using hg2)]; exact (hc2 k hlt).1
          have y1 : wr.cell? ⟨g2, k * 2 + 1, none⟩ = some (.int .i64 (l.getD k (0, 0)).2) := by rw [hB.cell (by simpa using hg2)]; exact (hc2 k hlt).2
          have k0 : (0 : Int) ≤ (k : Int) := Int.natCast_nonneg _
          have k1 : (k : Int) < (l.length : Int) := by omega
          clear hc1 hc2
          go_wp2_with fail
          go_quiet (fail)
          go_wp2
          go_roundw
          case rel => exact ⟨k + 1, by omega, by go_num, below_drewN hB _⟩
          case measure => simp [intOf]; omega
        · clear hc1 hc2
          go_wp2
          go_ret
          exact ⟨rfl, hB⟩
end Go.Proofs.Ytkppcdhclopjpaa.Geo
