/- geom.within and geom.bounded: whether five numbers lie within their bounds; on every input. -/
import Derived.Test.YtkppcdhclopjpaaProg
import Derived.Test.YtkppcdhclopjpaaBase
namespace Go.Proofs.Ytkppcdhclopjpaa.Geo
open Go Go.RowKit Base
def wok (f : Nat → Int) (n : Nat) : Bool := (List.range n).all fun i => decide (f (i * 3) ≤ f (i * 3 + 1) ∧ f (i * 3 + 1) ≤ f (i * 3 + 2))
theorem wok_succ {f : Nat → Int} {k : Nat} (h : wok f k = true) (h1 : f (k * 3) ≤ f (k * 3 + 1)) (h2 : f (k * 3 + 1) ≤ f (k * 3 + 2)) : wok f (k + 1) = true := by
  unfold wok at *; rw [List.range_succ, List.all_append, h]; simp [h1, h2]
theorem wok_no {f : Nat → Int} {n k : Nat} (hk : k < n) (h : ¬ (f (k * 3) ≤ f (k * 3 + 1) ∧ f (k * 3 + 1) ≤ f (k * 3 + 2))) : wok f n = false := by
  unfold wok; rw [Bool.eq_false_iff]; intro hh; rw [List.all_eq_true] at hh
  exact h (of_decide_eq_true (hh k (List.mem_range.mpr hk)))
set_option maxRecDepth 100000 in
theorem within_any (b n : Nat) (f : Nat → Int) (w : World) (hn : n ≤ 100) (hb : b < w.heap.size)
   (hc : ∀ i, i < n * 3 → w.cell? ⟨b, i, none⟩ = some (.int .i64 (f i))) :
    Calls Try.prog 36 #[.slice (some ⟨b, 0, none⟩) n n] w fun e w' => e = .returned (.bool (wok f n)) ∧ Below w.heap.size w w' := by
  go_enter Try.func36, Try.ntmps36
  go_wp2
  go_loopw [7] (fun i wr => ∃ k : Nat, k ≤ n ∧ i = .int .i64 k ∧ wok f k = true ∧ Below w.heap.size w wr) (fun i _ => n - (intOf i).toNat)
  case atStart => exact ⟨0, by omega, rfl, rfl, Below.refl _ _⟩
  case round =>
    obtain ⟨k, hk, rfl, hok, hB⟩ := hrel
    by_cases hlt : k < n
    · have c0 : wr.cell? ⟨b, k * 3, none⟩ = some (.int .i64 (f (k * 3))) := by rw [hB.cell (p := ⟨b, k * 3, none⟩) hb]; exact hc _ (by omega)
      have c1 : wr.cell? ⟨b, k * 3 + 1, none⟩ = some (.int .i64 (f (k * 3 + 1))) := by rw [hB.cell (p := ⟨b, k * 3 + 1, none⟩) hb]; exact hc _ (by omega)
      have c2 : wr.cell? ⟨b, k * 3 + 2, none⟩ = some (.int .i64 (f (k * 3 + 2))) := by rw [hB.cell (p := ⟨b, k * 3 + 2, none⟩) hb]; exact hc _ (by omega)
      clear hc
      have hsz := hB.size
      go_wp2
      all_goals first
        | (go_ret
           exact ⟨ret_bool (wok_no hlt (by omega)).symm, hB.alloc hsz _⟩)
        | (go_roundw
           case rel => exact ⟨k + 1, by omega, by go_num, wok_succ hok (by omega) (by omega), hB.alloc hsz _⟩
           case measure => simp [intOf]; omega)
    · go_wp2
      go_ret
      have : k = n := by omega
      subst this
      exact ⟨ret_bool hok.symm, hB⟩
def bnd (a0 a1 a2 a3 a4 : Int) : Bool := decide (2 ≤ a0 ∧ a0 ≤ 16 ∧ 4 ≤ a1 ∧ a1 ≤ 128 ∧ 8 ≤ a2 ∧ a2 ≤ 1024 ∧ 2 ≤ a3 ∧ a3 ≤ a1 ∧ 1 ≤ a4 ∧ a4 ≤ wrap64 (a1 - 2))
def cs15 (a0 a1 a2 a3 a4 x : Int) : List Int := [2, a0, 16, 4, a1, 128, 8, a2, 1024, 2, a3, a1, 1, a4, x]
theorem wok15 (a0 a1 a2 a3 a4 : Int) : wok (fun i => (cs15 a0 a1 a2 a3 a4 (wrap64 (a1 - 2))).getD i 0) 5 = bnd a0 a1 a2 a3 a4 := by
  generalize hx : wrap64 (a1 - 2) = x
  unfold wok bnd; rw [Bool.eq_iff_iff, List.all_eq_true, decide_eq_true_iff, hx]
  constructor
  · intro h
    have h0 := of_decide_eq_true (h 0 (by simp)); have h1 := of_decide_eq_true (h 1 (by simp)); have h2 := of_decide_eq_true (h 2 (by simp)); have h3 := of_decide_eq_true (h 3 (by simp)); have h4 := of_decide_eq_true (h 4 (by simp))
    simp [cs15] at h0 h1 h2 h3 h4
    omega
  · intro h i hi
    have : i = 0 ∨ i = 1 ∨ i = 2 ∨ i = 3 ∨ i = 4 := by have := List.mem_range.mp hi; omega
    rcases this with rfl | rfl | rfl | rfl | rfl <;> simp [cs15] <;> omega
theorem cells15 (W : World) (a0 a1 a2 a3 a4 x : Int) (i : Nat) (hi : i < 5 * 3) : (W.alloc (Obj.cells #[Value.int IntKind.i64 2, Value.int IntKind.i64 a0, Value.int IntKind.i64 16, Value.int IntKind.i64 4, Value.int IntKind.i64 a1, Value.int IntKind.i64 128, Value.int IntKind.i64 8, Value.int IntKind.i64 a2, Value.int IntKind.i64 1024, Value.int IntKind.i64 2, Value.int IntKind.i64 a3, Value.int IntKind.i64 a1, Value.int IntKind.i64 1, Value.int IntKind.i64 a4, Value.int IntKind.i64 x] 57)).cell? ⟨W.heap.size, i, none⟩ = some (.int .i64 ((cs15 a0 a1 a2 a3 a4 x).getD i 0)) := by
  have : i = 0 ∨ i = 1 ∨ i = 2 ∨ i = 3 ∨ i = 4 ∨ i = 5 ∨ i = 6 ∨ i = 7 ∨ i = 8 ∨ i = 9 ∨ i = 10 ∨ i = 11 ∨ i = 12 ∨ i = 13 ∨ i = 14 := by omega
  rcases this with rfl | rfl | rfl | rfl | rfl | rfl | rfl | rfl | rfl | rfl | rfl | rfl | rfl | rfl | rfl <;> simp [cs15, go_sem]
set_option maxRecDepth 100000 in
theorem bounded_any (a0 a1 a2 a3 a4 : Int) (w : World) :
    Calls Try.prog 32 #[.agg #[.int .i64 a0, .int .i64 a1, .int .i64 a2, .int .i64 a3, .int .i64 a4]] w fun e w' => e = .returned (.bool (bnd a0 a1 a2 a3 a4)) ∧ Below w.heap.size w w' := by
  have hw := wok15 a0 a1 a2 a3 a4
  have HW := Lib.hid hw
  clear hw
  go_enter Try.func32, Try.ntmps32
  go_wp2_with (go_at_call 36; refine (within_any (w.heap.size + 1) 5 (fun i => (cs15 a0 a1 a2 a3 a4 (wrap64 (a1 - 2))).getD i 0) _ (by omega) (by simp) (fun i hi => by have := cells15 (w.alloc (Obj.cells #[Value.int IntKind.i64 a0, Value.int IntKind.i64 a1, Value.int IntKind.i64 a2, Value.int IntKind.i64 a3, Value.int IntKind.i64 a4] 23)) a0 a1 a2 a3 a4 (wrap64 (a1 - 2)) i hi; simpa using this)).mono ?_; rintro e w' ⟨rfl, hb⟩)
  go_ret
  refine ⟨ret_bool HW.out, ?_⟩
  exact (((Below.refl _ _).alloc (Nat.le_refl _) _).alloc (by simp) _).trans (hb.mono (by simp; omega))
end Go.Proofs.Ytkppcdhclopjpaa.Geo
