/- Nil writers, readers, bits; the walk of LeNobody. -/
import Derived.Test.YtiapoinobdnboaaLeL
import Derived.Test.YtiapoinobdnboaaRec
namespace Go.Proofs.Ytiapoinobdnboaa.Le
open Go Go.RowKit Base Mem
set_option linter.unusedSimpArgs false
set_option linter.unusedVariables false
set_option maxRecDepth 100000 in
theorem nPut (a : Int) (b : Int) (w : World) : Calls Try.prog 11 #[.pointer none, .int .i64 a, .int .u64 b] w fun e w' => e = .returned (.pointer none) ∧ w' = w := by
  go_enter Try.func11, Try.ntmps11
  go_wp2_with fail
  go_step3
  go_wp2_with fail
  (try rw [Exit.noGoto_ret])
  go_ret
  exact ⟨rfl, rfl⟩
set_option maxRecDepth 100000 in
theorem nBytes (v : Value) (w : World) : Calls Try.prog 25 #[.pointer none, v] w fun e w' => e = .returned (.pointer none) ∧ w' = w := by
  go_enter Try.func25, Try.ntmps25
  go_wp2_with fail
  go_step3
  go_wp2_with fail
  (try rw [Exit.noGoto_ret])
  go_ret
  exact ⟨rfl, rfl⟩
set_option maxRecDepth 100000 in
theorem nLen  (w : World) : Calls Try.prog 27 #[.pointer none] w fun e w' => e = .returned (.int .i64 0) ∧ w' = w := by
  go_enter Try.func27, Try.ntmps27
  go_wp2
  go_ret
  exact ⟨rfl, rfl⟩
set_option maxRecDepth 100000 in
theorem nDone  (w : World) : Calls Try.prog 12 #[.pointer none] w fun e w' => e = .returned (.tuple #[.slice none 0 0, .int .i64 6]) ∧ w' = w := by
  go_enter Try.func12, Try.ntmps12
  go_wp2
  go_ret2
  exact ⟨rfl, rfl⟩
set_option maxRecDepth 100000 in
theorem nGet (a : Int) (w : World) : Calls Try.prog 14 #[.pointer none, .int .i64 a] w fun e w' => e = .returned (.int .u64 0) ∧ w' = w := by
  go_enter Try.func14, Try.ntmps14
  go_wp2_with fail
  go_step3
  go_wp2_with fail
  (try rw [Exit.noGoto_ret])
  go_ret
  exact ⟨rfl, rfl⟩
set_option maxRecDepth 100000 in
theorem nInt (a b c : Int) (w : World) : Calls Try.prog 17 #[.pointer none, .int .i64 a, .int .i64 b, .int .i64 c] w fun e w' => e = .returned (.int .i64 0) ∧ w' = w := by
  go_enter Try.func17, Try.ntmps17
  go_wp2_with fail
  refine (nGet _ _).mono ?_
  rintro e w' ⟨rfl, rfl⟩
  go_wp2
  go_ret
  exact ⟨rfl, rfl⟩
set_option maxRecDepth 100000 in
theorem nRBytes (a : Int) (w : World) : Calls Try.prog 19 #[.pointer none, .int .i64 a] w fun e w' => e = .returned (.slice none 0 0) ∧ w' = w := by
  go_enter Try.func19, Try.ntmps19
  go_wp2
  go_ret
  exact ⟨rfl, rfl⟩
set_option maxRecDepth 100000 in
theorem nLeft  (w : World) : Calls Try.prog 21 #[.pointer none] w fun e w' => e = .returned (.int .i64 0) ∧ w' = w := by
  go_enter Try.func21, Try.ntmps21
  go_wp2
  go_ret
  exact ⟨rfl, rfl⟩
set_option maxRecDepth 100000 in
theorem nRDone  (w : World) : Calls Try.prog 15 #[.pointer none] w fun e w' => e = .returned (.int .i64 6) ∧ w' = w := by
  go_enter Try.func15, Try.ntmps15
  go_wp2
  go_ret
  exact ⟨rfl, rfl⟩
set_option maxRecDepth 100000 in
theorem nSet (a : Int) (w : World) : Calls Try.prog 31 #[.pointer none, .int .i64 a, .bool true] w fun e w' => e = .returned (.bool false) ∧ w' = w := by
  go_enter Try.func31, Try.ntmps31
  go_wp2
  go_ret
  exact ⟨rfl, rfl⟩
set_option maxRecDepth 100000 in
theorem nHas (a : Int) (w : World) : Calls Try.prog 32 #[.pointer none, .int .i64 a] w fun e w' => e = .returned (.bool false) ∧ w' = w := by
  go_enter Try.func32, Try.ntmps32
  go_wp2
  go_ret
  exact ⟨rfl, rfl⟩
set_option maxRecDepth 100000 in
theorem nCount  (w : World) : Calls Try.prog 30 #[.pointer none] w fun e w' => e = .returned (.int .i64 0) ∧ w' = w := by
  go_enter Try.func30, Try.ntmps30
  go_wp2
  go_ret
  exact ⟨rfl, rfl⟩
set_option maxRecDepth 100000 in
theorem nFirst (a : Int) (w : World) : Calls Try.prog 38 #[.pointer none, .bool true, .int .i64 a] w fun e w' => e = .returned (.int .i64 (-1)) ∧ w' = w := by
  go_enter Try.func38, Try.ntmps38
  go_wp2
  go_ret
  exact ⟨rfl, rfl⟩
set_option maxRecDepth 100000 in
theorem nPack  (w : World) : Calls Try.prog 35 #[.pointer none] w fun e w' => e = .returned (.slice none 0 0) ∧ w' = w := by
  go_enter Try.func35, Try.ntmps35
  go_wp2
  go_ret
  exact ⟨rfl, rfl⟩
set_option maxRecDepth 100000 in
set_option maxHeartbeats 2000000 in
theorem LeNobody_walk (w : World) (k s n : Int) (v : Value) (l m : Int) :
    Calls Try.prog 8 #[.agg #[.int .i64 k, .int .i64 s, .int .u64 n, v, .int .i64 l, .int .i64 m]] w fun e w' => e = .returned (.bool true) ∧ Below w.heap.size w w' := by
  go_enter Try.func8, Try.ntmps8
  go_wp2_with fail
  refine (nDone _).mono ?_
  rintro e x1 ⟨rfl, rfl⟩
  go_wp2_with fail
  refine (lives_any _).mono ?_
  rintro e w1 ⟨rfl, hb1⟩
  obtain ⟨t1_, d1_, n1_, rfl, hn1_, hl1_⟩ := over_named hb1; clear hb1; (try simp only [World.size_alloc, World.size_setCell, World.size_drew, over_size] at hn1_ hl1_); (try have : w.heap.size < n1_ := (by omega)); (try have : w.heap.size ≤ n1_ := (by omega)); (try have : w.heap.size + 1 < n1_ := (by omega)); (try have : w.heap.size + 1 ≤ n1_ := (by omega)); (try have : w.heap.size + 1 + 1 < n1_ := (by omega)); (try have : w.heap.size + 1 + 1 ≤ n1_ := (by omega)); (try have : w.heap.size + 1 + 1 + 1 < n1_ := (by omega)); (try have : w.heap.size + 1 + 1 + 1 ≤ n1_ := (by omega)); (try have : w.heap.size + 1 + 1 + 1 + 1 < n1_ := (by omega)); (try have : w.heap.size + 1 + 1 + 1 + 1 ≤ n1_ := (by omega)); (try have : w.heap.size ≤ n1_ + 1 := (by omega)); (try have : w.heap.size ≤ n1_ + 1 + 1 := (by omega)); (try have : w.heap.size ≤ n1_ + 1 + 1 + 1 := (by omega)); (try have : ∀ x, x < w.heap.size → x < n1_ := (by intro x hx; omega)); (try have : ∀ x, x < w.heap.size → x ≤ n1_ := (by intro x hx; omega))
  go_wp2_with fail
  refine (nPut _ _ _).mono ?_
  rintro e x2 ⟨rfl, rfl⟩
  go_wp2_with fail
  refine (nBytes _ _).mono ?_
  rintro e x3 ⟨rfl, rfl⟩
  go_wp2_with fail
  refine (nLen _).mono ?_
  rintro e x4 ⟨rfl, rfl⟩
  go_wp2_with fail
  refine (nGet _ _).mono ?_
  rintro e x5 ⟨rfl, rfl⟩
  go_wp2_with fail
  refine (nInt _ _ _ _).mono ?_
  rintro e x6 ⟨rfl, rfl⟩
  go_wp2_with fail
  refine (nRBytes _ _).mono ?_
  rintro e x7 ⟨rfl, rfl⟩
  go_wp2_with fail
  refine (nLeft _).mono ?_
  rintro e x8 ⟨rfl, rfl⟩
  go_wp2_with fail
  refine (nRDone _).mono ?_
  rintro e x9 ⟨rfl, rfl⟩
  go_wp2_with fail
  refine (nSet _ _).mono ?_
  rintro e x10 ⟨rfl, rfl⟩
  go_wp2_with fail
  refine (nHas _ _).mono ?_
  rintro e x11 ⟨rfl, rfl⟩
  go_wp2_with fail
  refine (nCount _).mono ?_
  rintro e x12 ⟨rfl, rfl⟩
  go_wp2_with fail
  refine (nFirst _ _).mono ?_
  rintro e x13 ⟨rfl, rfl⟩
  go_wp2_with fail
  refine (nPack _).mono ?_
  rintro e x14 ⟨rfl, rfl⟩
  go_wp2
  go_ret
  exact ⟨rfl, (by repeat (first | exact Below.refl _ _ | (with_reducible refine bel_call ?_ hb1) | (with_reducible refine bel_call ?_ hb2) | (with_reducible refine bel_call ?_ hb3) | (with_reducible refine bel_call ?_ hb4) | (with_reducible refine bel_call ?_ hb5) | (with_reducible refine bel_call ?_ hb6) | (with_reducible refine bel_call ?_ hb7) | (with_reducible refine bel_call ?_ hb8) | (with_reducible refine bel_call ?_ hb9) | (with_reducible refine bel_call ?_ hb10) | (with_reducible refine bel_call ?_ hb11) | (with_reducible refine bel_call ?_ hb12) | (with_reducible refine bel_call ?_ hb) | (with_reducible refine bel_over ?_) | (with_reducible refine bel_alloc ?_ _) | (with_reducible refine bel_drewN ?_ _) | (with_reducible refine bel_drew ?_) | (with_reducible refine bel_set ?_ (by simp; omega) _)))⟩
end Go.Proofs.Ytiapoinobdnboaa.Le
