/- The reference's runs: the same list as the program's. -/
import Derived.Test.YtkppcdhclopjpaaGeoV
import Derived.Outline
namespace Go.Proofs.Ytkppcdhclopjpaa.Geo
open Go Go.RowKit Base
set_option linter.unusedSimpArgs false
set_option linter.unusedVariables false
theorem own_drewN {w : World} {m base : Nat} {e : TypeId} {size n : Nat} {v : Value} {xs : List Value} (h : w.ownsRow base e size v n xs) : (w.drewN m).ownsRow base e size v n xs := h
theorem news2 {w : World} {a b : Value} {t : TypeId} {g : Nat} (hg : g = w.heap.size) : ∀ (j : Nat) (u : Value), [a, b][j]? = some u → (w.alloc (.cells #[a, b] t)).cell? ((⟨g, 0, none⟩ : Addr).add j) = some u := by
  subst hg
  intro j u hj
  rcases j with _ | _ | j <;> simp at hj <;> subst hj <;> simp [Addr.add]
theorem runN_cases {run bl e q k : Int} (hk : k ≤ runN run bl e q) (hn : ¬ k < runN run bl e q) : k = run ∨ q + k = e ∨ k = bl - q % bl := by unfold runN at *; omega
theorem runN_lt {run bl e q k : Int} (h : k < runN run bl e q) : k < run ∧ q + k < e ∧ k < bl - q % bl := by unfold runN at *; omega
theorem runN_le2 {run bl e q : Int} : runN run bl e q ≤ run ∧ runN run bl e q ≤ bl - q % bl := by unfold runN; omega
set_option maxRecDepth 100000 in
set_option maxHeartbeats 8000000 in
theorem refRuns_yes (a0 a1 a2 a3 a4 p n : Int) (w : World) (h : Ok a0 a1 a2 a3 a4) (hc : chk a1 a2 a4 p n = 0) :
    Calls Try.prog 14 #[.agg #[.int .i64 a0, .int .i64 a1, .int .i64 a2, .int .i64 a3, .int .i64 a4], .agg #[.int .i64 p, .int .i64 n]] w fun e w' => ∃ v, e = .returned v ∧ w'.ownsRow w.heap.size 25 2 v (runs (runOf a2) (a2 - 1) (p + n) p).length (sc (runs (runOf a2) (a2 - 1) (p + n) p)) ∧ Below w.heap.size w w' := by
  obtain ⟨i0, hi0, hz0, hz1, hz2⟩ := info_parts infoSpan
  obtain ⟨hm, hn0, he⟩ := chk_zero hc
  obtain ⟨m0, m1, m2, m3⟩ := of_decide_eq_true hm
  obtain ⟨b0, b1, b2, b3, b4, b5, b6, b7, b8, b9⟩ := h.1
  have hs1 := (sectors_bd (a1 := a1) (a2 := a2) (a4 := a4) (by unfold bandsOf; omega) (by unfold bandsOf; omega) b4 b5).2
  have hrun : 1 ≤ runOf a2 ∧ runOf a2 ≤ 8 := by unfold runOf; split <;> omega
  obtain ⟨r0, r1⟩ := hrun
  have hm := Lib.hid hm
  have hc := Lib.hid hc
  have h := Lib.hid h
  have hi0 := Lib.hid hi0; have hz0 := Lib.hid hz0; have hz1 := Lib.hid hz1; have hz2 := Lib.hid hz2
  go_enter Try.func14, Try.ntmps14
  go_wp2_with (first | (go_at_call 11; refine (refCheck_yes _ _ _ _ _ _ _ _ h.out).mono ?_; rw [hc.out]; rintro e w1_ ⟨rfl, hb1⟩; obtain ⟨t1_, d1_, n1_, rfl, hn1_, hl1_⟩ := over_named hb1; clear hb1; (try simp only [World.size_alloc, World.size_setCell, World.size_drew, over_size] at hn1_ hl1_); (try have : w.heap.size < n1_ := (by omega)); (try have : w.heap.size ≤ n1_ := (by omega)); (try have : w.heap.size + 1 < n1_ := (by omega)); (try have : w.heap.size + 1 ≤ n1_ := (by omega)); (try have : w.heap.size + 1 + 1 < n1_ := (by omega)); (try have : w.heap.size + 1 + 1 ≤ n1_ := (by omega)); (try have : w.heap.size + 1 + 1 + 1 < n1_ := (by omega)); (try have : w.heap.size + 1 + 1 + 1 ≤ n1_ := (by omega)); (try have : w.heap.size + 1 + 1 + 1 + 1 < n1_ := (by omega)); (try have : w.heap.size + 1 + 1 + 1 + 1 ≤ n1_ := (by omega)); (try have : w.heap.size ≤ n1_ + 1 := (by omega)); (try have : w.heap.size ≤ n1_ + 1 + 1 := (by omega)); (try have : w.heap.size ≤ n1_ + 1 + 1 + 1 := (by omega)); (try have : w.heap.size < n1_ + 1 := (by omega)); (try have : w.heap.size + 1 < n1_ + 1 := (by omega)); (try have : w.heap.size + 1 ≤ n1_ + 1 := (by omega)); (try have : w.heap.size < n1_ + 1 + 1 := (by omega)); (try have : w.heap.size + 1 < n1_ + 1 + 1 := (by omega)); (try have : w.heap.size + 1 ≤ n1_ + 1 + 1 := (by omega)); (try have : w.heap.size < n1_ + 1 + 1 + 1 := (by omega)); (try have : w.heap.size + 1 < n1_ + 1 + 1 + 1 := (by omega)); (try have : w.heap.size + 1 ≤ n1_ + 1 + 1 + 1 := (by omega)); (try have : ∀ x, x < w.heap.size → x < n1_ := (by intro x hx; omega)); (try have : ∀ x, x < w.heap.size → x ≤ n1_ := (by intro x hx; omega))) | (go_at_call 12; refine (refLayout_yes _ _ _ _ _ _ h.out).mono ?_; rintro e w2_ ⟨rfl, hb2⟩; obtain ⟨t2_, d2_, n2_, rfl, hn2_, hl2_⟩ := over_named hb2; clear hb2; (try simp only [World.size_alloc, World.size_setCell, World.size_drew, over_size] at hn2_ hl2_); (try rw [hn1_] at hn2_ hl2_); (try have : w.heap.size < n2_ := (by omega)); (try have : w.heap.size ≤ n2_ := (by omega)); (try have : w.heap.size + 1 < n2_ := (by omega)); (try have : w.heap.size + 1 ≤ n2_ := (by omega)); (try have : w.heap.size + 1 + 1 < n2_ := (by omega)); (try have : w.heap.size + 1 + 1 ≤ n2_ := (by omega)); (try have : w.heap.size + 1 + 1 + 1 < n2_ := (by omega)); (try have : w.heap.size + 1 + 1 + 1 ≤ n2_ := (by omega)); (try have : w.heap.size + 1 + 1 + 1 + 1 < n2_ := (by omega)); (try have : w.heap.size + 1 + 1 + 1 + 1 ≤ n2_ := (by omega)); (try have : w.heap.size ≤ n2_ + 1 := (by omega)); (try have : w.heap.size ≤ n2_ + 1 + 1 := (by omega)); (try have : w.heap.size ≤ n2_ + 1 + 1 + 1 := (by omega)); (try have : w.heap.size < n2_ + 1 := (by omega)); (try have : w.heap.size + 1 < n2_ + 1 := (by omega)); (try have : w.heap.size + 1 ≤ n2_ + 1 := (by omega)); (try have : w.heap.size < n2_ + 1 + 1 := (by omega)); (try have : w.heap.size + 1 < n2_ + 1 + 1 := (by omega)); (try have : w.heap.size + 1 ≤ n2_ + 1 + 1 := (by omega)); (try have : w.heap.size < n2_ + 1 + 1 + 1 := (by omega)); (try have : w.heap.size + 1 < n2_ + 1 + 1 + 1 := (by omega)); (try have : w.heap.size + 1 ≤ n2_ + 1 + 1 + 1 := (by omega)); (try have : n1_ < n2_ := (by omega)); (try have : n1_ ≤ n2_ := (by omega)); (try have : n1_ + 1 < n2_ := (by omega)); (try have : n1_ + 1 ≤ n2_ := (by omega)); (try have : n1_ + 1 + 1 < n2_ := (by omega)); (try have : n1_ + 1 + 1 ≤ n2_ := (by omega)); (try have : n1_ + 1 + 1 + 1 < n2_ := (by omega)); (try have : n1_ + 1 + 1 + 1 ≤ n2_ := (by omega)); (try have : n1_ ≤ n2_ + 1 := (by omega)); (try have : n1_ ≤ n2_ + 1 + 1 := (by omega)); (try have : n1_ ≤ n2_ + 1 + 1 + 1 := (by omega)); (try have : n1_ < n2_ + 1 := (by omega)); (try have : n1_ + 1 < n2_ + 1 := (by omega)); (try have : n1_ + 1 ≤ n2_ + 1 := (by omega)); (try have : n1_ < n2_ + 1 + 1 := (by omega)); (try have : n1_ + 1 < n2_ + 1 + 1 := (by omega)); (try have : n1_ + 1 ≤ n2_ + 1 + 1 := (by omega)); (try have : n1_ < n2_ + 1 + 1 + 1 := (by omega)); (try have : n1_ + 1 < n2_ + 1 + 1 + 1 := (by omega)); (try have : n1_ + 1 ≤ n2_ + 1 + 1 + 1 := (by omega)); (try have : ∀ x, x < w.heap.size → x < n2_ := (by intro x hx; omega)); (try have : ∀ x, x < w.heap.size → x ≤ n2_ := (by intro x hx; omega))))
  go_loopw [7, 8] (fun v q wr => ∃ (acc : List (Int × Int)) (x : Int), q = .int .i64 x ∧ Loc w wr n2_ p n (a2 - 1) (runOf a2) ∧ wr.ownsRow (n2_ + 1) 25 2 v acc.length (sc acc) ∧ p ≤ x ∧ x ≤ p + n ∧ (acc.length : Int) ≤ x - p ∧ acc ++ runs (runOf a2) (a2 - 1) (p + n) x = runs (runOf a2) (a2 - 1) (p + n) p) (fun _ q _ => (p + n - intOf q).toNat)
  case atStart =>
    refine ⟨[], p, rfl, ⟨(by repeat (first | exact Below.refl _ _ | (with_reducible refine bel_call ?_ hb1) | (with_reducible refine bel_call ?_ hb2) | (with_reducible refine bel_call ?_ hb3) | (with_reducible refine bel_call ?_ hb4) | (with_reducible refine bel_call ?_ hb5) | (with_reducible refine bel_call ?_ hb6) | (with_reducible refine bel_call ?_ hb7) | (with_reducible refine bel_call ?_ hb8) | (with_reducible refine bel_call ?_ hb9) | (with_reducible refine bel_call ?_ hb10) | (with_reducible refine bel_call ?_ hb11) | (with_reducible refine bel_call ?_ hb12) | (with_reducible refine bel_call ?_ hb) | (with_reducible refine bel_over ?_) | (with_reducible refine bel_alloc ?_ _) | (with_reducible refine bel_drewN ?_ _) | (with_reducible refine bel_drew ?_) | (with_reducible refine bel_set ?_ (by simp; omega) _))), by go_simp, by omega, by go_simp, by go_simp, by go_simp, by go_simp⟩, ⟨rfl, .inl ⟨rfl, rfl⟩⟩, by omega, by omega, by simp, by simp⟩
  case round =>
    obtain ⟨acc, x, rfl, hloc, hown, hx0, hx1, hacc, heq⟩ := hrel
    have heq := Lib.hid heq
    have hz := hloc.size; have hle := hloc.le; have c0 := hloc.c0; have c1 := hloc.c1
    by_cases hlt : x < p + n
    · have hz' : w.heap.size + 1 < wr.heap.size := by omega
      have hq0 : 0 ≤ x % (a2 - 1) := Int.emod_nonneg _ (by omega)
      have hq1 : x % (a2 - 1) < a2 - 1 := Int.emod_lt_of_pos _ (by omega)
      have hN0 := runN_ge r0 (show 1 ≤ a2 - 1 by omega) hlt
      have hN1 : x + runN (runOf a2) (a2 - 1) (p + n) x ≤ p + n := by have := runN_le (run := runOf a2) (bl := a2 - 1) (e := p + n) (q := x); omega
      obtain ⟨hN2, hN3⟩ := runN_le2 (run := runOf a2) (bl := a2 - 1) (e := p + n) (q := x)
      go_wp2
      obtain ⟨wo, hwo⟩ : ∃ wo : World, wo = wr := ⟨_, rfl⟩
      subst hwo
      clear c0 c1 hz hz'
      go_loopw [9] (fun m wi => ∃ k : Int, m = .int .i64 k ∧ 1 ≤ k ∧ k ≤ runN (runOf a2) (a2 - 1) (p + n) x ∧ Loc w wi n2_ p n (a2 - 1) (runOf a2) ∧ wi.ownsRow (n2_ + 1) 25 2 u7 acc.length (sc acc)) (fun m _ => (runN (runOf a2) (a2 - 1) (p + n) x - intOf m).toNat)
      case atStart => exact ⟨1, rfl, by omega, hN0, hloc, hown⟩
      case round =>
        obtain ⟨k, rfl, hk0, hk1, hloc, hown⟩ := hrel
        have hz := hloc.size; have hle := hloc.le; have c0 := hloc.c0; have c1 := hloc.c1; have c4 := hloc.c4; have c7 := hloc.c7
        by_cases hkn : k < runN (runOf a2) (a2 - 1) (p + n) x
        · obtain ⟨t1, t2, t3⟩ := runN_lt hkn
          have hd1 : decide (k < runOf a2) = true := decide_eq_true t1
          have hd2 : decide (x + k < p + n) = true := decide_eq_true t2
          have hd3 : ((x + k) / (a2 - 1) == x / (a2 - 1)) = true := beq_iff_eq.2 (div_same (by omega) (by omega) t3)
          go_wp2_with fail
          go_quiet (fail)
          go_wp2
          go_roundw
          case rel => exact ⟨k + 1, by go_num, by omega, by omega, hloc.next (B := n2_ + 1) (by omega) (below_drewN (Below.refl _ _) _), own_drewN hown⟩
          case measure => simp [intOf]; omega
        · have hkc := runN_cases hk1 hkn
          have hkN : k = runN (runOf a2) (a2 - 1) (p + n) x := by omega
          have hkN2 := Lib.hid hkN
          clear hkN
          have hx3 : x + k ≤ p + n := by omega
          have hk8 : k ≤ 8 := by omega
          by_cases hk2 : k < runOf a2
          · have hd1 : decide (k < runOf a2) = true := decide_eq_true hk2
            by_cases hk3 : x + k < p + n
            · have hd2 : decide (x + k < p + n) = true := decide_eq_true hk3
              have hd3 : ((x + k) / (a2 - 1) == x / (a2 - 1)) = false := by
                have hkb : k = a2 - 1 - x % (a2 - 1) := by omega
                have := div_next (bl := a2 - 1) (q := x) (by omega)
                rw [← hkb] at this
                rw [beq_eq_false_iff_ne, this]; omega
              clear hkc
              go_wp2_with fail
              go_quiet (fail)
              go_wp2_with (at_builtin; refine wpList_append_own _ rfl (.tmp 58) (.tmp 62) 33 rfl (n2_ + 1) 25 i0 (.agg #[.int .i64 0, .int .i64 0]) 2 16 Try.underlying33 hi0.out hz0.out hz1.out hz2.out rfl (by decide) _ acc.length (sc acc) rfl ((own_drewN hown).alloc _) ⟨wr.heap.size, 0, none⟩ 1 1 [.int .i64 x, .int .i64 k] rfl rfl (news2 rfl) (by simp [Value.oneCell']) (by unfold maxLen; omega) (by omega) (by simp; omega) ?_; intro v' w5_ hown' hgrow _)
              have hbel : Below (n2_ + 1) wr w5_ := ((below_drewN (Below.refl _ _) _).alloc (by simp; omega) _).trans (grown_below hgrow ((own_drewN hown).alloc _) (Nat.le_refl _) (by simp; omega))
              have hkn2 := hkN2.out
              subst hkn2
              go_roundw
              case rel =>
                refine ⟨acc ++ [(x, runN (runOf a2) (a2 - 1) (p + n) x)], x + runN (runOf a2) (a2 - 1) (p + n) x, by go_num, hloc.next (by omega) hbel, ?_, by omega, by omega, by simp; omega, ?_⟩
                · rw [sc_snoc]; simpa using hown'
                · rw [← heq.out, runs_step r0 (by omega) hlt]; simp
              case measure => simp [intOf]; omega
            · have hd2 : decide (x + k < p + n) = false := decide_eq_false hk3
              clear hkc
              go_wp2_with fail
              go_quiet (fail)
              go_wp2_with (at_builtin; refine wpList_append_own _ rfl (.tmp 58) (.tmp 62) 33 rfl (n2_ + 1) 25 i0 (.agg #[.int .i64 0, .int .i64 0]) 2 16 Try.underlying33 hi0.out hz0.out hz1.out hz2.out rfl (by decide) _ acc.length (sc acc) rfl ((own_drewN hown).alloc _) ⟨wr.heap.size, 0, none⟩ 1 1 [.int .i64 x, .int .i64 k] rfl rfl (news2 rfl) (by simp [Value.oneCell']) (by unfold maxLen; omega) (by omega) (by simp; omega) ?_; intro v' w5_ hown' hgrow _)
              have hbel : Below (n2_ + 1) wr w5_ := ((below_drewN (Below.refl _ _) _).alloc (by simp; omega) _).trans (grown_below hgrow ((own_drewN hown).alloc _) (Nat.le_refl _) (by simp; omega))
              have hkn2 := hkN2.out
              subst hkn2
              go_roundw
              case rel =>
                refine ⟨acc ++ [(x, runN (runOf a2) (a2 - 1) (p + n) x)], x + runN (runOf a2) (a2 - 1) (p + n) x, by go_num, hloc.next (by omega) hbel, ?_, by omega, by omega, by simp; omega, ?_⟩
                · rw [sc_snoc]; simpa using hown'
                · rw [← heq.out, runs_step r0 (by omega) hlt]; simp
              case measure => simp [intOf]; omega
          · have hd1 : decide (k < runOf a2) = false := decide_eq_false hk2
            clear hkc
            go_wp2_with fail
            go_quiet (fail)
            go_wp2_with (at_builtin; refine wpList_append_own _ rfl (.tmp 58) (.tmp 62) 33 rfl (n2_ + 1) 25 i0 (.agg #[.int .i64 0, .int .i64 0]) 2 16 Try.underlying33 hi0.out hz0.out hz1.out hz2.out rfl (by decide) _ acc.length (sc acc) rfl ((own_drewN hown).alloc _) ⟨wr.heap.size, 0, none⟩ 1 1 [.int .i64 x, .int .i64 k] rfl rfl (news2 rfl) (by simp [Value.oneCell']) (by unfold maxLen; omega) (by omega) (by simp; omega) ?_; intro v' w5_ hown' hgrow _)
            have hbel : Below (n2_ + 1) wr w5_ := ((below_drewN (Below.refl _ _) _).alloc (by simp; omega) _).trans (grown_below hgrow ((own_drewN hown).alloc _) (Nat.le_refl _) (by simp; omega))
            have hkn2 := hkN2.out
            subst hkn2
            go_roundw
            case rel =>
              refine ⟨acc ++ [(x, runN (runOf a2) (a2 - 1) (p + n) x)], x + runN (runOf a2) (a2 - 1) (p + n) x, by go_num, hloc.next (by omega) hbel, ?_, by omega, by omega, by simp; omega, ?_⟩
              · rw [sc_snoc]; simpa using hown'
              · rw [← heq.out, runs_step r0 (by omega) hlt]; simp
            case measure => simp [intOf]; omega
    · go_wp2
      go_ret
      have hx : runs (runOf a2) (a2 - 1) (p + n) x = [] := runs_end (by omega)
      have hl := heq.out
      rw [hx, List.append_nil] at hl
      subst hl
      exact ⟨_, rfl, own_lower (by omega) hown, hloc.below⟩
end Go.Proofs.Ytkppcdhclopjpaa.Geo
