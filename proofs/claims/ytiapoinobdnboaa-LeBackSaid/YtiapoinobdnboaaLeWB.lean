/- The walk of LeBack. -/
import Derived.Test.YtiapoinobdnboaaLeA
import Derived.Test.YtiapoinobdnboaaLeO
namespace Go.Proofs.Ytiapoinobdnboaa.Le
open Go Go.RowKit Base Mem Open
set_option linter.unusedSimpArgs false
set_option linter.unusedVariables false
/-- An op's size and number. -/
def opP : List FV → Int × Nat
  | [_, .num _ s, .num _ n, _, _, _] => (s, n.toNat)
  | _ => (0, 0)
def encs : List (List FV) → List UInt8
  | [] => []
  | x :: l => leb (opP x).1.toNat (opP x).2 ++ encs l
theorem encs_append (a b : List (List FV)) : encs (a ++ b) = encs a ++ encs b := by
  induction a with
  | nil => rfl
  | cons x a ih => simp [encs, ih]
theorem encs_take {l : List (List FV)} {j : Nat} {x : List FV} (h : l[j]? = some x) : encs (l.take (j + 1)) = encs (l.take j) ++ leb (opP x).1.toNat (opP x).2 := by
  rw [take_succ' h, encs_append]; simp [encs]
theorem encs_drop {l : List (List FV)} {j : Nat} {x : List FV} (h : l[j]? = some x) : encs (l.drop j) = leb (opP x).1.toNat (opP x).2 ++ encs (l.drop (j + 1)) := by
  obtain ⟨hj, rfl⟩ := List.getElem?_eq_some_iff.1 h
  rw [List.drop_eq_getElem_cons hj]; rfl
def goodOps (l : List (List FV)) : Prop := ∀ (i : Nat) (x : List FV), l[i]? = some x → sizeB (opP x).1 = true
theorem encs_len {l : List (List FV)} (h : goodOps l) : (encs l).length ≤ 8 * l.length := by
  induction l with
  | nil => simp [encs]
  | cons x l ih =>
    have h1 := ih (fun i y hy => h (i + 1) y (by simpa using hy))
    have h2 := sizeB_cases (h 0 x rfl)
    simp only [encs, List.length_append, leb_length, List.length_cons]
    omega
theorem zs_all (n : Nat) : allZero (zs n) = true := by
  unfold allZero zs; rw [List.all_eq_true]; intro x hx; rw [List.eq_of_mem_replicate hx]; rfl
set_option maxRecDepth 100000 in
set_option maxHeartbeats 4000000 in
theorem LeBack_walk (w : World) (v : Value) (l : List (List FV)) (hr : RdRec 6 opK w.heap.size w v l) (hz : l.length * 64 ≤ 140737488351232) :
    Calls Try.prog 3 #[v] w fun e w' => e = .returned (.bool true) ∧ Below w.heap.size w w' := by
  obtain ⟨A, c, rfl, h1, h2, -⟩ := id hr
  unfold maxLen at h2
  have HR := Lib.hid hr
  clear hr
  by_cases hlen : 500 < l.length
  · go_enter Try.func3, Try.ntmps3
    go_wp2_with fail
    refine (lives_any _).mono ?_
    rintro e w3 ⟨rfl, hb⟩
    go_wp2
    go_ret
    exact ⟨rfl, hb⟩
  · have hle : l.length ≤ 500 := by omega
    have hle1 : (l.length : Int) ≤ 500 := by omega
    obtain ⟨k, hk⟩ : ∃ k, 8 * l.length = k := ⟨_, rfl⟩
    have hk65 : k ≤ 65536 := by omega
    have hk1 : (k : Int) ≤ 65536 := by omega
    have hki : (8 : Int) * (l.length : Int) = (k : Int) := by omega
    have HKK := Lib.hid hk
    clear hlen hk
    go_enter Try.func3, Try.ntmps3
    go_wp2_with fail
    refine (New_yes k _ (by omega) hk1).mono ?_
    rintro e w1 ⟨g, rfl, hg, hW, hb⟩
    have HW := Lib.hid hW
    have hb1 := hb
    clear hW hb
    go_wp2_with fail
    refine (lives_any _).mono ?_
    rintro e w3 ⟨rfl, hb⟩
    have HW3 := Lib.hid (HW.out.now hb)
    have hb3 := Lib.hid (bel_call hb1 hb)
    clear hb hb1 HW
    go_wp2_with fail
    go_loopw [3, 4] (fun p i wr => ∃ (j : Nat) (L : List UInt8) (bad : Bool) (r : Option Nat), j ≤ l.length ∧ i = .int .i64 (j : Int) ∧ p = .pointer (some ⟨g, 0, none⟩) ∧ WrI wr g r L k bad ∧ (∀ q, r = some q → w.heap.size ≤ q) ∧ L.length ≤ k ∧ Below w.heap.size w wr ∧ (bad = false → L = encs (l.take j) ∧ goodOps (l.take j))) (fun _ i _ => l.length - (intOf i).toNat)
    case atStart => exact ⟨0, [], false, none, Nat.zero_le _, rfl, rfl, HW3.out, (fun _ e => by cases e), Nat.zero_le _, hb3.out, fun _ => ⟨by simp [encs], fun i x h => by simp at h⟩⟩
    case round =>
      clear hki
      obtain ⟨j, L, bad, r, hj, rfl, rfl, hW, hrw, hLk, hb, hgood⟩ := hrel
      clear hb3 HW3
      have HWr := Lib.hid hW
      have hb5 := Lib.hid hb
      have HRR := Lib.hid (HR.out.below hb)
      have HGOOD := Lib.hid hgood
      clear hW hb hgood
      by_cases hlt : j < l.length
      · obtain ⟨g', o, x, rfl, hg', hx, hkd, hok, hcell⟩ := HRR.out.at_ hlt
        obtain ⟨kd, sz, n, bv, bb, le_, mo, rfl⟩ := op_fields hkd
        have hn : (Lit.int .u64 n).wf = true := hok (.num .u64 n) (by simp)
        have d1 := hcell 1 _ rfl
        have d2 := hcell 2 _ rfl
        simp only [FV.val] at d1 d2
        have hsz := hb5.out.size
        obtain ⟨m, rfl, hm⟩ : ∃ m : Nat, n = m ∧ m < 18446744073709551616 := by
          have hr : 0 ≤ n ∧ n ≤ 18446744073709551615 := by simpa [Lit.wf, IntKind.min, IntKind.max, IntKind.bits, IntKind.signed] using hn
          exact ⟨n.toNat, by omega, by omega⟩
        have HX := Lib.hid hx
        clear hcell hok hkd hx hn
        go_wp2_with fail
        (refine wp_region_still_tail 11 (by kernel_rfl) (by kernel_rfl) ?_; simp only [List.take_succ_cons, List.take_zero, List.drop_succ_cons, List.drop_zero]; change wpStill _ _ (World.drew _) _ _ _; (repeat still_step); (refine wpStill_nil ?_); change wpList _ _ _ _ _ (World.drew _))
        go_wp2_with fail
        have hWd := HWr.out.now ((Below.refl wr.heap.size wr).drew)
        have HS := Lib.hid (encs_take HX.out)
        have HG2 : Hid (goodOps (l.take j) → sizeB sz = true → goodOps (l.take (j + 1))) := Lib.hid (fun h1 h2 i y hy => by
          rw [take_succ' HX.out] at hy
          rcases Nat.lt_or_ge i (l.take j).length with e | e
          · rw [List.getElem?_append_left e] at hy; exact h1 i y hy
          · rw [List.getElem?_append_right e] at hy
            have : i - (l.take j).length = 0 := by
              rcases Nat.eq_zero_or_pos (i - (l.take j).length) with h | h
              · exact h
              · rw [List.getElem?_eq_none (by show 1 ≤ _; omega)] at hy; cases hy
            rw [this] at hy
            cases hy
            exact h2)
        refine (Put_all g r L k bad sz m _ hWd (by omega) hk1 (by omega) hm).mono ?_
        rintro e w6 ⟨rfl, r6, hW6, hs6, hK6⟩
        have hgw : w.heap.size ≤ g := hg
        have hb6 : Below w.heap.size w w6 := (bel_drew hb5.out).trans (hK6.below (fun i e => by rcases e with e | e; omega; exact hrw i e) (by simp; omega))
        have hr6 := row_far hs6 (B := w.heap.size) (by simp; omega) hrw
        have HLE := Lib.hid (putL_le (bad := bad) (size := sz) (n := m) (show ((L.length : Nat) : Int) ≤ (k : Int) by omega))
        have HGD : Hid ((!putOk (k : Int) L bad sz) = false → putL (k : Int) L bad sz m = encs (l.take (j + 1)) ∧ goodOps (l.take (j + 1))) := Lib.hid (fun h => by
          have hp : putOk (k : Int) L bad sz = true := by simpa using h
          have h := hp
          simp only [putOk, Bool.and_eq_true, decide_eq_true_eq, Bool.not_eq_true'] at h
          obtain ⟨⟨hb0, hsb⟩, -⟩ := h
          obtain ⟨q1, q2⟩ := HGOOD.out hb0
          refine ⟨?_, HG2.out q2 hsb⟩
          unfold putL
          rw [if_pos hp, HS.out, q1]
          simp [opP])
        have HW6 := Lib.hid hW6
        have HB6 := Lib.hid hb6
        have HR6 := Lib.hid hr6
        generalize putL (k : Int) L bad sz m = L1 at *
        generalize (!putOk (k : Int) L bad sz) = bad1 at *
        clear hW6 hs6 hK6 hb6 hr6 hWd
        go_wp2
        go_roundw
        case rel => exact ⟨j + 1, L1, bad1, r6, by omega, by go_num, rfl, HW6.out, HR6.out, (by have := HLE.out; omega), HB6.out, HGD.out⟩
        case measure => simp [intOf]; omega
      · obtain rfl : j = l.length := by omega
        clear hlt
        cases bad
        · obtain ⟨hL, hgd⟩ := HGOOD.out rfl
          rw [List.take_length] at hL hgd
          have HGDS := Lib.hid hgd
          subst hL
          clear hgd HGOOD
          go_wp2_with fail
          refine (Done_ok g r (encs l) k _ HWr.out hk65 hLk).mono ?_
          rintro e w9 ⟨g9, rfl, hg9, hC9, hb9⟩
          have hzz : (encs l ++ zs (k - (encs l).length)).length = k := by rw [List.length_append, zs_length]; omega
          have HR9 := Lib.hid (show RdB w9.heap.size w9 (.slice (some ⟨g9, 0, none⟩) k k) (encs l ++ zs (k - (encs l).length)) from RdB.of_own _ hC9 hC9.lt k k hzz (Nat.le_refl _) (by unfold maxLen; omega))
          have HB9 := Lib.hid (bel_call hb5.out hb9)
          clear hC9 hb9
          go_wp2_with fail
          refine (Take_any _ _ _ HR9.out (by omega)).mono ?_
          rintro e w10 ⟨g10, rfl, hg10, hD10, hb10⟩
          have HD10 := Lib.hid hD10
          have HB10 := Lib.hid (bel_call HB9.out hb10)
          have hs9 := HB9.out.size
          clear hD10 hb10
          have hmz : k - (encs l).length ≤ 65536 := by omega
          have hel : (encs l).length ≤ 65536 := by omega
          generalize k - (encs l).length = mz at *
          go_wp2_with fail
          go_loopw [8] (fun i wr => ∃ j : Nat, j ≤ l.length ∧ i = .int .i64 (j : Int) ∧ Rdr 73 g10 wr g10 (encs (l.drop j) ++ zs mz) false ∧ Below w.heap.size w wr) (fun i _ => l.length - (intOf i).toNat)
          case atStart => exact ⟨0, Nat.zero_le _, rfl, HD10.out, HB10.out⟩
          case round =>
            obtain ⟨j, hj, rfl, hRd, hb⟩ := hrel
            have HRd := Lib.hid hRd
            have hb5 := Lib.hid hb
            have HRR := Lib.hid (HR.out.below hb)
            clear hRd hb
            by_cases hlt : j < l.length
            · obtain ⟨g', o, x, rfl, hg', hx, hkd, hok, hcell⟩ := HRR.out.at_ hlt
              obtain ⟨kd, sz, n, bv, bb, le_, mo, rfl⟩ := op_fields hkd
              have hn : (Lit.int .u64 n).wf = true := hok (.num .u64 n) (by simp)
              have d1 := hcell 1 _ rfl
              have d2 := hcell 2 _ rfl
              simp only [FV.val] at d1 d2
              obtain ⟨m, rfl, hm⟩ : ∃ m : Nat, n = m ∧ m < 18446744073709551616 := by
                have hr : 0 ≤ n ∧ n ≤ 18446744073709551615 := by simpa [Lit.wf, IntKind.min, IntKind.max, IntKind.bits, IntKind.signed] using hn
                exact ⟨n.toNat, by omega, by omega⟩
              have hsb : sizeB sz = true := HGDS.out j _ hx
              have hc := sizeB_cases hsb
              have HGET : Hid (∀ W, Rdr 73 g10 W g10 (encs (l.drop j) ++ zs mz) false → Calls Try.prog 14 #[.pointer (some ⟨g10, 0, none⟩), .int .i64 sz] W fun e w' => e = .returned (.int .u64 ((m % 256 ^ sz.toNat : Nat) : Int)) ∧ Rdr 73 g10 w' g10 (encs (l.drop (j + 1)) ++ zs mz) false ∧ Kept (fun i => i = g10) W w') := Lib.hid (fun W hW => by
                obtain ⟨K, rfl⟩ : ∃ K : Nat, sz = K := ⟨sz.toNat, by omega⟩
                have he := encs_drop hx
                simp only [opP, Int.toNat_natCast] at he
                have hll : (encs (l.drop j)).length ≤ 65536 := by
                  have : encs l = encs (l.take j) ++ encs (l.drop j) := by rw [← encs_append, List.take_append_drop]
                  rw [this, List.length_append] at hel; omega
                have hle2 : (leb K m).length = K := leb_length K m
                have := RGet_yes g10 g10 (encs (l.drop j) ++ zs mz) K W hW hsb (by rw [he]; simp only [List.length_append, leb_length]; omega) (by rw [List.length_append, zs_length]; omega)
                rw [he, List.append_assoc, List.take_left' hle2, List.drop_left' hle2, leVal_leb] at this
                exact this)
              clear hcell hok hkd hx hn hsb
              rcases hc with rfl | rfl | rfl | rfl
              all_goals
                go_wp2_with fail
                refine (HGET.out _ HRd.out).mono ?_
                rintro e w12 ⟨rfl, hRd, hK⟩
                have HRd2 := Lib.hid hRd
                have HB12 := Lib.hid (hb5.out.trans (hK.below (B := w.heap.size) (fun i e => by have e : i = g10 := e; omega) hb5.out.size))
                clear hRd hK
                first
                  | rw [show ((m % 256 ^ Int.toNat 1 : Nat) : Int) = (m : Int) % 256 by simp]
                  | rw [show ((m % 256 ^ Int.toNat 2 : Nat) : Int) = (m : Int) % 65536 by simp]
                  | rw [show ((m % 256 ^ Int.toNat 4 : Nat) : Int) = (m : Int) % 4294967296 by simp]
                  | rw [show ((m % 256 ^ Int.toNat 8 : Nat) : Int) = (m : Int) by rw [Nat.mod_eq_of_lt (show m < 256 ^ Int.toNat 8 from hm)]]
                go_wp2
                go_roundw
                case rel => exact ⟨j + 1, by omega, by go_num, HRd2.out, HB12.out⟩
                case measure => simp [intOf]; omega
            · obtain rfl : j = l.length := by omega
              have hzd : allZero (encs (l.drop l.length) ++ zs mz) = true := by rw [List.drop_length]; exact zs_all mz
              have HD := Lib.hid (RDone_b g10 g10 _ false wr HRd.out (r := 0) (by rw [hzd]; rfl))
              clear hzd
              go_wp2_with fail
              refine HD.out.mono ?_
              rintro e w12 ⟨rfl, rfl⟩
              go_wp2
              go_ret
              exact ⟨rfl, hb5.out⟩
        · go_wp2_with fail
          refine (Done_bad g r L k _ HWr.out).mono ?_
          rintro e w9 ⟨rfl, rfl⟩
          go_wp2_with fail
          refine (Take_any (.slice none 0 0) [] _ Rd1.nil_ (by simp)).mono ?_
          rintro e w10 ⟨g10, rfl, hg10, hD10, hb10⟩
          have HB10 := Lib.hid (bel_call hb5.out hb10)
          clear hD10 hb10
          go_wp2_with fail
          refine wp_loop_rounds 1 ?_
          rw [rounds_succ]
          go_wp2
          all_goals
            go_ret
            exact ⟨rfl, HB10.out⟩
end Go.Proofs.Ytiapoinobdnboaa.Le
