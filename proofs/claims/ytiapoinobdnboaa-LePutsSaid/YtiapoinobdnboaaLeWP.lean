/- The walk of LePuts. -/
import Derived.Test.YtiapoinobdnboaaLeA
import Derived.Test.YtiapoinobdnboaaLeO
namespace Go.Proofs.Ytiapoinobdnboaa.Le
open Go Go.RowKit Base Mem Open
set_option linter.unusedSimpArgs false
set_option linter.unusedVariables false
set_option maxRecDepth 100000 in
set_option maxHeartbeats 4000000 in
theorem LePuts_walk (w : World) (room : Int) (hwf : (Lit.int .i64 room).wf = true) (v : Value) (l : List (List FV)) (hr : RdRec 6 opK w.heap.size w v l) (hz : l.length * 64 ≤ 140737488351232) :
    Calls Try.prog 5 #[.int .i64 room, v] w fun e w' => e = .returned (.bool true) ∧ Below w.heap.size w w' := by
  obtain ⟨A, c, rfl, h1, h2, -⟩ := id hr
  unfold maxLen at h2
  have HR := Lib.hid hr
  clear hr hwf
  by_cases hroom : room < 0 ∨ 65536 < room
  · go_enter Try.func5, Try.ntmps5
    go_wp2_with fail
    refine (New_no room _ hroom).mono ?_
    rintro e x1 ⟨rfl, rfl⟩
    have HN := Lib.hid hroom
    clear hroom
    go_wp2_with fail
    refine (lives_any _).mono ?_
    rintro e w3 ⟨rfl, hb⟩
    rcases HN.out with hn | hn
    · go_wp2
      go_ret
      exact ⟨rfl, hb⟩
    · have hn0 : ¬ room < 0 := by omega
      go_wp2
      go_ret
      exact ⟨rfl, hb⟩
  · obtain ⟨k, rfl⟩ : ∃ k : Nat, room = k := ⟨room.toNat, by omega⟩
    have hk : k ≤ 65536 := by omega
    have hk1 : (k : Int) ≤ 65536 := by omega
    clear hroom
    have hk2 : decide ((k : Int) < 0) = false := decide_eq_false (by omega)
    have hk3 : decide (65536 < (k : Int)) = false := decide_eq_false (by omega)
    go_enter Try.func5, Try.ntmps5
    go_wp2_with fail
    refine (New_yes k _ (by omega) hk1).mono ?_
    rintro e w1 ⟨g, rfl, hg, hW, hb⟩
    have HW := Lib.hid hW
    have hb1 := hb
    clear hW hb
    go_wp2_with fail
    refine (lives_any _).mono ?_
    rintro e w3 ⟨rfl, hb⟩
    have HW3 := Lib.hid (HW.out.now hb)
    have hb3 := bel_call hb1 hb
    clear hb hb1 HW
    go_wp2_with fail
    obtain ⟨gx, hgx⟩ : ∃ gx, w3.heap.size = gx := ⟨_, rfl⟩
    have hB0 : Both (w3.alloc (.cells #[.int .i64 (k : Int), .slice none 0 0, .bool false] 48)) w.heap.size g gx [] [] k false false := by
      have hbl := Blk.new w3 48 #[.int .i64 (k : Int), .slice none 0 0, .bool false]
      rw [hgx] at hbl
      exact ⟨none, none, HW3.out.now ((Below.refl _ _).alloc (Nat.le_refl _) _), ⟨.slice none 0 0, rfl, hbl, ⟨rfl, .inl ⟨rfl, rfl⟩⟩⟩, hg, by have := hb3.size; omega, (fun _ e => by cases e), (fun _ e => by cases e), (fun _ e => by cases e)⟩
    have hB00 := Lib.hid hB0
    have hb4 := Lib.hid (bel_alloc hb3 (.cells #[.int .i64 (k : Int), .slice none 0 0, .bool false] 48))
    have HGX := Lib.hid hgx
    clear hB0
    rw [hgx]
    clear hgx hb3
    go_loopw [5, 7] (fun p i wr => ∃ (j : Nat) (L : List UInt8) (bad : Bool), j ≤ l.length ∧ i = .int .i64 (j : Int) ∧ p = .pointer (some ⟨g, 0, none⟩) ∧ Both wr w.heap.size g gx L L k bad bad ∧ L.length ≤ k ∧ Below w.heap.size w wr) (fun _ i _ => l.length - (intOf i).toNat)
    case atStart => exact ⟨0, [], false, Nat.zero_le _, rfl, rfl, hB00.out, Nat.zero_le _, hb4.out⟩
    case round =>
      obtain ⟨j, L, bad, hj, rfl, rfl, hB, hLk, hb⟩ := hrel
      clear hb4 hB00
      have HB := Lib.hid hB
      have hb5 := Lib.hid hb
      have HRR := Lib.hid (HR.out.below hb)
      clear hB hb
      by_cases hlt : j < l.length
      · obtain ⟨g', o, x, rfl, hg', hx, hkd, hok, hcell⟩ := HRR.out.at_ hlt
        obtain ⟨kd, sz, n, bv, bb, le_, mo, rfl⟩ := op_fields hkd
        have hn : (Lit.int .u64 n).wf = true := hok (.num .u64 n) (by simp)
        have hbb : RdB w.heap.size wr bv bb := hok (.bys bv bb) (by simp)
        have d0 := hcell 0 _ rfl
        have d1 := hcell 1 _ rfl
        have d2 := hcell 2 _ rfl
        have d3 := hcell 3 _ rfl
        have d4 := hcell 4 _ rfl
        have d5 := hcell 5 _ rfl
        simp only [FV.val, Nat.add_zero] at d0 d1 d2 d3 d4 d5
        have hsz := hb5.out.size
        obtain ⟨Ab, cb, rfl, -⟩ := id hbb
        obtain ⟨m, rfl, hm⟩ : ∃ m : Nat, n = m ∧ m < 18446744073709551616 := by
          have hr : 0 ≤ n ∧ n ≤ 18446744073709551615 := by simpa [Lit.wf, IntKind.min, IntKind.max, IntKind.bits, IntKind.signed] using hn
          exact ⟨n.toNat, by omega, by omega⟩
        have HBB := Lib.hid hbb
        clear hcell hok hkd hx hn hbb
        by_cases hkd : kd = 1
        · subst hkd
          go_wp2_with fail
          generalize hO : Obj.cells #[Value.int .i64 1, .int .i64 sz, .int .u64 (m : Int), .slice Ab bb.length cb, .int .i64 le_, .int .i64 mo] 30 = O
          obtain ⟨r, rx, hW0, hX0, f1, f2, f3, f4, f5⟩ := HB.out
          have hbO : Below wr.heap.size wr (wr.alloc O) := (Below.refl wr.heap.size wr).alloc (Nat.le_refl _) O
          have hW := hW0.now hbO
          have hX := hX0.now hbO
          have hB1 : w.heap.size ≤ (wr.alloc O).heap.size := by simp; omega
          obtain ⟨q, hq⟩ : ∃ q, wr.heap.size = q := ⟨_, rfl⟩
          have hbq : Blk (wr.alloc O) q 30 #[Value.int .i64 1, .int .i64 sz, .int .u64 (m : Int), .slice Ab bb.length cb, .int .i64 le_, .int .i64 mo] := by
            rw [← hO, ← hq]; exact Blk.new wr _ _
          have hgq : g < q := by have := hW0.lt; omega
          have hrq : ∀ i, r = some i → i < q := fun i e => by have := hW0.rlt i e; omega
          have hbb1 : RdB w.heap.size (wr.alloc O) (.slice Ab bb.length cb) bb := HBB.out.below ((Below.refl w.heap.size wr).alloc hsz O)
          have hbo : Below w.heap.size w (wr.alloc O) := hb5.out.trans ((Below.refl w.heap.size wr).alloc hsz O)
          have HBB1 := Lib.hid hbb1
          have HBO := Lib.hid hbo
          obtain ⟨L1, hL1⟩ : ∃ L1, putL (k : Int) L bad sz m = L1 := ⟨_, rfl⟩
          obtain ⟨bad1, hb1⟩ : ∃ z, (!putOk (k : Int) L bad sz) = z := ⟨_, rfl⟩
          have hle1 : L1.length ≤ k := by have := putL_le (bad := bad) (size := sz) (n := m) (show ((L.length : Nat) : Int) ≤ (k : Int) by omega); rw [hL1] at this; omega
          have HL1 := Lib.hid hL1
          have HBD := Lib.hid hb1
          clear hL1 hb1 hW0 hX0 hbb1 hbo
          rw [hq]
          refine (Put_all g r L k bad sz m _ hW (by omega) hk1 (by omega) hm).mono ?_
          rintro e w6 ⟨rfl, r6, hW6, hs6, hK6⟩
          rw [HL1.out, HBD.out] at hW6
          have b6 := hbq.kept hK6 (fun e => by rcases e with e | e; omega; have := hrq q e; omega)
          have e1 : w6.cell? ⟨q, 1, none⟩ = some (.int .i64 sz) := (b6.cell 1).trans rfl
          have e2 : w6.cell? ⟨q, 2, none⟩ = some (.int .u64 (m : Int)) := (b6.cell 2).trans rfl
          have hq2 := both_first hW hX hB1 f1 f2 f3 f4 f5 hW6 hs6 hK6
          have HBW6 := Lib.hid (HBO.out.trans hq2.2)
          have HQ := Lib.hid hq2.1
          have hB2 : w.heap.size ≤ w6.heap.size := by have := hK6.size; omega
          have HBB2 := Lib.hid (HBB1.out.below hq2.2)
          clear hW hX hW6 hs6 hK6 hq2 f1 f2 f3 f4 f5 hbq b6 hgq hrq hbO
          go_wp2_with fail
          obtain ⟨r', rx', hW', hX', g1, g2, g3, g4, g5⟩ := HQ.out
          refine (rPut_all gx rx' L k bad sz m _ hX' (by omega) hk1 (by omega) hm).mono ?_
          rintro e w7 ⟨rfl, r7, hX7, hs7, hK7⟩
          rw [HL1.out, HBD.out] at hX7
          have hq3 := both_second hW' hX' hB2 g1 g2 g3 g4 g5 hX7 hs7 hK7
          have HBW7 := Lib.hid (HBW6.out.trans hq3.2)
          have HQ7 := Lib.hid hq3.1
          clear hW' hX' hX7 hs7 hK7 hq3 g1 g2 g3 g4 g5 HQ
          obtain ⟨r8, rx8, hW8, hX8, -⟩ := HQ7.out
          have hlen := Len_any g r8 L1 k bad1 w7 hW8
          obtain ⟨A8, c8, hv8, hB8, ho8, x0, x1, x2, hsz8⟩ := hX8.open_
          have HLEN := Lib.hid (show ∀ d, Calls Try.prog 27 #[.pointer (some ⟨g, 0, none⟩)] (w7.drewN d) fun e w' => e = .returned (.int .i64 (L1.length : Int)) ∧ w' = w7.drewN d from fun d => by
            obtain ⟨v9, e9, b9, o9⟩ := hW8
            exact Len_any g r8 L1 k bad1 _ ⟨v9, e9, b9, own_kept o9 ((Kept.refl (fun _ => False) w7).drewN d) (fun _ _ e => e)⟩)
          clear hW8 hX8 hv8 hB8 ho8 hlen
          cases bad1
          all_goals
            go_wp2_with fail
            go_quiet ((go_at_call 27; exact Calls.quiet_of_same (HLEN.out _)))
            go_wp2_with fail
            go_roundw
            case rel => exact ⟨j + 1, L1, _, by omega, by go_num, rfl, (by first | exact HQ7.out.now (below_drewN (Below.refl _ _) _) | exact HQ7.out.now ((Below.refl _ _).drew) | exact HQ7.out), hle1, (by first | exact bel_drewN HBW7.out _ | exact bel_drew HBW7.out | exact HBW7.out)⟩
            case measure => simp [intOf]; omega
        · go_wp2_with fail
          generalize hO : Obj.cells #[Value.int .i64 kd, .int .i64 sz, .int .u64 (m : Int), .slice Ab bb.length cb, .int .i64 le_, .int .i64 mo] 30 = O
          obtain ⟨r, rx, hW0, hX0, f1, f2, f3, f4, f5⟩ := HB.out
          have hbO : Below wr.heap.size wr (wr.alloc O) := (Below.refl wr.heap.size wr).alloc (Nat.le_refl _) O
          have hW := hW0.now hbO
          have hX := hX0.now hbO
          have hB1 : w.heap.size ≤ (wr.alloc O).heap.size := by simp; omega
          obtain ⟨q, hq⟩ : ∃ q, wr.heap.size = q := ⟨_, rfl⟩
          have hbq : Blk (wr.alloc O) q 30 #[Value.int .i64 kd, .int .i64 sz, .int .u64 (m : Int), .slice Ab bb.length cb, .int .i64 le_, .int .i64 mo] := by
            rw [← hO, ← hq]; exact Blk.new wr _ _
          have hgq : g < q := by have := hW0.lt; omega
          have hrq : ∀ i, r = some i → i < q := fun i e => by have := hW0.rlt i e; omega
          have hbb1 : RdB w.heap.size (wr.alloc O) (.slice Ab bb.length cb) bb := HBB.out.below ((Below.refl w.heap.size wr).alloc hsz O)
          have hbo : Below w.heap.size w (wr.alloc O) := hb5.out.trans ((Below.refl w.heap.size wr).alloc hsz O)
          have HBB1 := Lib.hid hbb1
          have HBO := Lib.hid hbo
          obtain ⟨L1, hL1⟩ : ∃ L1, bytesL (k : Int) L bad bb = L1 := ⟨_, rfl⟩
          obtain ⟨bad1, hb1⟩ : ∃ z, (!bytesOk (k : Int) L bad bb) = z := ⟨_, rfl⟩
          have hle1 : L1.length ≤ k := by have := bytesL_le (bad := bad) (b := bb) (show ((L.length : Nat) : Int) ≤ (k : Int) by omega); rw [hL1] at this; omega
          have HL1 := Lib.hid hL1
          have HBD := Lib.hid hb1
          clear hL1 hb1 hW0 hX0 hbb1 hbo
          rw [hq]
          refine (Bytes_all g r L k bad _ bb _ hW (by omega) hk1 (by omega) (HBB1.out.more hB1)).mono ?_
          rintro e w6 ⟨rfl, r6, hW6, hs6, hK6⟩
          rw [HL1.out, HBD.out] at hW6
          have b6 := hbq.kept hK6 (fun e => by rcases e with e | e; omega; have := hrq q e; omega)
          have e3 : w6.cell? ⟨q, 3, none⟩ = some (.slice Ab bb.length cb) := (b6.cell 3).trans rfl
          have hq2 := both_first hW hX hB1 f1 f2 f3 f4 f5 hW6 hs6 hK6
          have HBW6 := Lib.hid (HBO.out.trans hq2.2)
          have HQ := Lib.hid hq2.1
          have hB2 : w.heap.size ≤ w6.heap.size := by have := hK6.size; omega
          have HBB2 := Lib.hid (HBB1.out.below hq2.2)
          clear hW hX hW6 hs6 hK6 hq2 f1 f2 f3 f4 f5 hbq b6 hgq hrq hbO
          go_wp2_with fail
          obtain ⟨r', rx', hW', hX', g1, g2, g3, g4, g5⟩ := HQ.out
          refine (rBytes_all gx rx' L k bad _ bb _ hX' (by omega) hk1 (by omega) (HBB2.out.more hB2)).mono ?_
          rintro e w7 ⟨rfl, r7, hX7, hs7, hK7⟩
          rw [HL1.out, HBD.out] at hX7
          have hq3 := both_second hW' hX' hB2 g1 g2 g3 g4 g5 hX7 hs7 hK7
          have HBW7 := Lib.hid (HBW6.out.trans hq3.2)
          have HQ7 := Lib.hid hq3.1
          clear hW' hX' hX7 hs7 hK7 hq3 g1 g2 g3 g4 g5 HQ
          obtain ⟨r8, rx8, hW8, hX8, -⟩ := HQ7.out
          have hlen := Len_any g r8 L1 k bad1 w7 hW8
          obtain ⟨A8, c8, hv8, hB8, ho8, x0, x1, x2, hsz8⟩ := hX8.open_
          have HLEN := Lib.hid (show ∀ d, Calls Try.prog 27 #[.pointer (some ⟨g, 0, none⟩)] (w7.drewN d) fun e w' => e = .returned (.int .i64 (L1.length : Int)) ∧ w' = w7.drewN d from fun d => by
            obtain ⟨v9, e9, b9, o9⟩ := hW8
            exact Len_any g r8 L1 k bad1 _ ⟨v9, e9, b9, own_kept o9 ((Kept.refl (fun _ => False) w7).drewN d) (fun _ _ e => e)⟩)
          clear hW8 hX8 hv8 hB8 ho8 hlen
          cases bad1
          all_goals
            go_wp2_with fail
            go_quiet ((go_at_call 27; exact Calls.quiet_of_same (HLEN.out _)))
            go_wp2_with fail
            go_roundw
            case rel => exact ⟨j + 1, L1, _, by omega, by go_num, rfl, (by first | exact HQ7.out.now (below_drewN (Below.refl _ _) _) | exact HQ7.out.now ((Below.refl _ _).drew) | exact HQ7.out), hle1, (by first | exact bel_drewN HBW7.out _ | exact bel_drew HBW7.out | exact HBW7.out)⟩
            case measure => simp [intOf]; omega
      · obtain rfl : j = l.length := by omega
        clear hlt
        obtain ⟨r, rx, hW, hX, f1, f2, f3, f4, f5⟩ := HB.out
        cases bad
        · have hbx : gx < wr.heap.size := hX.lt
          go_wp2_with fail
          refine (Done_ok g r L k _ hW hk hLk).mono ?_
          rintro e w9 ⟨g9, rfl, hg9, hC9, hb9⟩
          have hX9 := hX.now hb9
          obtain ⟨A8, c8, hv8, hB8, ho8, x0, x1, x2, hsz8⟩ := hX9.open_
          have HX9 := Lib.hid hX9
          have HB9 := Lib.hid (bel_call hb5.out hb9)
          have hzz : (L ++ zs (k - L.length)).length = k := by rw [List.length_append, zs_length]; omega
          have hR9 : RdB w9.heap.size w9 (.slice (some ⟨g9, 0, none⟩) k k) (L ++ zs (k - L.length)) := RdB.of_own _ hC9 hC9.lt k k hzz (Nat.le_refl _) (by unfold maxLen; omega)
          have HR9 := Lib.hid hR9
          obtain ⟨LL, hLL⟩ : ∃ LL, L ++ zs (k - L.length) = LL := ⟨_, rfl⟩
          have HLL := Lib.hid hLL
          clear hv8 hB8 ho8 hX9 hX hW hC9 hb9 f1 f2 f3 f4 f5 hzz hR9
          go_wp2_with fail
          have k1 := run_string (w := w9.drew) HR9.out
          have HX10 := Lib.hid (HX9.out.now ((Below.refl w9.heap.size w9).drew))
          have HR10 := Lib.hid (show RdB w9.drew.heap.size w9.drew (.slice (some ⟨g9, 0, none⟩) k k) (L ++ zs (k - L.length)) from HR9.out)
          rw [hLL] at k1 HR10
          clear hLL
          (refine wp_region_any (by kernel_rfl) ?_; try (change wpAny _ _ _ _ _ _ _ (World.drew _)))
          (refine wpAny_take (i := 0) (v := ?_) rfl (by kernel_rfl) (by kernel_rfl) (by kernel_rfl) (fun _ _ _ h => h) (Or.inl ⟨by rfl, ?_⟩) ?_; rotate_left; · (intro w; go_simp; try with_reducible rfl)); (refine wpAny_take (i := 1) (v := ?_) rfl (by kernel_rfl) (by kernel_rfl) (by kernel_rfl) (fun _ _ _ h => h) (Or.inl ⟨by rfl, ?_⟩) ?_; rotate_left; · (intro w; go_simp; try with_reducible rfl)); (refine wpAny_take (i := 2) (v := ?_) rfl (by kernel_rfl) (by kernel_rfl) (by kernel_rfl) (fun _ _ _ h => h) (Or.inl ⟨by rfl, ?_⟩) ?_; rotate_left; · (intro w; go_simp; try with_reducible rfl)); (refine wpAny_take (i := 3) (v := ?_) rfl (by kernel_rfl) (by kernel_rfl) (by kernel_rfl) (fun _ _ _ h => h) (Or.inl ⟨by rfl, ?_⟩) ?_; rotate_left; · (intro w; go_simp; try with_reducible rfl)); (try go_simp); (refine wpAny_take (i := 5) (v := ?_) rfl (by kernel_rfl) (by kernel_rfl) (by kernel_rfl) (fun _ _ _ h => h) (Or.inl ⟨by rfl, ?_⟩) ?_; rotate_left; · (intro w; go_simp; try with_reducible rfl))
          (refine wpAny_ready (rs := [4, 6]) (by kernel_rfl) (by simp) ?_; refine (AllReady.cons rfl (fun K hK => ?_) (AllReady.cons rfl (fun K hK => ?_) AllReady.nil)))
          · go_simp; (refine hK _ _ ?_; clear hK K)
            (refine wpAny_ready (rs := [6]) (by kernel_rfl) (by simp) ?_; refine (AllReady.cons rfl (fun K hK => ?_) AllReady.nil))
            go_simp
            refine (rWDone gx _ L k _ HX10.out hk hLk).mono ?_
            rw [HLL.out]
            rintro e w11 ⟨v11, rfl, ho11, hb11⟩
            have k2 := run_string (RdB.of_row ho11)
            have k3 := run_string (HR10.out.below hb11)
            go_wp2_with fail
            (refine wpAny_ready (rs := [7]) (by kernel_rfl) (by simp) ?_; refine (AllReady.cons rfl (fun K hK => ?_) AllReady.nil))
            go_simp; (refine hK _ _ ?_; clear hK K)
            (refine wpAny_take (i := 8) (v := ?_) rfl (by kernel_rfl) (by kernel_rfl) (by kernel_rfl) (fun _ _ _ h => h) (Or.inl ⟨by rfl, ?_⟩) ?_; rotate_left; · (intro w; go_simp; try with_reducible rfl)); (refine wpAny_take (i := 9) (v := ?_) rfl (by kernel_rfl) (by kernel_rfl) (by kernel_rfl) (fun _ _ _ h => h) (Or.inl ⟨by rfl, ?_⟩) ?_; rotate_left; · (intro w; go_simp; try with_reducible rfl)); (refine wpAny_take (i := 10) (v := ?_) rfl (by kernel_rfl) (by kernel_rfl) (by kernel_rfl) (fun _ _ _ h => h) (Or.inl ⟨by rfl, ?_⟩) ?_; rotate_left; · (intro w; go_simp; try with_reducible rfl))
            (refine wpAny_done (by kernel_rfl) ?_ _)
            go_wp2
            go_ret
            exact ⟨by first | rfl | simp, bel_call (bel_drew HB9.out) hb11⟩
          · go_simp
            refine (rWDone gx _ L k _ HX10.out hk hLk).mono ?_
            rw [HLL.out]
            rintro e w11 ⟨v11, rfl, ho11, hb11⟩
            have k2 := run_string (RdB.of_row ho11)
            have k3 := run_string (HR10.out.below hb11)
            go_wp2_with fail
            (refine wpAny_ready (rs := [4, 7]) (by kernel_rfl) (by simp) ?_; refine (AllReady.cons rfl (fun K hK => ?_) (AllReady.cons rfl (fun K hK => ?_) AllReady.nil)))
            · go_simp; (refine hK _ _ ?_; clear hK K)
              (refine wpAny_ready (rs := [7]) (by kernel_rfl) (by simp) ?_; refine (AllReady.cons rfl (fun K hK => ?_) AllReady.nil))
              go_simp; (refine hK _ _ ?_; clear hK K)
              (refine wpAny_take (i := 8) (v := ?_) rfl (by kernel_rfl) (by kernel_rfl) (by kernel_rfl) (fun _ _ _ h => h) (Or.inl ⟨by rfl, ?_⟩) ?_; rotate_left; · (intro w; go_simp; try with_reducible rfl)); (refine wpAny_take (i := 9) (v := ?_) rfl (by kernel_rfl) (by kernel_rfl) (by kernel_rfl) (fun _ _ _ h => h) (Or.inl ⟨by rfl, ?_⟩) ?_; rotate_left; · (intro w; go_simp; try with_reducible rfl)); (refine wpAny_take (i := 10) (v := ?_) rfl (by kernel_rfl) (by kernel_rfl) (by kernel_rfl) (fun _ _ _ h => h) (Or.inl ⟨by rfl, ?_⟩) ?_; rotate_left; · (intro w; go_simp; try with_reducible rfl))
              (refine wpAny_done (by kernel_rfl) ?_ _)
              go_wp2
              go_ret
              exact ⟨by first | rfl | simp, bel_call (bel_drew HB9.out) hb11⟩
            · go_simp; (refine hK _ _ ?_; clear hK K)
              (refine wpAny_ready (rs := [4]) (by kernel_rfl) (by simp) ?_; refine (AllReady.cons rfl (fun K hK => ?_) AllReady.nil))
              go_simp; (refine hK _ _ ?_; clear hK K)
              (refine wpAny_take (i := 8) (v := ?_) rfl (by kernel_rfl) (by kernel_rfl) (by kernel_rfl) (fun _ _ _ h => h) (Or.inl ⟨by rfl, ?_⟩) ?_; rotate_left; · (intro w; go_simp; try with_reducible rfl)); (refine wpAny_take (i := 9) (v := ?_) rfl (by kernel_rfl) (by kernel_rfl) (by kernel_rfl) (fun _ _ _ h => h) (Or.inl ⟨by rfl, ?_⟩) ?_; rotate_left; · (intro w; go_simp; try with_reducible rfl)); (refine wpAny_take (i := 10) (v := ?_) rfl (by kernel_rfl) (by kernel_rfl) (by kernel_rfl) (fun _ _ _ h => h) (Or.inl ⟨by rfl, ?_⟩) ?_; rotate_left; · (intro w; go_simp; try with_reducible rfl))
              (refine wpAny_done (by kernel_rfl) ?_ _)
              go_wp2
              go_ret
              exact ⟨by first | rfl | simp, bel_call (bel_drew HB9.out) hb11⟩
        · have hbx : gx < wr.heap.size := hX.lt
          go_wp2_with fail
          refine (Done_bad g r L k _ hW).mono ?_
          rintro e w9 ⟨rfl, rfl⟩
          obtain ⟨A8, c8, hv8, hB8, ho8, x0, x1, x2, hsz8⟩ := hX.open_
          clear hv8 hB8 ho8 hX hW
          go_wp2
          go_ret
          exact ⟨rfl, hb5.out⟩
end Go.Proofs.Ytiapoinobdnboaa.Le
