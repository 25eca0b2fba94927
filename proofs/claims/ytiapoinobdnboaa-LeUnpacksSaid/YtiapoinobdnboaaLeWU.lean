/- The walk of LeUnpacks. -/
import Derived.Test.YtiapoinobdnboaaLeM
namespace Go.Proofs.Ytiapoinobdnboaa.Le
open Go Go.RowKit Base Mem
set_option linter.unusedSimpArgs false
set_option linter.unusedVariables false
set_option maxRecDepth 100000 in
set_option maxHeartbeats 2000000 in
theorem LeUnpacks_walk (w : World) (n : Int) (hwf : (Lit.int .i64 n).wf = true) (v : Value) (l : List UInt8) (hr : RdB w.heap.size w v l) (hz : l.length * 1 ≤ 140737488351232) :
    Calls Try.prog 7 #[.int .i64 n, v] w fun e w' => e = .returned (.bool true) ∧ Below w.heap.size w w' := by
  obtain ⟨A, c, rfl, h1, h2, h3, h4⟩ := id hr
  unfold maxLen at h2
  clear h4 h3 hwf
  have HR := Lib.hid hr
  clear hr
  have hE : (w.alloc (.cells #[] 5)).ownsRow w.heap.size 5 1 (.slice (some ⟨w.heap.size, 0, none⟩) 0 0) ([] : List UInt8).length (bc []) :=
    World.ownsRow_lit w #[] 0 (Nat.le_refl _) (by simp) rfl
  have HE := Lib.hid hE
  clear hE
  go_enter Try.func7, Try.ntmps7
  go_wp2_with (refine wpList_appendB (o := ⟨some 12, _, _, _, _, _⟩) rfl (.tmp 10) (.tmp 11) rfl w.heap.size [] l (.slice (some ⟨w.heap.size, 0, none⟩) 0 0) (.slice A l.length c) rfl rfl HE.out w.heap.size (HR.out.below ((Below.refl _ _).alloc (Nat.le_refl _) _)) (by simp; omega) (by simp) ?_; intro v1 w1 hown1 hg1 hat1)
  have hb1 : Below w.heap.size w w1 := ((Below.refl w.heap.size w).alloc (Nat.le_refl _) _).trans (grown_below hg1 HE.out (Nat.le_refl _) (by simp))
  clear hg1 hat1
  have hR1 : RdB w1.heap.size w1 v1 l := RdB.of_row (a_nil_append hown1.out)
  have HR1 := Lib.hid hR1
  have HV1 := Lib.hid (HR.out.now hb1)
  clear hown1 hR1
  by_cases hn : n < 0 ∨ 65536 < n
  · refine (Unp_arg n v1 _ hn).mono ?_
    rintro e w2 ⟨rfl, rfl⟩
    have HN := Lib.hid hn
    clear hn
    go_wp2_with fail
    refine (lives_any _).mono ?_
    rintro e w3 ⟨rfl, hb⟩
    have hR3 := Lib.hid (HR1.out.now hb)
    have HV3 := Lib.hid (HV1.out.now hb)
    have hb3 := bel_call hb1 hb
    clear hb hb1
    have c1 := run_string hR3.out
    have c2 := run_string HV3.out
    rcases HN.out with hn | hn
    · go_wp2
      go_ret
      exact ⟨rfl, hb3⟩
    · have hn0 : ¬ n < 0 := by omega
      go_wp2
      go_ret
      exact ⟨rfl, hb3⟩
  · obtain ⟨k, rfl⟩ : ∃ k : Nat, n = k := ⟨n.toNat, by omega⟩
    have hk : k ≤ 65536 := by omega
    have hk1 : (k : Int) ≤ 65536 := by omega
    clear hn
    by_cases hl : l.length = (k + 7) / 8
    · obtain ⟨b, hp⟩ : ∃ b, padB k l = b := ⟨_, rfl⟩
      refine (Unp_two k v1 l _ hk HR1.out hl hp).mono ?_
      have HL := Lib.hid hl
      have HP := Lib.hid hp
      clear hl hp
      cases b
      · rintro e w2 ⟨hx, hb⟩
        rw [if_neg (by decide)] at hx
        obtain ⟨g, R, rfl, hg, hR, hT⟩ := hx
        have hR2 := Lib.hid (HR1.out.now hb)
        have HV2 := Lib.hid (HV1.out.now hb)
        have HT2 := Lib.hid hT
        have hb2 := bel_call hb1 hb
        clear hb hb1 hT
        go_wp2_with fail
        refine (lives_any _).mono ?_
        rintro e w3 ⟨rfl, hb⟩
        have hR3 := Lib.hid (hR2.out.now hb)
        have HV3 := Lib.hid (HV2.out.now hb)
        have HT3 := Lib.hid (HT2.out.now hb)
        have hb3 := bel_call hb2 hb
        clear hb hb2
        have c1 := run_string hR3.out
        have c2 := run_string HV3.out
        go_wp2_with fail
        clear c1 c2
        refine (rUnp_two k _ l _ hk HV3.out HL.out HP.out).mono ?_
        rintro e w4 ⟨hx, hb⟩
        rw [if_neg (by decide)] at hx
        obtain ⟨v4, xs, rfl, hX, hS⟩ := hx
        have HV4 := Lib.hid (HV3.out.now hb)
        have HT4 := Lib.hid (HT3.out.now hb)
        have hb4 := bel_call hb3 hb
        have HX4 := Lib.hid hX
        have HS := Lib.hid hS
        clear hb hb3 hX hS
        go_wp2_with fail
        have c3 := run_string (w := w4.drew) HV4.out
        have HV5 := Lib.hid (show RdB w4.drew.heap.size w4.drew (.slice A l.length c) l from HV4.out)
        have HT5 := Lib.hid (show Bts w4.drew g R k l from HT4.out)
        have HX5 := Lib.hid (show RdO w4.drew.heap.size w4.drew v4 xs from HX4.out)
        (refine wp_region_any (by kernel_rfl) ?_; try (change wpAny _ _ _ _ _ _ _ (World.drew _)))
        (refine wpAny_take (i := 0) (v := ?_) rfl (by kernel_rfl) (by kernel_rfl) (by kernel_rfl) (fun _ _ _ h => h) (Or.inl ⟨by rfl, ?_⟩) ?_; rotate_left; · (intro w; go_simp; try with_reducible rfl)); (refine wpAny_take (i := 1) (v := ?_) rfl (by kernel_rfl) (by kernel_rfl) (by kernel_rfl) (fun _ _ _ h => h) (Or.inl ⟨by rfl, ?_⟩) ?_; rotate_left; · (intro w; go_simp; try with_reducible rfl)); (refine wpAny_take (i := 2) (v := ?_) rfl (by kernel_rfl) (by kernel_rfl) (by kernel_rfl) (fun _ _ _ h => h) (Or.inl ⟨by rfl, ?_⟩) ?_; rotate_left; · (intro w; go_simp; try with_reducible rfl)); (refine wpAny_take (i := 3) (v := ?_) rfl (by kernel_rfl) (by kernel_rfl) (by kernel_rfl) (fun _ _ _ h => h) (Or.inl ⟨by rfl, ?_⟩) ?_; rotate_left; · (intro w; go_simp; try with_reducible rfl)); (try go_simp); (refine wpAny_take (i := 4) (v := ?_) rfl (by kernel_rfl) (by kernel_rfl) (by kernel_rfl) (fun _ _ _ h => h) (Or.inl ⟨by rfl, ?_⟩) ?_; rotate_left; · (intro w; go_simp; try with_reducible rfl)); (refine wpAny_take (i := 5) (v := ?_) rfl (by kernel_rfl) (by kernel_rfl) (by kernel_rfl) (fun _ _ _ h => h) (Or.inl ⟨by rfl, ?_⟩) ?_; rotate_left; · (intro w; go_simp; try with_reducible rfl)); (refine wpAny_take (i := 6) (v := ?_) rfl (by kernel_rfl) (by kernel_rfl) (by kernel_rfl) (fun _ _ _ h => h) (Or.inl ⟨by rfl, ?_⟩) ?_; rotate_left; · (intro w; go_simp; try with_reducible rfl)); (refine wpAny_take (i := 7) (v := ?_) rfl (by kernel_rfl) (by kernel_rfl) (by kernel_rfl) (fun _ _ _ h => h) (Or.inl ⟨by rfl, ?_⟩) ?_; rotate_left; · (intro w; go_simp; try with_reducible rfl)); (try go_simp); (refine wpAny_take (i := 8) (v := ?_) rfl (by kernel_rfl) (by kernel_rfl) (by kernel_rfl) (fun _ _ _ h => h) (Or.inl ⟨by rfl, ?_⟩) ?_; rotate_left; · (intro w; go_simp; try with_reducible rfl))
        (refine wpAny_ready (rs := [9]) (by kernel_rfl) (by simp) ?_; refine (AllReady.cons rfl (fun K hK => ?_) AllReady.nil))
        go_simp
        refine (looks_any g R k l v4 xs 0 _ HT5.out HX5.out HS.out).mono ?_
        rintro e w5 ⟨rfl, rfl⟩
        go_wp2_with fail
        (refine wpAny_take (i := 10) (v := ?_) rfl (by kernel_rfl) (by kernel_rfl) (by kernel_rfl) (fun _ _ _ h => h) (Or.inl ⟨by rfl, ?_⟩) ?_; rotate_left; · (intro w; go_simp; try with_reducible rfl)); (refine wpAny_take (i := 11) (v := ?_) rfl (by kernel_rfl) (by kernel_rfl) (by kernel_rfl) (fun _ _ _ h => h) (Or.inl ⟨by rfl, ?_⟩) ?_; rotate_left; · (intro w; go_simp; try with_reducible rfl)); (refine wpAny_take (i := 12) (v := ?_) rfl (by kernel_rfl) (by kernel_rfl) (by kernel_rfl) (fun _ _ _ h => h) (Or.inl ⟨by rfl, ?_⟩) ?_; rotate_left; · (intro w; go_simp; try with_reducible rfl)); (refine wpAny_take (i := 15) (v := ?_) rfl (by kernel_rfl) (by kernel_rfl) (by kernel_rfl) (fun _ _ _ h => h) (Or.inl ⟨by rfl, ?_⟩) ?_; rotate_left; · (intro w; go_simp; try with_reducible rfl)); (try go_simp)
        (refine wpAny_ready (rs := [13, 16]) (by kernel_rfl) (by simp) ?_; refine (AllReady.cons rfl (fun K hK => ?_) (AllReady.cons rfl (fun K hK => ?_) AllReady.nil)))
        · go_simp
          refine (Pack_any g R k l _ HT5.out).mono ?_
          rintro e w6 ⟨v6, rfl, ho6, hb6⟩
          have c4 := run_string (RdB.of_row ho6)
          have c5 := run_string (HV5.out.below hb6)
          go_wp2_with fail
          (refine wpAny_ready (rs := [14, 16]) (by kernel_rfl) (by simp) ?_; refine (AllReady.cons rfl (fun K hK => ?_) (AllReady.cons rfl (fun K hK => ?_) AllReady.nil)))
          · go_simp; (refine hK _ _ ?_; clear hK K)
            (refine wpAny_ready (rs := [16]) (by kernel_rfl) (by simp) ?_; refine (AllReady.cons rfl (fun K hK => ?_) AllReady.nil))
            go_simp; (refine hK _ _ ?_; clear hK K)
            (refine wpAny_take (i := 17) (v := ?_) rfl (by kernel_rfl) (by kernel_rfl) (by kernel_rfl) (fun _ _ _ h => h) (Or.inl ⟨by rfl, ?_⟩) ?_; rotate_left; · (intro w; go_simp; try with_reducible rfl)); (refine wpAny_take (i := 18) (v := ?_) rfl (by kernel_rfl) (by kernel_rfl) (by kernel_rfl) (fun _ _ _ h => h) (Or.inl ⟨by rfl, ?_⟩) ?_; rotate_left; · (intro w; go_simp; try with_reducible rfl)); (refine wpAny_take (i := 19) (v := ?_) rfl (by kernel_rfl) (by kernel_rfl) (by kernel_rfl) (fun _ _ _ h => h) (Or.inl ⟨by rfl, ?_⟩) ?_; rotate_left; · (intro w; go_simp; try with_reducible rfl))
            (refine wpAny_done (by kernel_rfl) ?_ _)
            go_wp2
            go_ret
            exact ⟨by first | rfl | simp, bel_call (bel_drew hb4) hb6⟩
          · go_simp; (refine hK _ _ ?_; clear hK K)
            (refine wpAny_ready (rs := [14]) (by kernel_rfl) (by simp) ?_; refine (AllReady.cons rfl (fun K hK => ?_) AllReady.nil))
            go_simp; (refine hK _ _ ?_; clear hK K)
            (refine wpAny_take (i := 17) (v := ?_) rfl (by kernel_rfl) (by kernel_rfl) (by kernel_rfl) (fun _ _ _ h => h) (Or.inl ⟨by rfl, ?_⟩) ?_; rotate_left; · (intro w; go_simp; try with_reducible rfl)); (refine wpAny_take (i := 18) (v := ?_) rfl (by kernel_rfl) (by kernel_rfl) (by kernel_rfl) (fun _ _ _ h => h) (Or.inl ⟨by rfl, ?_⟩) ?_; rotate_left; · (intro w; go_simp; try with_reducible rfl)); (refine wpAny_take (i := 19) (v := ?_) rfl (by kernel_rfl) (by kernel_rfl) (by kernel_rfl) (fun _ _ _ h => h) (Or.inl ⟨by rfl, ?_⟩) ?_; rotate_left; · (intro w; go_simp; try with_reducible rfl))
            (refine wpAny_done (by kernel_rfl) ?_ _)
            go_wp2
            go_ret
            exact ⟨by first | rfl | simp, bel_call (bel_drew hb4) hb6⟩
        · go_simp; (refine hK _ _ ?_; clear hK K)
          (refine wpAny_ready (rs := [13]) (by kernel_rfl) (by simp) ?_; refine (AllReady.cons rfl (fun K hK => ?_) AllReady.nil))
          go_simp
          refine (Pack_any g R k l _ HT5.out).mono ?_
          rintro e w6 ⟨v6, rfl, ho6, hb6⟩
          have c4 := run_string (RdB.of_row ho6)
          have c5 := run_string (HV5.out.below hb6)
          go_wp2_with fail
          (refine wpAny_ready (rs := [14]) (by kernel_rfl) (by simp) ?_; refine (AllReady.cons rfl (fun K hK => ?_) AllReady.nil))
          go_simp; (refine hK _ _ ?_; clear hK K)
          (refine wpAny_take (i := 17) (v := ?_) rfl (by kernel_rfl) (by kernel_rfl) (by kernel_rfl) (fun _ _ _ h => h) (Or.inl ⟨by rfl, ?_⟩) ?_; rotate_left; · (intro w; go_simp; try with_reducible rfl)); (refine wpAny_take (i := 18) (v := ?_) rfl (by kernel_rfl) (by kernel_rfl) (by kernel_rfl) (fun _ _ _ h => h) (Or.inl ⟨by rfl, ?_⟩) ?_; rotate_left; · (intro w; go_simp; try with_reducible rfl)); (refine wpAny_take (i := 19) (v := ?_) rfl (by kernel_rfl) (by kernel_rfl) (by kernel_rfl) (fun _ _ _ h => h) (Or.inl ⟨by rfl, ?_⟩) ?_; rotate_left; · (intro w; go_simp; try with_reducible rfl))
          (refine wpAny_done (by kernel_rfl) ?_ _)
          go_wp2
          go_ret
          exact ⟨by first | rfl | simp, bel_call (bel_drew hb4) hb6⟩
      · rintro e w2 ⟨hx, hb⟩
        rw [if_pos rfl] at hx
        subst hx
        have hR2 := Lib.hid (HR1.out.now hb)
        have HV2 := Lib.hid (HV1.out.now hb)
        have hb2 := bel_call hb1 hb
        clear hb hb1
        go_wp2_with fail
        refine (lives_any _).mono ?_
        rintro e w3 ⟨rfl, hb⟩
        have hR3 := Lib.hid (hR2.out.now hb)
        have HV3 := Lib.hid (HV2.out.now hb)
        have hb3 := bel_call hb2 hb
        clear hb hb2
        have c1 := run_string hR3.out
        have c2 := run_string HV3.out
        go_wp2_with fail
        clear c1 c2
        refine (rUnp_two k _ l _ hk HV3.out HL.out HP.out).mono ?_
        rintro e w4 ⟨hx, hb⟩
        rw [if_pos rfl] at hx
        subst hx
        have hb4 := bel_call hb3 hb
        go_wp2
        go_ret
        exact ⟨rfl, hb4⟩
    · refine (Unp_len k v1 l _ hk HR1.out hl).mono ?_
      rintro e w2 ⟨rfl, hb⟩
      have hR2 := Lib.hid (HR1.out.now hb)
      have HV2 := Lib.hid (HV1.out.now hb)
      have hb2 := bel_call hb1 hb
      clear hb hb1
      have HL := Lib.hid hl
      clear hl
      go_wp2_with fail
      refine (lives_any _).mono ?_
      rintro e w3 ⟨rfl, hb⟩
      have hR3 := Lib.hid (hR2.out.now hb)
      have HV3 := Lib.hid (HV2.out.now hb)
      have hb3 := bel_call hb2 hb
      clear hb hb2
      have c1 := run_string hR3.out
      have c2 := run_string HV3.out
      go_wp2_with fail
      refine (rUnp_len k _ l _ hk HV3.out HL.out).mono ?_
      rintro e w4 ⟨rfl, rfl⟩
      go_wp2
      go_ret
      exact ⟨rfl, hb3⟩
end Go.Proofs.Ytiapoinobdnboaa.Le
