/- The walks of CrcJoins and CrcParts. -/
import Derived.Test.YtcmpaebogekdcaaDoorCrcL
import Derived.Test.YtcmpaebogekdcaaDoorCrcD
namespace Go.Proofs.YtcmpaebogekdcaaDoor.Crc
open Go Go.RowKit Base Mem
set_option linter.unusedSimpArgs false
set_option linter.unusedVariables false
set_option maxRecDepth 100000 in
set_option maxHeartbeats 1000000 in
theorem CrcJoins_walk (w : World) (v0 : Value) (a : List UInt8) (hr0 : RdB w.heap.size w v0 a) (hz0 : a.length ≤ 1048576) (v1 : Value) (b : List UInt8) (hr1 : RdB w.heap.size w v1 b) (hz1 : b.length ≤ 1048576) (ht : Tb w) :
    Calls Tryd.prog 5 #[v0, v1] w fun e w' => e = .returned (.bool true) ∧ Below w.heap.size w w' := by
  have HT := Lib.hid ht
  have HR0 := Lib.hid hr0
  have HR1 := Lib.hid hr1
  clear hr0 ht
  obtain ⟨A, c, rfl, -, -, -, -⟩ := id hr1
  clear hr1
  have hE : (w.alloc (.cells #[] 5)).ownsRow w.heap.size 5 1 (.slice (some ⟨w.heap.size, 0, none⟩) 0 0) ([] : List UInt8).length (bc []) :=
    World.ownsRow_lit w #[] 0 (Nat.le_refl _) (by simp) rfl
  have HE := Lib.hid hE
  clear hE
  go_enter Tryd.func5, Tryd.ntmps5
  go_wp2_with (first
    | (refine wpList_appendB (o := ⟨some 8, _, _, _, _, _⟩) rfl (.tmp 6) (.tmp 7) rfl w.heap.size [] a (.slice (some ⟨w.heap.size, 0, none⟩) 0 0) v0 rfl rfl HE.out w.heap.size (HR0.out.below ((Below.refl _ _).alloc (Nat.le_refl _) _)) (by simp; omega) (by simp) ?_; intro v2 w1 hown1 hg1 hat1
       have hb1 : Below w.heap.size w w1 := ((Below.refl w.heap.size w).alloc (Nat.le_refl _) _).trans (grown_below hg1 HE.out (Nat.le_refl _) (by simp))
       clear hg1 hat1)
    | (refine wpList_appendB (o := ⟨some 10, _, _, _, _, _⟩) rfl (.tmp 8) (.tmp 9) rfl w.heap.size ([] ++ a) b v2 (.slice A b.length c) rfl rfl hown1.out w.heap.size (HR1.out.below hb1) (by simp; omega) hb1.size ?_; intro v3 w2 hown2 hg2 hat2
       have hb2 : Below w.heap.size w w2 := hb1.trans (grown_below hg2 hown1.out (Nat.le_refl _) hb1.size)
       clear hg2 hat2))
  have HA := Lib.hid (show RdB w2.heap.size w2 v3 (a ++ b) from RdB.of_row hown2.out)
  have HT2 := Lib.hid (HT.out.below hb2)
  have HA2 := Lib.hid (HR0.out.now hb2)
  have HB2 := Lib.hid (HR1.out.now hb2)
  clear hown1 hown2
  refine (lives_any _ HT2.out).mono ?_
  rintro e w3 ⟨rfl, hb⟩
  have HT3 := Lib.hid (HT2.out.below hb)
  have HA3 := Lib.hid (HA2.out.now hb)
  have HB3 := Lib.hid (HB2.out.now hb)
  have HC3 := Lib.hid (HA.out.now hb)
  have hb3 := bel_call hb2 hb
  clear hb hb1 hb2
  obtain ⟨sa, hsa⟩ : ∃ s, sum a = s := ⟨_, rfl⟩
  obtain ⟨sb, hsb⟩ : ∃ s, sum b = s := ⟨_, rfl⟩
  obtain ⟨sc, hsc⟩ : ∃ s, sum (a ++ b) = s := ⟨_, rfl⟩
  have la : sa < 4294967296 := by rw [← hsa]; exact sum_lt _
  have lb : sb < 4294967296 := by rw [← hsb]; exact sum_lt _
  have HJ := Lib.hid (show Sn (8 * b.length) sa ^^^ sb = sc by rw [← hsa, ← hsb, ← hsc, join_eq])
  have HN := Lib.hid (show on sa b = sc by rw [← hsa, ← hsc]; exact on_append 0 a b)
  have Ha := Lib.hid hsa
  have Hb := Lib.hid hsb
  have Hc := Lib.hid hsc
  clear hsa hsb hsc
  go_wp2_with fail
  refine (Sum_any _ a _ HT3.out HA3.out).mono ?_
  rw [Ha.out]
  rintro e w' ⟨rfl, rfl⟩
  go_wp2_with fail
  refine (Sum_any _ b _ HT3.out HB3.out).mono ?_
  rw [Hb.out]
  rintro e w' ⟨rfl, rfl⟩
  go_wp2_with fail
  refine (Join_at sa sb b.length _ sc _ rfl HJ.out la lb (by omega)).mono ?_
  rintro e w4 ⟨rfl, hb4⟩
  have HT4 := Lib.hid (HT3.out.below hb4)
  have HA4 := Lib.hid (HA3.out.now hb4)
  have HB4 := Lib.hid (HB3.out.now hb4)
  have HC4 := Lib.hid (HC3.out.now hb4)
  go_wp2_with fail
  refine (refSum_any _ (a ++ b) _ HC4.out).mono ?_
  rw [Hc.out]
  rintro e w' ⟨rfl, rfl⟩
  go_wp2_with fail
  refine (Sum_any _ a _ HT4.out HA4.out).mono ?_
  rw [Ha.out]
  rintro e w' ⟨rfl, rfl⟩
  go_wp2_with fail
  refine (On_any sa _ b _ la HT4.out HB4.out).mono ?_
  rw [HN.out]
  rintro e w' ⟨rfl, rfl⟩
  go_wp2_with fail
  refine (refSum_any _ (a ++ b) _ HC4.out).mono ?_
  rw [Hc.out]
  rintro e w' ⟨rfl, rfl⟩
  go_wp2
  go_ret
  exact ⟨by first | rfl | simp, bel_call hb3 hb4⟩
theorem sum_nil : sum [] = 0 := by decide
theorem Sum_b (v : Value) (l : List UInt8) (s : Nat) (w : World) (hs : sum l = s) (ht : Tb w) (hr : RdB w.heap.size w v l) :
    Calls Tryd.prog 12 #[v] w fun e w' => e = .returned (.int .u32 (s : Nat)) ∧ Below w.heap.size w w' := by
  subst hs
  exact (Sum_any v l w ht hr).mono fun e w' ⟨h, hw⟩ => ⟨h, by subst hw; exact Below.refl _ _⟩
theorem Tb.over {w : World} {t : Array Obj} {d : Nat} (h : Tb w) : Tb (w.over t d) := h.below (over_below (Nat.le_refl _))
theorem Rd_over {α : Type} {E : α → Value} {w : World} {v : Value} {l : List α} {t : Array Obj} {d : Nat} (h : Rd1 E w.heap.size w v l) : Rd1 E (w.over t d).heap.size (w.over t d) v l := h.now (over_below (Nat.le_refl _))
theorem flat_len {ls : List (List UInt8)} (h : ∀ l ∈ ls, l.length ≤ 1048576) : ls.flatten.length ≤ ls.length * 1048576 := by
  induction ls with
  | nil => simp
  | cons l ls ih =>
    have h1 := h l (by simp)
    have h2 := ih (fun x hx => h x (by simp [hx]))
    simp only [List.flatten_cons, List.length_append, List.length_cons]
    omega
set_option maxRecDepth 100000 in
set_option maxHeartbeats 1000000 in
theorem CrcParts_walk (w : World) (v0 : Value) (ls : List (List UInt8)) (hr0 : RdR w.heap.size w v0 ls) (hz0 : ∀ l ∈ ls, l.length ≤ 1048576) (ht : Tb w) :
    Calls Tryd.prog 6 #[v0] w fun e w' => e = .returned (.bool true) ∧ Below w.heap.size w w' := by
  have HT := Lib.hid ht
  clear ht
  obtain ⟨vs, hR, hvl, hin⟩ := hr0
  have HR := Lib.hid hR
  have HIN := Lib.hid hin
  obtain ⟨A, c, rfl, h1, h2, h3, -⟩ := id hR
  clear hR hin
  unfold maxLen at h2
  have HZ := Lib.hid hz0
  have HVL := Lib.hid hvl
  clear hz0 hvl
  go_enter Tryd.func6, Tryd.ntmps6
  go_wp2
  go_loopw [3, 4, 5] (fun s v i wr => ∃ k : Nat, k ≤ vs.length ∧ k ≤ 50 ∧ i = .int .i64 (k : Int) ∧ s = .int .u32 (sum (ls.take k).flatten : Nat) ∧ wr.ownsRow w.heap.size 5 1 v (ls.take k).flatten.length (bc (ls.take k).flatten) ∧ Below w.heap.size w wr) (fun _ _ i _ => 50 - (intOf i).toNat)
  case atStart => exact ⟨0, by omega, by omega, rfl, by rw [List.take_zero]; exact (congrArg (fun n : Nat => Value.int .u32 (n : Int)) sum_nil).symm, ⟨rfl, .inl ⟨rfl, rfl⟩⟩, Below.refl _ _⟩
  case round =>
    rename_i u3 u4 u5
    obtain ⟨k, hk, hk50, rfl, rfl, hown, hb⟩ := hrel
    have HOwn := Lib.hid hown
    clear hown
    have hsz := hb.size
    have HT1 := Lib.hid (HT.out.below hb)
    have hflat := flat_len (ls := ls.take k) (fun l hl => HZ.out l (List.mem_of_mem_take hl))
    have htl : (ls.take k).length ≤ 50 := by rw [List.length_take]; omega
    by_cases hlt : k < vs.length ∧ k < 50
    · obtain ⟨hlt, hlt5⟩ := hlt
      obtain ⟨g, o, u, rfl, hg, hu, hc0⟩ := HR.out.at_ hlt
      obtain ⟨l, hl⟩ : ∃ l, ls[k]? = some l := ⟨_, List.getElem?_eq_getElem (by rw [← HVL.out]; exact hlt)⟩
      have c0 : wr.cell? ⟨g, o + k, none⟩ = some u := (hb.cell (p := ⟨g, o + k, none⟩) hg).trans hc0
      have hg' : g < wr.heap.size := by omega
      have HU := Lib.hid ((HIN.out k u l hu hl).now hb)
      have hll : l.length ≤ 1048576 := HZ.out l (List.mem_of_getElem? hl)
      obtain ⟨Al, cl, rfl, -, -, -, -⟩ := id (HU.out)
      obtain ⟨s0, hs0⟩ : ∃ s, sum (ls.take k).flatten = s := ⟨_, rfl⟩
      obtain ⟨s1, hs1⟩ : ∃ s, sum l = s := ⟨_, rfl⟩
      obtain ⟨s2, hs2⟩ : ∃ s, sum (ls.take (k + 1)).flatten = s := ⟨_, rfl⟩
      have l0 : s0 < 4294967296 := by rw [← hs0]; exact sum_lt _
      have l1 : s1 < 4294967296 := by rw [← hs1]; exact sum_lt _
      have hfl : (ls.take (k + 1)).flatten = (ls.take k).flatten ++ l := by rw [take_succ' hl, List.flatten_append]; simp
      have HJ := Lib.hid (show Sn (8 * l.length) s0 ^^^ s1 = s2 by rw [← hs0, ← hs1, ← hs2, hfl, join_eq])
      have H1 := Lib.hid hs1
      have H2 := Lib.hid hs2
      have HF := Lib.hid hfl
      rw [hs0]
      clear hs0 hs1 hs2 hfl hu hl hc0
      have k0 : (0 : Int) ≤ (k : Int) := Int.natCast_nonneg _
      have k1 : (k : Int) < (vs.length : Int) := by omega
      have k2 : (k : Int) < 50 := by omega
      go_wp2_with fail
      (refine wp_region_over (by kernel_rfl) (by kernel_rfl) ?_; (repeat (go_big_quiet_step (first | (go_at_call 12; exact calls_over (Sum_b _ l s1 _ H1.out HT1.out.over (Rd_over HU.out))) | (go_at_call 18; exact calls_over (Join_at s0 s1 l.length _ s2 _ rfl HJ.out l0 l1 (by omega)))))); refine wpQuiet_nil ?_; intro _ hw'; obtain ⟨t1_, d1_, n1_, rfl, hn1_, hl1_⟩ := junk_named hw'; clear hw'; (try simp only [World.size_alloc, World.size_setCell, World.size_drew, over_size] at hn1_ hl1_); (try have : w.heap.size < n1_ := (by omega)); (try have : w.heap.size ≤ n1_ := (by omega)); (try have : w.heap.size + 1 < n1_ := (by omega)); (try have : w.heap.size + 1 ≤ n1_ := (by omega)); (try have : w.heap.size + 1 + 1 < n1_ := (by omega)); (try have : w.heap.size + 1 + 1 ≤ n1_ := (by omega)); (try have : w.heap.size + 1 + 1 + 1 < n1_ := (by omega)); (try have : w.heap.size + 1 + 1 + 1 ≤ n1_ := (by omega)); (try have : w.heap.size + 1 + 1 + 1 + 1 < n1_ := (by omega)); (try have : w.heap.size + 1 + 1 + 1 + 1 ≤ n1_ := (by omega)); (try have : w.heap.size ≤ n1_ + 1 := (by omega)); (try have : w.heap.size ≤ n1_ + 1 + 1 := (by omega)); (try have : w.heap.size ≤ n1_ + 1 + 1 + 1 := (by omega)); (try have : ∀ x, x < w.heap.size → x < n1_ := (by intro x hx; omega)); (try have : ∀ x, x < w.heap.size → x ≤ n1_ := (by intro x hx; omega)))
      go_wp2_with (refine wpList_appendB (o := ⟨some 33, _, _, _, _, _⟩) rfl (.tmp 28) (.tmp 32) rfl w.heap.size (ls.take k).flatten l u4 (.slice Al l.length cl) rfl rfl (own_over HOwn.out) wr.heap.size (HU.out.below (over_below (Nat.le_refl _))) (by omega) (by simp only [over_size]; omega) ?_; intro v2 w2 hown2 hg2 hat2)
      rw [← HF.out] at hown2
      have hb2 : Below w.heap.size w w2 := (bel_over hb).trans (grown_below hg2 (own_over HOwn.out) (Nat.le_refl _) (by simp only [over_size]; omega))
      clear hg2 hat2
      go_roundw
      case rel => exact ⟨k + 1, by omega, by omega, by go_num, by rw [H2.out], hown2.out, hb2⟩
      case measure => simp [intOf]; omega
    · have hk' : k = vs.length ∨ k = 50 := by omega
      have HA := Lib.hid (RdB.of_row HOwn.out)
      obtain ⟨s0, hs0⟩ : ∃ s, sum (ls.take k).flatten = s := ⟨_, rfl⟩
      have H0 := Lib.hid hs0
      rw [hs0]
      clear hs0
      have k0 : (0 : Int) ≤ (k : Int) := Int.natCast_nonneg _
      rcases Nat.lt_or_ge k vs.length with hlt1 | hge
      · obtain rfl : k = 50 := by omega
        clear hlt hk'
        have k1 : decide (((50 : Nat) : Int) < (vs.length : Int)) = true := decide_eq_true (by omega)
        go_wp2_with fail
        refine (lives_any _ HT1.out).mono ?_
        rintro e w3 ⟨rfl, hb3⟩
        go_wp2_with fail
        refine (Sum_any _ _ _ (HT1.out.below hb3) (HA.out.now hb3)).mono ?_
        rw [H0.out]
        rintro e w' ⟨rfl, rfl⟩
        go_wp2
        go_ret
        exact ⟨by first | rfl | simp, bel_call hb hb3⟩
      · obtain rfl : k = vs.length := by omega
        clear hlt hk'
        go_wp2_with fail
        refine (lives_any _ HT1.out).mono ?_
        rintro e w3 ⟨rfl, hb3⟩
        go_wp2_with fail
        refine (Sum_any _ _ _ (HT1.out.below hb3) (HA.out.now hb3)).mono ?_
        rw [H0.out]
        rintro e w' ⟨rfl, rfl⟩
        go_wp2
        go_ret
        exact ⟨by first | rfl | simp, bel_call hb hb3⟩
end Go.Proofs.YtcmpaebogekdcaaDoor.Crc
