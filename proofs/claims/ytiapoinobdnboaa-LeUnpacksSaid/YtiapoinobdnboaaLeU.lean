/- le.Unpack. -/
import Derived.Test.YtiapoinobdnboaaLeL
namespace Go.Proofs.Ytiapoinobdnboaa.Le
open Go Go.RowKit Base Mem
set_option linter.unusedSimpArgs false
set_option linter.unusedVariables false
/-- A bit behind the last one is set. -/
def padB (n : Nat) (B : List UInt8) : Bool := decide (0 < n % 8) && decide (0 < (B[B.length - 1]?.getD 0).toNat / 2 ^ (n % 8))
set_option maxRecDepth 100000 in
theorem Unp_arg (n : Int) (v : Value) (w : World) (h : n < 0 ∨ 65536 < n) :
    Calls Try.prog 34 #[.int .i64 n, v] w fun e w' => e = .returned (.tuple #[.pointer none, .int .i64 1]) ∧ w' = w := by
  go_enter Try.func34, Try.ntmps34
  go_wp2_with fail
  refine (NewBits_no n _ h).mono ?_
  rintro e w' ⟨rfl, rfl⟩
  go_wp2
  go_ret2
  exact ⟨rfl, rfl⟩
set_option maxRecDepth 100000 in
theorem Unp_len (n : Nat) (v : Value) (l : List UInt8) (w : World) (hn : n ≤ 65536) (hr : RdB w.heap.size w v l) (hl : l.length ≠ (n + 7) / 8) :
    Calls Try.prog 34 #[.int .i64 (n : Int), v] w fun e w' => e = .returned (.tuple #[.pointer none, .int .i64 10]) ∧ Below w.heap.size w w' := by
  obtain ⟨A, c, rfl, h1, h2, h3, h4⟩ := id hr
  clear hr h4 h3 h1 h2
  go_enter Try.func34, Try.ntmps34
  go_wp2_with fail
  refine (NewBits_yes n _ hn).mono ?_
  rintro e w1 ⟨g, R, rfl, hg, hR, hT, hb⟩
  obtain ⟨c0, c1, hg', hR', hne⟩ := hT.open_
  rw [zs_length] at c1
  have HB := Lib.hid hb
  clear hT hb
  have hne : ((l.length : Int) != (((n + 7) / 8 : Nat) : Int)) = true := by simp only [bne_iff_ne, ne_eq]; omega
  generalize (n + 7) / 8 = m at *
  go_wp2
  go_ret2
  exact ⟨rfl, HB.out⟩
set_option maxRecDepth 100000 in
set_option maxHeartbeats 1000000 in
theorem Unp_two (n : Nat) (v : Value) (l : List UInt8) (w : World) (hn : n ≤ 65536) (hr : RdB w.heap.size w v l) (hl : l.length = (n + 7) / 8) {b : Bool} (hp : padB n l = b) :
    Calls Try.prog 34 #[.int .i64 (n : Int), v] w fun e w' => (if b then e = .returned (.tuple #[.pointer none, .int .i64 10]) else ∃ g R, e = .returned (.tuple #[.pointer (some ⟨g, 0, none⟩), .int .i64 0]) ∧ w.heap.size ≤ g ∧ w.heap.size ≤ R ∧ Bts w' g R n l) ∧ Below w.heap.size w w' := by
  obtain ⟨A, c, rfl, h1, h2, h3, h4⟩ := id hr
  unfold maxLen at h2
  clear h4 h3
  have HR := Lib.hid hr
  clear hr
  have hlen : l.length ≤ 8192 := by omega
  go_enter Try.func34, Try.ntmps34
  go_wp2_with fail
  refine (NewBits_yes n _ hn).mono ?_
  rintro e w1 ⟨g, R, rfl, hg, hR, hT, hb⟩
  obtain ⟨c0, c1, hg', hR', hne⟩ := hT.open_
  rw [← hl] at c1
  rw [zs_length] at c1
  have HB := Lib.hid hb
  have HT := Lib.hid hT
  clear hT hb
  have HL := Lib.hid hl
  clear hl
  have HS : splice (zs l.length) 0 l = l := by unfold splice zs; rw [List.take_zero, List.nil_append, List.drop_replicate]; simp
  have HS := Lib.hid HS
  have hR1 : RdB w.heap.size w1 (.slice A l.length c) l := HR.out.below HB.out
  have hR2 := HT.out.2.1
  rw [← HL.out] at hR2
  go_wp2_with (refine wpList_copyB (o := ⟨some 26, _, _, _, _, _⟩) rfl (.tmp 24) (.tmp 25) rfl R 0 l.length l.length (zs l.length) l (.slice A l.length c) w.heap.size ?_ ?_ ?_ ?_ ?_ ?_ ?_)
  rotate_left 6
  · intro w2 hB2 hg2
    have hk2 : Kept (fun k => k = R) w1 w2 := (Kept.refl (fun k => k = R) w1).grown hg2 (fun k e _ => by cases e; rfl)
    have hR3 : RdB w.heap.size w2 (.slice A l.length c) l := hR1.below (grown_other hg2 (by omega) HB.out.size)
    have hB2' := hB2.out
    try rw [HS.out] at hB2'
    have hT2 : Bts w2 g R n l := by
      refine ⟨?_, hB2', HL.out, hn⟩
      have := HT.out.1.kept hk2 hne
      rw [← HL.out, zs_length] at this
      exact this
    have HT2 := Lib.hid hT2
    have HB2 := Lib.hid (HB.out.trans (hk2.below (B := w.heap.size) (fun k e => by have e : k = R := e; omega) HB.out.size))
    have HR3 := Lib.hid hR3
    clear hR1 hR2 hR3 hB2' hT2 hk2 hg2 hB2
    have m0 : (n : Int).tmod 8 = ((n % 8 : Nat) : Int) := by rw [Int.tmod_eq_emod_of_nonneg (Int.natCast_nonneg n)]; omega
    have m1 : (n : Int) % 8 = ((n % 8 : Nat) : Int) := by omega
    by_cases h8 : 0 < n % 8
    · have hpos : 0 < l.length := by have := HL.out; omega
      obtain ⟨g', o, x, rfl, hgl, hx, hc⟩ := HR3.out.at_ (show l.length - 1 < l.length by omega)
      have hp' : b = decide (0 < x.toNat / 2 ^ (n % 8)) := by rw [← hp]; unfold padB; rw [decide_eq_true h8, hx]; rfl
      have HP := Lib.hid hp'
      clear hp hp' hx
      have hx8 := bytes_lt x
      obtain ⟨y, hy⟩ : ∃ y, x.toNat = y := ⟨_, rfl⟩
      rw [hy] at hc hx8 HP
      clear hy
      obtain ⟨q, hq⟩ : ∃ q, y / 2 ^ (n % 8) = q := ⟨_, rfl⟩
      have hq' : (y : Int) / 2 ^ (n % 8) = (q : Int) := by rw [← hq]; simp
      rw [hq] at HP
      obtain ⟨r, hr⟩ : ∃ r, n % 8 = r := ⟨_, rfl⟩
      rw [hr] at m0 m1 h8 hq'
      have h8' : (0 : Int) < (r : Int) := by omega
      have hr8 : (r : Int) < 8 := by omega
      have e1 : IntKind.i64.wrap ((l.length : Int) - 1) = ((l.length - 1 : Nat) : Int) := by rw [IntKind.wrap_i64]; omega
      have e2 : (l.length : Int) - 1 = ((l.length - 1 : Nat) : Int) := by omega
      have e3 : ((l.length - 1 : Nat) : Int) < (l.length : Int) := by omega
      have hs : g' < w2.heap.size := by have := HB2.out.size; omega
      clear hr hq
      by_cases hq0 : 0 < q
      · have hb : b = true := by rw [HP.out, decide_eq_true hq0]
        subst hb
        have hq1 : (0 : Int) < (q : Int) := by omega
        go_wp2
        go_ret2
        exact ⟨rfl, HB2.out⟩
      · obtain rfl : q = 0 := by omega
        have hb : b = false := by rw [HP.out]; rfl
        subst hb
        go_wp2
        go_ret2
        refine ⟨?_, HB2.out⟩
        first | exact ⟨g, R, rfl, hg, hR, HT2.out⟩ | exact ⟨g, rfl, hg, R, hR, HT2.out⟩ | exact ⟨g, rfl, R, hg, hR, HT2.out⟩ | (simp; exact ⟨hg, R, hR, HT2.out⟩)
    · have h8' : n % 8 = 0 := by omega
      rw [h8'] at m0 m1
      have hb : b = false := by rw [← hp]; unfold padB; rw [decide_eq_false h8]; rfl
      subst hb
      clear hp
      go_wp2
      go_ret2
      refine ⟨?_, HB2.out⟩
      first | exact ⟨g, R, rfl, hg, hR, HT2.out⟩ | exact ⟨g, rfl, hg, R, hR, HT2.out⟩ | exact ⟨g, rfl, R, hg, hR, HT2.out⟩ | (simp; exact ⟨hg, R, hR, HT2.out⟩)
  · rfl
  · rfl
  · exact hR2
  · exact hR1
  · rw [zs_length]; omega
  · exact Nat.le_refl _
end Go.Proofs.Ytiapoinobdnboaa.Le
