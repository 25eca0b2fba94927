/- le.Bits: NewBits, Has, Set, Pack. -/
import Derived.Test.YtiapoinobdnboaaLeF
namespace Go.Proofs.Ytiapoinobdnboaa.Le
open Go Go.RowKit Base Mem
set_option linter.unusedSimpArgs false
set_option linter.unusedVariables false
/-- n bits, their bytes B in a block of their own. -/
def Bts (w : World) (g R n : Nat) (B : List UInt8) : Prop :=
  Blk w g 77 #[.int .i64 (n : Int), .slice (some ⟨R, 0, none⟩) B.length B.length] ∧ Blk w R 5 (bc B).toArray ∧ B.length = (n + 7) / 8 ∧ n ≤ 65536
def bitOf (B : List UInt8) (i : Nat) : Bool := ((B[i / 8]?.getD 0).toNat / 2 ^ (i % 8)) % 2 == 1
def hasB (n : Nat) (B : List UInt8) (i : Int) : Bool := decide (0 ≤ i) && decide (i < n) && bitOf B i.toNat
def flip (B : List UInt8) (i : Nat) : List UInt8 := B.set (i / 8) (UInt8.ofNat ((B[i / 8]?.getD 0).toNat ^^^ 2 ^ (i % 8)))
theorem u8_and (a b : Nat) (ha : a < 256) (hb : b < 256) : bits .and .u8 (a : Int) (b : Int) = ((a &&& b : Nat) : Int) := (bits_nat .u8 8 (by decide) (fun n h0 h1 => by simp [IntKind.wrap, IntKind.bits, IntKind.signed]; omega) a b ha hb).1
theorem u8_xor (a b : Nat) (ha : a < 256) (hb : b < 256) : bits .xor .u8 (a : Int) (b : Int) = ((a ^^^ b : Nat) : Int) := by
  have hx : a ^^^ b < 2 ^ 8 := Nat.xor_lt_two_pow (by omega) (by omega)
  have h1 : (BitVec.ofInt 8 (a : Int)).toNat = a := by
    rw [BitVec.ofInt_natCast, BitVec.toNat_ofNat]; exact Nat.mod_eq_of_lt (by omega)
  have h2 : (BitVec.ofInt 8 (b : Int)).toNat = b := by
    rw [BitVec.ofInt_natCast, BitVec.toNat_ofNat]; exact Nat.mod_eq_of_lt (by omega)
  show IntKind.u8.wrap ((BitVec.ofInt 8 (a : Int) ^^^ BitVec.ofInt 8 (b : Int)).toNat : Int) = _
  rw [BitVec.toNat_xor, h1, h2, show IntKind.u8.wrap ((a ^^^ b : Nat) : Int) = ((a ^^^ b : Nat) : Int) % 256 by simp [IntKind.wrap, IntKind.bits, IntKind.signed]]
  omega
theorem pow8 {j : Nat} (h : j < 8) : 2 ^ j < 256 := by
  have := Nat.pow_le_pow_right (n := 2) (by omega) (show j ≤ 7 by omega)
  omega
theorem u8_pow {j : Nat} (h : j < 8) : IntKind.u8.wrap ((2 : Int) ^ j) = ((2 ^ j : Nat) : Int) := by
  have := pow8 h
  have e : ((2 : Int) ^ j) = ((2 ^ j : Nat) : Int) := by simp
  rw [e, show IntKind.u8.wrap ((2 ^ j : Nat) : Int) = ((2 ^ j : Nat) : Int) % 256 by simp [IntKind.wrap, IntKind.bits, IntKind.signed]]
  generalize 2 ^ j = q at *
  omega
theorem bit_walk (y j : Nat) (hy : y < 256) : (bits .and .u8 ((y : Int) / 2 ^ j) 1 == 1) = (y / 2 ^ j % 2 == 1) := by
  have hq : y / 2 ^ j < 256 := Nat.lt_of_le_of_lt (Nat.div_le_self _ _) hy
  have e : (y : Int) / 2 ^ j = ((y / 2 ^ j : Nat) : Int) := by simp
  rw [e, show (1 : Int) = ((1 : Nat) : Int) from rfl, u8_and _ 1 hq (by decide), Nat.and_one_is_mod]
  generalize y / 2 ^ j % 2 = q
  rw [Bool.eq_iff_iff]; simp only [beq_iff_eq]; omega
theorem Bts.open_ {w : World} {g R n : Nat} {B : List UInt8} (h : Bts w g R n B) :
    w.cell? ⟨g, 0, none⟩ = some (.int .i64 (n : Int)) ∧ w.cell? ⟨g, 1, none⟩ = some (.slice (some ⟨R, 0, none⟩) B.length B.length) ∧ g < w.heap.size ∧ R < w.heap.size ∧ g ≠ R :=
  ⟨(h.1.cell 0).trans rfl, (h.1.cell 1).trans rfl, h.1.lt, h.2.1.lt, blk_ne h.1 h.2.1 (by decide)⟩
theorem Bts.kept {S : Nat → Prop} {w w' : World} {g R n : Nat} {B : List UInt8} (h : Bts w g R n B) (hk : Kept S w w') (hg : ¬ S g) (hR : ¬ S R) : Bts w' g R n B :=
  ⟨h.1.kept hk hg, h.2.1.kept hk hR, h.2.2⟩
theorem Bts.now {w w' : World} {g R n : Nat} {B : List UInt8} (h : Bts w g R n B) (hb : Below w.heap.size w w') : Bts w' g R n B := ⟨h.1.now hb, h.2.1.now hb, h.2.2⟩
theorem Bts.cell {w : World} {g R n : Nat} {B : List UInt8} (h : Bts w g R n B) {i : Nat} {x : UInt8} (hx : B[i]? = some x) : w.cell? ⟨R, i, none⟩ = some (.int .u8 (x.toNat : Int)) :=
  (h.2.1.cell i).trans (by rw [List.getElem?_toArray]; exact bc_at hx)
set_option maxRecDepth 100000 in
theorem NewBits_yes (n : Nat) (w : World) (h1 : n ≤ 65536) :
    Calls Try.prog 29 #[.int .i64 (n : Int)] w fun e w' => ∃ g R, e = .returned (.pointer (some ⟨g, 0, none⟩)) ∧ w.heap.size ≤ g ∧ w.heap.size ≤ R ∧ Bts w' g R n (zs ((n + 7) / 8)) ∧ Below w.heap.size w w' := by
  obtain ⟨m, hm⟩ : ∃ m, (n + 7) / 8 = m := ⟨_, rfl⟩
  have hm2 : m ≤ 8192 := by omega
  obtain ⟨Z, hZ⟩ : ∃ Z, Z = (bc (zs m)).toArray := ⟨_, rfl⟩
  have hmk : ∀ W : World, (Instr.makeSlice 28 (.int .i64 (m : Int)) (.int .i64 (m : Int))).run Try.prog W = .ok (.slice (some ⟨W.heap.size, 0, none⟩) m m) (W.alloc (.cells Z 5)) := fun W => by rw [hZ]; exact run_makeB m (by omega) W
  have HZ := Lib.hid hZ
  clear hZ
  have HM := Lib.hid hm
  have he2 : ((n : Int) + 8 - 1) / 8 = (m : Int) := by omega
  clear hm
  go_enter Try.func29, Try.ntmps29
  go_wp2
  go_ret
  refine ⟨w.heap.size + 1, w.heap.size, rfl, by omega, Nat.le_refl _, ?_, (by repeat (first | exact Below.refl _ _ | (with_reducible refine bel_call ?_ hb1) | (with_reducible refine bel_call ?_ hb2) | (with_reducible refine bel_call ?_ hb3) | (with_reducible refine bel_call ?_ hb4) | (with_reducible refine bel_call ?_ hb5) | (with_reducible refine bel_call ?_ hb6) | (with_reducible refine bel_call ?_ hb7) | (with_reducible refine bel_call ?_ hb8) | (with_reducible refine bel_call ?_ hb9) | (with_reducible refine bel_call ?_ hb10) | (with_reducible refine bel_call ?_ hb11) | (with_reducible refine bel_call ?_ hb12) | (with_reducible refine bel_call ?_ hb) | (with_reducible refine bel_over ?_) | (with_reducible refine bel_alloc ?_ _) | (with_reducible refine bel_drewN ?_ _) | (with_reducible refine bel_drew ?_) | (with_reducible refine bel_set ?_ (by simp; omega) _)))⟩
  rw [HM.out]
  have hB : Blk (w.alloc (.cells Z 5)) w.heap.size 5 (bc (zs m)).toArray := by rw [← HZ.out]; exact Blk.new w _ _
  have hG := Blk.new (w.alloc (.cells Z 5)) 77 #[.int .i64 (n : Int), .slice (some ⟨w.heap.size, 0, none⟩) m m]
  refine ⟨?_, hB.alloc _, by rw [zs_length]; exact HM.out.symm, h1⟩
  rw [show (w.alloc (.cells Z 5)).heap.size = w.heap.size + 1 by simp] at hG
  rw [zs_length]
  exact hG
set_option maxRecDepth 100000 in
theorem NewBits_no (n : Int) (w : World) (h : n < 0 ∨ 65536 < n) :
    Calls Try.prog 29 #[.int .i64 n] w fun e w' => e = .returned (.pointer none) ∧ w = w' := by
  rcases h with h | h
  · go_enter Try.func29, Try.ntmps29
    go_wp2
    go_ret
    exact ⟨rfl, rfl⟩
  · have h' : ¬ n < 0 := by omega
    go_enter Try.func29, Try.ntmps29
    go_wp2
    go_ret
    exact ⟨rfl, rfl⟩
set_option maxRecDepth 100000 in
theorem Has_any (g R n : Nat) (B : List UInt8) (i : Int) (w : World) (h : Bts w g R n B) {b : Bool} (hb : hasB n B i = b) :
    Calls Try.prog 32 #[.pointer (some ⟨g, 0, none⟩), .int .i64 i] w fun e w' => e = .returned (.bool b) ∧ w' = w := by
  obtain ⟨c0, c1, hg, hR, hne⟩ := h.open_
  have hL := h.2.2.1
  have hn := h.2.2.2
  by_cases h0 : i < 0
  · have hd : decide (0 ≤ i) = false := decide_eq_false (by omega)
    have hb' : b = false := by rw [← hb]; unfold hasB; rw [hd]; rfl
    subst hb'
    clear hb h
    have hd : decide (i ≥ 0) = false := hd
    go_enter Try.func32, Try.ntmps32
    go_wp2
    go_ret
    exact ⟨rfl, rfl⟩
  · obtain ⟨k, rfl⟩ : ∃ k : Nat, i = k := ⟨i.toNat, by omega⟩
    by_cases h1 : k < n
    · have hlt : k / 8 < B.length := by omega
      obtain ⟨x, hx⟩ : ∃ x, B[k / 8]? = some x := ⟨_, List.getElem?_eq_getElem hlt⟩
      have hc := h.cell hx
      have hb' : b = (x.toNat / 2 ^ (k % 8) % 2 == 1) := by
        rw [← hb]; unfold hasB bitOf; rw [Int.toNat_natCast, hx, decide_eq_true (by omega), decide_eq_true (by omega)]; rfl
      have HX := Lib.hid hx
      have HB := Lib.hid hb'
      clear hb hb' hx h hL
      have hx8 := bytes_lt x
      obtain ⟨y, hy⟩ : ∃ y, x.toNat = y := ⟨_, rfl⟩
      rw [hy] at hc hx8
      have HY := Lib.hid hy
      clear hy
      go_enter Try.func32, Try.ntmps32
      go_wp2
      go_ret
      refine ⟨?_, rfl⟩
      show Ending.returned (.bool (bits .and .u8 ((y : Int) / 2 ^ (k % 8)) 1 == 1)) = _
      rw [HB.out, HY.out, bit_walk y _ hx8]
    · have hb' : b = false := by rw [← hb]; unfold hasB; rw [decide_eq_false (show ¬ ((k : Int) < n) by omega)]; simp
      subst hb'
      clear hb h
      have hk : (n : Int) ≤ k := by omega
      go_enter Try.func32, Try.ntmps32
      go_wp2
      go_ret
      exact ⟨rfl, rfl⟩
set_option maxRecDepth 100000 in
theorem Set_no (g R n : Nat) (B : List UInt8) (i : Int) (is : Bool) (w : World) (h : Bts w g R n B) (hb : i < 0 ∨ (n : Int) ≤ i ∨ hasB n B i = is) :
    Calls Try.prog 31 #[.pointer (some ⟨g, 0, none⟩), .int .i64 i, .bool is] w fun e w' => e = .returned (.bool false) ∧ w' = w := by
  obtain ⟨c0, c1, hg, hR, hne⟩ := h.open_
  have HH := Lib.hid h
  clear h
  by_cases h0 : i < 0
  · clear hb
    go_enter Try.func31, Try.ntmps31
    go_wp2
    go_ret
    exact ⟨rfl, rfl⟩
  · by_cases h1 : (n : Int) ≤ i
    · clear hb
      go_enter Try.func31, Try.ntmps31
      go_wp2
      go_ret
      exact ⟨rfl, rfl⟩
    · have hh : hasB n B i = is := by
        rcases hb with hb | hb | hb
        · exact absurd hb h0
        · exact absurd hb h1
        · exact hb
      have hh := Lib.hid hh
      clear hb
      go_enter Try.func31, Try.ntmps31
      go_wp2_with fail
      refine (Has_any g R n B i _ HH.out hh.out).mono ?_
      rintro e w' ⟨rfl, rfl⟩
      go_wp2
      go_ret
      exact ⟨rfl, rfl⟩
set_option maxRecDepth 100000 in
theorem Set_yes (g R n k : Nat) (B : List UInt8) (is : Bool) (w : World) (h : Bts w g R n B) (hk : k < n) (hh : hasB n B k = !is) :
    Calls Try.prog 31 #[.pointer (some ⟨g, 0, none⟩), .int .i64 (k : Int), .bool is] w fun e w' => e = .returned (.bool true) ∧ Bts w' g R n (flip B k) ∧ Kept (fun j => j = R) w w' := by
  obtain ⟨c0, c1, hg, hR, hne⟩ := h.open_
  have hL := h.2.2.1
  have hn := h.2.2.2
  have hlt : k / 8 < B.length := by omega
  obtain ⟨x, hx⟩ : ∃ x, B[k / 8]? = some x := ⟨_, List.getElem?_eq_getElem hlt⟩
  have hc := h.cell hx
  have f1 := h.2.1.frozen (k / 8)
  have HH := Lib.hid h
  have HHh := Lib.hid hh
  have HX := Lib.hid hx
  have hx8 := bytes_lt x
  obtain ⟨y, hy⟩ : ∃ y, x.toNat = y := ⟨_, rfl⟩
  rw [hy] at hc hx8
  have HY := Lib.hid hy
  have hp := u8_pow (show k % 8 < 8 by omega)
  have hxr := u8_xor y (2 ^ (k % 8)) hx8 (pow8 (by omega))
  have HF := Lib.hid (show flip B k = B.set (k / 8) (UInt8.ofNat (y ^^^ 2 ^ (k % 8))) by unfold flip; rw [hx, Option.getD_some, hy])
  have HZ := Lib.hid (show (((UInt8.ofNat (y ^^^ 2 ^ (k % 8))).toNat : Nat) : Int) = ((y ^^^ 2 ^ (k % 8) : Nat) : Int) by
    have : y ^^^ 2 ^ (k % 8) < 2 ^ 8 := Nat.xor_lt_two_pow (by omega) (pow8 (show k % 8 < 8 by omega))
    rw [UInt8.toNat_ofNat']; congr 1; omega)
  have q1 : IntKind.i64.wrap ((k : Int) / 8) = (k : Int) / 8 := IntWalk.i64_in _ ⟨by omega, by omega⟩
  have q2 : ((k : Int) / 8).toNat = k / 8 := by omega
  have q3 : (0 : Int) ≤ (k : Int) / 8 := by omega
  have q4 : (k : Int) / 8 < (B.length : Int) := by omega
  have q5 : IntKind.i64.wrap ((k : Int) % 8) = (k : Int) % 8 := IntWalk.i64_in _ ⟨by omega, by omega⟩
  have q6 : ((k : Int) % 8).toNat = k % 8 := by omega
  have q7 : (0 : Int) ≤ (k : Int) % 8 := by omega
  have q8 : (k : Int) % 8 < 64 := by omega
  have q0 : (k : Int).tmod 8 = (k : Int) % 8 := Int.tmod_eq_emod_of_nonneg (Int.natCast_nonneg k)
  have q9 : decide ((k : Int) < 0) = false := decide_eq_false (by omega)
  clear h hh hx hy hL
  go_enter Try.func31, Try.ntmps31
  go_wp2_with fail
  refine (Has_any g R n B k _ HH.out HHh.out).mono ?_
  rintro e w' ⟨rfl, rfl⟩
  cases is
  all_goals
    simp only [Bool.not_true, Bool.not_false]
    go_wp2_with fail
    (refine wp_region_still_tail 13 (by kernel_rfl) (by kernel_rfl) ?_; simp only [List.take_succ_cons, List.take_zero, List.drop_succ_cons, List.drop_zero]; change wpStill _ _ (World.drew _) _ _ _; (repeat still_step); (refine wpStill_nil ?_); change wpList _ _ _ _ _ (World.drew _))
    go_wp2
    go_ret
    rw [show bits .xor .u8 (y : Int) (2 ^ (k % 8)) = ((y ^^^ 2 ^ (k % 8) : Nat) : Int) by rw [← hxr]; simp]
    have hk2 : Kept (fun j => j = R) w' (w'.setCell ⟨R, k / 8, none⟩ (.int .u8 ((y ^^^ 2 ^ (k % 8) : Nat) : Int))).drew := ((Kept.refl (fun j => j = R) w').set_ (p := ⟨R, k / 8, none⟩) (fun _ => rfl) _).drew
    have hFL : (flip B k).length = B.length := by rw [HF.out, List.length_set]
    refine ⟨rfl, ⟨by rw [hFL]; exact HH.out.1.kept hk2 hne, ?_, by rw [hFL]; exact HH.out.2.2.1, HH.out.2.2.2⟩, hk2⟩
    have h3 := (HH.out.2.1.set_ (k / 8) (.int .u8 ((y ^^^ 2 ^ (k % 8) : Nat) : Int))).drew
    rw [← HZ.out, bc_set, ← HF.out, HZ.out] at h3
    exact h3
set_option maxRecDepth 100000 in
theorem Pack_any (g R n : Nat) (B : List UInt8) (w : World) (h : Bts w g R n B) :
    Calls Try.prog 35 #[.pointer (some ⟨g, 0, none⟩)] w fun e w' => ∃ v', e = .returned v' ∧ w'.ownsRow w.heap.size 5 1 v' B.length (bc B) ∧ Below w.heap.size w w' := by
  obtain ⟨c0, c1, hg, hR, hne⟩ := h.open_
  have hL := h.2.2.1
  have hn := h.2.2.2
  have HR := Lib.hid (RdB.of_own B h.2.1 hR B.length B.length rfl (Nat.le_refl _) (by unfold maxLen; omega))
  clear h
  have hz : B.length ≤ 140737488355328 := by omega
  clear hL
  go_enter Try.func35, Try.ntmps35
  go_wp2_with fail
  refine (Clone_any _ B _ HR.out hz).mono ?_
  rintro e w1 ⟨v1, rfl, hown, hb⟩
  have HO := Lib.hid hown
  obtain ⟨A, c, rfl⟩ := own_shape hown
  clear hown
  go_wp2
  go_ret
  exact ⟨_, rfl, HO.out, hb⟩
end Go.Proofs.Ytiapoinobdnboaa.Le
