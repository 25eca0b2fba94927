/- The reference's Unpack and Pack. -/
import Derived.Test.YtiapoinobdnboaaLeK
namespace Go.Proofs.Ytiapoinobdnboaa.Le
open Go Go.RowKit Base Mem
set_option linter.unusedSimpArgs false
set_option linter.unusedVariables false
theorem infoBool : (Try.prog.info? 4).map (fun i => (i.zero, i.size, i.bytes)) = some (some (.bool false), 1, 1) := by kernel_rfl
theorem run_makeO (n : Nat) (hn : n ≤ 281474976710656) (w : World) :
    (Instr.makeSlice 56 (.int .i64 (n : Int)) (.int .i64 (n : Int))).run Try.prog w = .ok (.slice (some ⟨w.heap.size, 0, none⟩) n n) (w.alloc (.cells (rowF n fun _ => .bool false) 4)) := by
  obtain ⟨i0, hi0, hz0, hz1, hz2⟩ := info_parts infoBool
  have hr := run_make (P := Try.prog) w 56 4 i0 _ Try.underlying56 hi0 hz0 .i64 .i64 n n (by omega) (by omega) (by rw [hz2]; omega) (by omega)
  simp only [Int.toNat_natCast] at hr
  rw [hr, hz1, Nat.mul_one]
  congr 2
  show Obj.cells (madeCells #[.bool false] n) _ _ = _
  congr 1
  apply Array.toList_inj.1
  rw [toList_madeCells_one]
  simp [rowF, List.map_const']
theorem byte_pad : ∀ (y : Fin 256) (r : Fin 8), 0 < y.val / 2 ^ r.val ↔ ∃ j : Fin 8, r.val ≤ j.val ∧ (y.val / 2 ^ j.val % 2 == 1) = true := by decide +kernel
theorem pad_iff {n : Nat} {B : List UInt8} (hl : B.length = (n + 7) / 8) : padB n B = true ↔ ∃ i, n ≤ i ∧ i < 8 * B.length ∧ bitOf B i = true := by
  have hy := byte_pad ⟨(B[B.length - 1]?.getD 0).toNat, bytes_lt _⟩ ⟨n % 8, by omega⟩
  simp only at hy
  unfold padB
  rw [Bool.and_eq_true, decide_eq_true_eq, decide_eq_true_eq, hy]
  constructor
  · rintro ⟨h0, j, hj, hb⟩
    refine ⟨8 * (n / 8) + j.val, by omega, by have := j.isLt; omega, ?_⟩
    unfold bitOf
    have := j.isLt
    rw [show (8 * (n / 8) + j.val) / 8 = B.length - 1 by omega, show (8 * (n / 8) + j.val) % 8 = j.val by omega]
    exact hb
  · rintro ⟨i, h1, h2, hb⟩
    refine ⟨by omega, ⟨i % 8, by omega⟩, by simp only; omega, ?_⟩
    unfold bitOf at hb
    rw [show i / 8 = B.length - 1 by omega] at hb
    exact hb
theorem bit_past {B : List UInt8} {i : Nat} (h : 8 * B.length ≤ i) : bitOf B i = false := by
  unfold bitOf
  rw [List.getElem?_eq_none (by omega), Option.getD_none]
  simp
set_option maxRecDepth 100000 in
theorem rUnp_len (n : Nat) (v : Value) (l : List UInt8) (w : World) (hn : n ≤ 65536) (hr : RdB w.heap.size w v l) (hl : l.length ≠ (n + 7) / 8) :
    Calls Try.prog 37 #[.int .i64 (n : Int), v] w fun e w' => e = .returned (.tuple #[.slice none 0 0, .bool false]) ∧ w' = w := by
  obtain ⟨A, c, rfl, h1, h2, h3, h4⟩ := id hr
  clear hr h4 h3 h1 h2
  have e1 : IntKind.i64.wrap ((n : Int) + 7) = (n : Int) + 7 := by rw [IntKind.wrap_i64]; omega
  have e2 : ((n : Int) + 7) / 8 = (((n + 7) / 8 : Nat) : Int) := by omega
  have hne : ((l.length : Int) != (((n + 7) / 8 : Nat) : Int)) = true := by simp only [bne_iff_ne, ne_eq]; omega
  generalize (n + 7) / 8 = m at *
  go_enter Try.func37, Try.ntmps37
  go_wp2
  go_ret2
  exact ⟨rfl, rfl⟩
set_option maxRecDepth 100000 in
set_option maxHeartbeats 1000000 in
theorem rUnp_two (n : Nat) (v : Value) (l : List UInt8) (w : World) (hn : n ≤ 65536) (hr : RdB w.heap.size w v l) (hl : l.length = (n + 7) / 8) {b : Bool} (hp : padB n l = b) :
    Calls Try.prog 37 #[.int .i64 (n : Int), v] w fun e w' => (if b then e = .returned (.tuple #[.slice none 0 0, .bool false]) else ∃ v' xs, e = .returned (.tuple #[v', .bool true]) ∧ RdO w'.heap.size w' v' xs ∧ Same n l xs) ∧ Below w.heap.size w w' := by
  obtain ⟨A, c, rfl, h1, h2, h3, h4⟩ := id hr
  unfold maxLen at h2
  clear h4 h3
  have HR := Lib.hid hr
  have HP := Lib.hid (pad_iff hl)
  rw [hp] at HP
  have e1 : IntKind.i64.wrap ((n : Int) + 7) = (n : Int) + 7 := by rw [IntKind.wrap_i64]; omega
  have e2 : ((n : Int) + 7) / 8 = (l.length : Int) := by omega
  have hll : l.length ≤ 8192 := by omega
  have HL := Lib.hid hl
  have hmk := fun W => run_makeO n (by omega) W
  clear hr hp hl
  go_enter Try.func37, Try.ntmps37
  go_wp2
  go_loopw [7] (fun i wr => ∃ j : Nat, j ≤ 8 * l.length ∧ i = .int .i64 (j : Int) ∧ Blk wr w.heap.size 4 (rowF n fun q => .bool (decide (q < j) && bitOf l q)) ∧ (∀ q, n ≤ q → q < j → bitOf l q = false) ∧ Below w.heap.size w wr) (fun i _ => 8 * l.length - (intOf i).toNat)
  case atStart => exact ⟨0, Nat.zero_le _, rfl, by rw [rowF_congr (g := fun _ => .bool false) (fun i _ => by simp)]; exact Blk.new w _ _, fun q a b => by omega, (by repeat (first | exact Below.refl _ _ | (with_reducible refine bel_call ?_ hb1) | (with_reducible refine bel_call ?_ hb2) | (with_reducible refine bel_call ?_ hb3) | (with_reducible refine bel_call ?_ hb4) | (with_reducible refine bel_call ?_ hb5) | (with_reducible refine bel_call ?_ hb6) | (with_reducible refine bel_call ?_ hb7) | (with_reducible refine bel_call ?_ hb8) | (with_reducible refine bel_call ?_ hb9) | (with_reducible refine bel_call ?_ hb10) | (with_reducible refine bel_call ?_ hb11) | (with_reducible refine bel_call ?_ hb12) | (with_reducible refine bel_call ?_ hb) | (with_reducible refine bel_over ?_) | (with_reducible refine bel_alloc ?_ _) | (with_reducible refine bel_drewN ?_ _) | (with_reducible refine bel_drew ?_) | (with_reducible refine bel_set ?_ (by simp; omega) _)))⟩
  case round =>
    obtain ⟨j, hj, rfl, hB, hz, hb⟩ := hrel
    clear e1 e2
    have HB := Lib.hid hB
    have HZ := Lib.hid hz
    have HBe := Lib.hid hb
    have hsz := hB.lt
    have hrr := HR.out.below hb
    have HRR := Lib.hid hrr
    clear hB hz hb hrr
    by_cases hlt : j < 8 * l.length
    · obtain ⟨g', o, x, rfl, hg', hx, hc⟩ := HRR.out.at_ (show j / 8 < l.length by omega)
      obtain ⟨z, hbz⟩ : ∃ z, bitOf l j = z := ⟨_, rfl⟩
      have hzz : z = (x.toNat / 2 ^ (j % 8) % 2 == 1) := by rw [← hbz]; unfold bitOf; rw [hx]; rfl
      have hx8 := bytes_lt x
      clear hx
      generalize x.toNat = y at *
      have q0 : (j : Int).tmod 8 = (j : Int) % 8 := Int.tmod_eq_emod_of_nonneg (Int.natCast_nonneg j)
      have q6 : ((j : Int) % 8).toNat = j % 8 := by omega
      have hlt' : (j : Int) < 8 * (l.length : Int) := by omega
      have hbz' : (((y : Int) / 2 ^ (j % 8)).tmod 2 == 1) = z := by
        rw [hzz, show ((y : Int) / 2 ^ (j % 8)) = ((y / 2 ^ (j % 8) : Nat) : Int) by simp, Int.tmod_eq_emod_of_nonneg (Int.natCast_nonneg _)]
        generalize y / 2 ^ (j % 8) = q
        rw [Bool.eq_iff_iff]; simp only [beq_iff_eq]; omega
      have HZZ := Lib.hid hbz
      clear hzz hbz
      by_cases hjn : j < n
      · have f1 := HB.out.frozen j
        have hjn' : (j : Int) < (n : Int) := by omega
        have c1 : wr.cell? ⟨w.heap.size, j, none⟩ = some (.bool (decide (j < j) && bitOf l j)) := (HB.out.cell j).trans (rowF_at hjn)
        go_wp2
        go_roundw
        case rel =>
          refine ⟨j + 1, by omega, by go_num, ?_, ?_, bel_set HBe.out (Nat.le_refl _) _⟩
          · have h2 := HB.out.set_ j (.bool z)
            rw [rowF_set] at h2
            rw [rowF_congr (g := fun q => if q = j then .bool z else .bool (decide (q < j) && bitOf l q))]
            · exact h2
            · intro i hi
              by_cases e : i = j
              · subst e; rw [if_pos rfl, HZZ.out, decide_eq_true (by omega)]; rfl
              · rw [if_neg e]; congr 2; exact decide_eq_decide.2 (by omega)
          · intro q h3 h4
            omega
        case measure => simp [intOf]; omega
      · have hjn' : (n : Int) ≤ (j : Int) := by omega
        cases z
        · go_wp2
          go_roundw
          case rel =>
            refine ⟨j + 1, by omega, by go_num, ?_, ?_, HBe.out⟩
            · rw [rowF_congr (g := fun q => .bool (decide (q < j) && bitOf l q))]
              · exact HB.out
              · intro i hi
                congr 2; exact decide_eq_decide.2 (by omega)
            · intro q h3 h4
              rcases Nat.lt_or_ge q j with e | e
              · exact HZ.out q h3 e
              · obtain rfl : q = j := by omega
                exact HZZ.out
          case measure => simp [intOf]; omega
        · have hb : b = true := HP.out.2 ⟨j, by omega, hlt, HZZ.out⟩
          subst hb
          go_wp2
          go_ret2
          exact ⟨rfl, HBe.out⟩
    · obtain rfl : j = 8 * l.length := by omega
      have hb : b = false := by
        cases b
        · rfl
        · obtain ⟨i, a1, a2, a3⟩ := HP.out.1 rfl
          rw [HZ.out i a1 a2] at a3; cases a3
      subst hb
      have hge : (8 : Int) * (l.length : Int) ≤ ((8 * l.length : Nat) : Int) := by omega
      have hx : RdO wr.heap.size wr (.slice (some ⟨w.heap.size, 0, none⟩) n n) ((List.range n).map (bitOf l)) := by
        refine Rd1.of_blk HB.out hsz (by simp) (Nat.le_refl _) (by unfold maxLen; omega) ?_
        intro i x hx
        obtain ⟨hi, rfl⟩ := List.getElem?_eq_some_iff.1 hx
        simp only [List.length_map, List.length_range] at hi
        have := HL.out
        rw [Nat.zero_add, rowF_at hi, decide_eq_true (by omega)]
        simp
      have HX := Lib.hid hx
      have HS : Hid (Same n l ((List.range n).map (bitOf l))) := Lib.hid ⟨by simp, fun i hi => by simp [hi], fun i hi => by
        rcases Nat.lt_or_ge i (8 * l.length) with e | e
        · exact HZ.out i hi e
        · exact bit_past e⟩
      clear hx
      go_wp2
      go_ret2
      refine ⟨?_, HBe.out⟩
      first | exact ⟨_, _, rfl, HX.out, HS.out⟩ | exact ⟨_, rfl, _, HX.out, HS.out⟩
end Go.Proofs.Ytiapoinobdnboaa.Le
