/- The walk of CrcBroken. -/
import Derived.Test.YtcmpaebogekdcaaDoorCrcL
import Derived.Test.YtcmpaebogekdcaaDoorCrcD
namespace Go.Proofs.YtcmpaebogekdcaaDoor.Crc
open Go Go.RowKit Base Mem
set_option linter.unusedSimpArgs false
set_option linter.unusedVariables false
theorem split4 (l : List UInt8) (a : Nat) (h : a + 4 ≤ l.length) : ∃ b0 b1 b2 b3, l = l.take a ++ ([b0, b1, b2, b3] ++ l.drop (a + 4)) := by
  refine ⟨l[a], l[a + 1], l[a + 2], l[a + 3], ?_⟩
  have h0 : l.drop a = l[a] :: l.drop (a + 1) := List.drop_eq_getElem_cons (by omega)
  have h1 : l.drop (a + 1) = l[a + 1] :: l.drop (a + 1 + 1) := List.drop_eq_getElem_cons (by omega)
  have h2 : l.drop (a + 2) = l[a + 2] :: l.drop (a + 2 + 1) := List.drop_eq_getElem_cons (by omega)
  have h3 : l.drop (a + 3) = l[a + 3] :: l.drop (a + 3 + 1) := List.drop_eq_getElem_cons (by omega)
  conv => lhs; rw [← List.take_append_drop a l, h0, h1, h2, h3]
  rfl
/-- A list of which k bytes in a row from a on were changed. -/
def xs (p : List UInt8) (a : Nat) (e : Nat → UInt8) : Nat → List UInt8
  | 0 => p
  | k + 1 => (xs p a e k).set (a + k) ((xs p a e k).getD (a + k) 0 ^^^ e k)
theorem xs_length (p : List UInt8) (a : Nat) (e : Nat → UInt8) : ∀ k, (xs p a e k).length = p.length
  | 0 => rfl
  | k + 1 => by rw [xs, List.length_set, xs_length]
theorem xs4 (X Y : List UInt8) (b0 b1 b2 b3 : UInt8) (e : Nat → UInt8) : xs (X ++ ([b0, b1, b2, b3] ++ Y)) X.length e 4 = X ++ ([b0 ^^^ e 0, b1 ^^^ e 1, b2 ^^^ e 2, b3 ^^^ e 3] ++ Y) := by
  simp [xs, List.getD, List.set_append, List.getElem?_append]
theorem head4_inj {s t : Nat} (hs : s < 4294967296) (ht : t < 4294967296) (h : head4 s = head4 t) : s = t := by
  have key : ∀ k, byteOf s k = byteOf t k → s / 2 ^ (8 * k) % 256 = t / 2 ^ (8 * k) % 256 := by
    intro k hk
    have := congrArg UInt8.toNat hk
    simpa [byteOf] using this
  simp only [head4, List.cons.injEq, and_true] at h
  obtain ⟨h0, h1, h2, h3⟩ := h
  have k0 := key 0 h0; have k1 := key 1 h1; have k2 := key 2 h2; have k3 := key 3 h3
  simp only [Nat.mul_zero, Nat.pow_zero, Nat.div_one] at k0
  have e1 : (2 : Nat) ^ (8 * 1) = 256 := rfl
  have e2 : (2 : Nat) ^ (8 * 2) = 65536 := rfl
  have e3 : (2 : Nat) ^ (8 * 3) = 16777216 := rfl
  rw [e1] at k1; rw [e2] at k2; rw [e3] at k3
  omega
theorem broken {l : List UInt8} (hl : l.length ≤ 124) (a o : Nat) (ha : 4 ≤ a) (ha' : a ≤ 124) (ho : o < 4294967296) (h0 : o ≠ 0) : checkB (xs (sealed l) a (byteOf o) 4) = false := by
  unfold checkB
  rw [decide_eq_false_iff_not]
  rintro ⟨_, h⟩
  obtain ⟨c, rfl⟩ : ∃ c, a = c + 4 := ⟨a - 4, by omega⟩
  have hf := fill_length hl
  obtain ⟨b0, b1, b2, b3, hq⟩ := split4 (fill l) c (by omega)
  generalize hX : (fill l).take c = X at hq
  generalize (fill l).drop (c + 4) = Y at hq
  have hXl : X.length = c := by rw [← hX, List.length_take]; omega
  have hp : sealed l = (head4 (sum (fill l)) ++ X) ++ ([b0, b1, b2, b3] ++ Y) := by
    unfold sealed; rw [List.append_assoc]; exact congrArg (fun z => head4 (sum (fill l)) ++ z) hq
  have hm : xs (sealed l) (c + 4) (byteOf o) 4 = head4 (sum (fill l)) ++ (X ++ ([b0 ^^^ byteOf o 0, b1 ^^^ byteOf o 1, b2 ^^^ byteOf o 2, b3 ^^^ byteOf o 3] ++ Y)) := by
    have := xs4 (head4 (sum (fill l)) ++ X) Y b0 b1 b2 b3 (byteOf o)
    rw [← hp, List.length_append, hXl, show (head4 (sum (fill l))).length = 4 from rfl, Nat.add_comm 4 c, List.append_assoc] at this
    exact this
  rw [hm, List.take_left' (by rfl), List.drop_left' (by rfl)] at h
  have hs := head4_inj (sum_lt _) (sum_lt _) h
  have e1 : (2 : Nat) ^ (8 * 1) = 256 := rfl
  have e2 : (2 : Nat) ^ (8 * 2) = 65536 := rfl
  have e3 : (2 : Nat) ^ (8 * 3) = 16777216 := rfl
  have hb := burst ho h0 (0 ^^^ ff) X Y b0 b1 b2 b3 (byteOf o 0) (byteOf o 1) (byteOf o 2) (byteOf o 3) (by simp [byteOf]) (by simp [byteOf]) (by simp [byteOf]) (by simp [byteOf])
  apply hb
  rw [hq] at hs
  unfold sum on at hs
  have h2 := congrArg (fun z => z ^^^ ff) hs
  simp only [ff_ff] at h2
  exact h2.symm
set_option maxRecDepth 100000 in
set_option maxHeartbeats 1000000 in
theorem Broken_yes (w : World) (v : Value) (l : List UInt8) (hr : RdB w.heap.size w v l) (hl : l.length ≤ 124) (a : Nat) (ha : 4 ≤ a) (ha' : a ≤ 124) (o : Nat) (ho : o < 4294967296) (h0 : o ≠ 0) (ht : Tb w) :
    Calls Tryd.prog 9 #[v, .int .i64 (a : Int), .int .u32 (o : Int)] w fun e w' => e = .returned (.bool true) ∧ Below w.heap.size w w' := by
  have HT := Lib.hid ht
  have HR := Lib.hid hr
  clear ht hr
  have HK := Lib.hid (broken hl a o ha ha' ho h0)
  have a0 : (4 : Int) ≤ (a : Int) := by omega
  have a1 : (a : Int) ≤ 124 := by omega
  have a2 : ((o : Int) == 0) = false := by simp; omega
  have a3 : decide ((a : Int) < 4) = false := decide_eq_false (by omega)
  have a4 : decide ((124 : Int) < (a : Int)) = false := decide_eq_false (by omega)
  go_enter Tryd.func9, Tryd.ntmps9
  go_wp2_with fail
  refine (Seal_yes _ l _ HT.out HR.out hl).mono ?_
  rintro e w1 ⟨g, rfl, hg, hB, hb1⟩
  have HT1 := Lib.hid (HT.out.below hb1)
  have HB1 := Lib.hid hB
  clear hB
  go_wp2_with fail
  refine (lives_any _ HT1.out).mono ?_
  rintro e w2 ⟨rfl, hb2⟩
  have HT2 := Lib.hid (HT1.out.below hb2)
  have HB2 := Lib.hid (HB1.out.now hb2)
  have hb12 := bel_call hb1 hb2
  have hs := sealed_len hl
  generalize hp : sealed l = p at *
  have HP := Lib.hid hp
  clear hp hb1 hb2
  have hg' : w.heap.size ≤ g := hg
  go_wp2
  go_loopw [9] (fun i wr => ∃ k : Nat, k ≤ 4 ∧ i = .int .i64 (k : Int) ∧ Blk wr g 5 (bc (xs p a (byteOf o) k)).toArray ∧ Below w.heap.size w wr) (fun i _ => 4 - (intOf i).toNat)
  case atStart => exact ⟨0, by omega, rfl, HB2.out, hb12⟩
  case round =>
    obtain ⟨k, hk, rfl, hB, hb⟩ := hrel
    have HB := Lib.hid hB
    have HT3 := Lib.hid (HT.out.below hb)
    have hsz := hB.lt
    clear hB
    have hxl := xs_length p a (byteOf o) k
    by_cases hlt : k < 4
    · obtain ⟨x, hx⟩ : ∃ x, (xs p a (byteOf o) k)[a + k]? = some x := ⟨_, List.getElem?_eq_getElem (by omega)⟩
      have c1 : wr.cell? ⟨g, a + k, none⟩ = some (.int .u8 (x.toNat : Int)) := by rw [HB.out.cell]; simpa using bc_at hx
      have f1 := HB.out.frozen (a + k)
      have HX := Lib.hid (show xs p a (byteOf o) (k + 1) = (xs p a (byteOf o) k).set (a + k) (x ^^^ byteOf o k) by simp [xs, List.getD, hx])
      clear hx hxl
      have hv := byteOf_val o k
      have hxr : bits .xor .u8 (x.toNat : Int) ((byteOf o k).toNat : Int) = (((x ^^^ byteOf o k).toNat : Nat) : Int) := by
        rw [UInt8.toNat_xor]; exact u8_xor_nat _ _ (bytes_lt _) (bytes_lt _)
      have k0 : (0 : Int) ≤ (k : Int) := Int.natCast_nonneg _
      have k1 : (k : Int) < 4 := by omega
      have k2 : IntKind.i64.wrap ((a : Int) + (k : Int)) = (a : Int) + (k : Int) := IntWalk.i64_in _ ⟨by omega, by omega⟩
      have k6 : IntKind.i64.wrap (8 * (k : Int)) = 8 * (k : Int) := IntWalk.i64_in _ ⟨by omega, by omega⟩
      have k3 : (a : Int) + (k : Int) < 128 := by omega
      have k4 : (0 : Int) ≤ (a : Int) + (k : Int) := by omega
      have k5 : ((a : Int) + (k : Int)).toNat = a + k := by omega
      go_wp2_with fail
      (refine wp_region_still_tail 17 (by kernel_rfl) (by kernel_rfl) ?_; simp only [List.take_succ_cons, List.take_zero, List.drop_succ_cons, List.drop_zero]; change wpStill _ _ (World.drew _) _ _ _; (repeat still_step); (refine wpStill_nil ?_); change wpList _ _ _ _ _ (World.drew _))
      go_wp2
      go_roundw
      case rel =>
        refine ⟨k + 1, by omega, by go_num, ?_, bel_set (bel_drew hb) hg' _⟩
        · have h2 := HB.out.drew.set_ (a + k) (.int .u8 ((x ^^^ byteOf o k).toNat : Int))
          rw [bc_set, ← HX.out] at h2
          exact h2
      case measure => simp [intOf]; omega
    · obtain rfl : k = 4 := by omega
      have hR4 := Lib.hid (RdB.of_own (B := wr.heap.size) (xs p a (byteOf o) 4) HB.out hsz 128 128 (by rw [hxl]; exact hs) (by omega) (by simp [maxLen]))
      go_wp2_with fail
      refine (Check_any _ _ _ HT3.out hR4.out).mono ?_
      rw [HK.out]
      rintro e w3 ⟨rfl, hb3⟩
      go_wp2
      go_ret
      exact ⟨rfl, bel_call hb hb3⟩
set_option maxRecDepth 100000 in
theorem Broken_arg (w : World) (v : Value) (l : List UInt8) (hr : RdB w.heap.size w v l) (hl : l.length ≤ 124) (a : Int) (o : Nat) (ho : o < 4294967296) (h : a < 4 ∨ 124 < a ∨ o = 0) (ht : Tb w) :
    Calls Tryd.prog 9 #[v, .int .i64 a, .int .u32 (o : Int)] w fun e w' => e = .returned (.bool true) ∧ Below w.heap.size w w' := by
  have HT := Lib.hid ht
  have HR := Lib.hid hr
  clear ht hr
  have h' : (decide (a < 4) = true) ∨ (decide (a < 4) = false ∧ decide (124 < a) = true) ∨ (decide (a < 4) = false ∧ decide (124 < a) = false ∧ o = 0) := by
    by_cases h1 : a < 4
    · left; simpa using h1
    · by_cases h2 : 124 < a
      · right; left; simp; omega
      · right; right; simp; omega
  clear h
  rcases h' with h1 | ⟨h1, h2⟩ | ⟨h1, h2, rfl⟩
  all_goals
    go_enter Tryd.func9, Tryd.ntmps9
    go_wp2_with fail
    refine (Seal_yes _ l _ HT.out HR.out hl).mono ?_
    rintro e w1 ⟨g, rfl, hg, hB, hb1⟩
    have HT1 := Lib.hid (HT.out.below hb1)
    clear hB hg
    go_wp2_with fail
    refine (lives_any _ HT1.out).mono ?_
    rintro e w2 ⟨rfl, hb2⟩
    have HT2 := Lib.hid (HT1.out.below hb2)
    go_wp2_with fail
    refine (lives_any _ HT2.out).mono ?_
    rintro e w3 ⟨rfl, hb3⟩
    go_wp2
    go_ret
    exact ⟨rfl, bel_call (bel_call hb1 hb2) hb3⟩
set_option maxRecDepth 100000 in
theorem Broken_no (w : World) (v : Value) (l : List UInt8) (hr : RdB w.heap.size w v l) (hl : ¬ l.length ≤ 124) (a : Int) (o : Nat) (ho : o < 4294967296) (ht : Tb w) :
    Calls Tryd.prog 9 #[v, .int .i64 a, .int .u32 (o : Int)] w fun e w' => e = .returned (.bool true) ∧ Below w.heap.size w w' := by
  have HT := Lib.hid ht
  have HR := Lib.hid hr
  clear ht hr
  go_enter Tryd.func9, Tryd.ntmps9
  go_wp2_with fail
  refine (Seal_no _ l _ HR.out hl).mono ?_
  rintro e w1 ⟨rfl, rfl⟩
  go_wp2_with fail
  refine (lives_any _ HT.out).mono ?_
  rintro e w2 ⟨rfl, hb2⟩
  have HT2 := Lib.hid (HT.out.below hb2)
  go_wp2_with fail
  refine (lives_any _ HT2.out).mono ?_
  rintro e w3 ⟨rfl, hb3⟩
  go_wp2
  go_ret
  exact ⟨rfl, bel_call hb2 hb3⟩
theorem CrcBroken_walk (w : World) (v : Value) (l : List UInt8) (hr : RdB w.heap.size w v l) (hz : l.length * 1 ≤ 140737488351232) (a : Int) (ha : (Lit.int .i64 a).wf = true) (o : Nat) (ho : o < 4294967296) (ht : Tb w) :
    Calls Tryd.prog 9 #[v, .int .i64 a, .int .u32 (o : Int)] w fun e w' => e = .returned (.bool true) ∧ Below w.heap.size w w' := by
  by_cases hl : l.length ≤ 124
  · by_cases h : a < 4 ∨ 124 < a ∨ o = 0
    · exact Broken_arg w v l hr hl a o ho h ht
    · obtain ⟨k, rfl⟩ := Int.eq_ofNat_of_zero_le (show 0 ≤ a by omega)
      exact Broken_yes w v l hr hl k (by omega) (by omega) o ho (by omega) ht
  · exact Broken_no w v l hr hl a o ho ht
end Go.Proofs.YtcmpaebogekdcaaDoor.Crc
