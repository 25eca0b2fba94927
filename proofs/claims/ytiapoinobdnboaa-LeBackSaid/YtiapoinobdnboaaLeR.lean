/- The reference's Writer: Put, Bytes, Done. -/
import Derived.Test.YtiapoinobdnboaaLeX
import Derived.Deep.RegionLaw
import Derived.Laws.BitsAllLaws
namespace Go.Proofs.Ytiapoinobdnboaa.Le
open Go Go.RowKit Base Mem
set_option linter.unusedSimpArgs false
set_option linter.unusedVariables false
/-- A writer of the reference: its block, its row. -/
def WrR (w : World) (g : Nat) (r : Option Nat) (l : List UInt8) (room : Int) (bad : Bool) : Prop :=
  ∃ v, v.ownBlock = r ∧ Blk w g 48 #[.int .i64 room, v, .bool bad] ∧ w.ownsRow 0 5 1 v l.length (bc l)
theorem WrR.open_ {w : World} {g : Nat} {r : Option Nat} {l : List UInt8} {room : Int} {bad : Bool} (h : WrR w g r l room bad) :
    ∃ A c, (Value.slice A l.length c).ownBlock = r ∧ Blk w g 48 #[.int .i64 room, .slice A l.length c, .bool bad] ∧ w.ownsRow 0 5 1 (.slice A l.length c) l.length (bc l) ∧
      w.cell? ⟨g, 0, none⟩ = some (.int .i64 room) ∧ w.cell? ⟨g, 1, none⟩ = some (.slice A l.length c) ∧ w.cell? ⟨g, 2, none⟩ = some (.bool bad) ∧ g < w.heap.size := by
  obtain ⟨v, hv, hB, hown⟩ := h
  obtain ⟨A, c, rfl⟩ := own_shape hown
  exact ⟨A, c, hv, hB, hown, by rw [hB.cell]; rfl, by rw [hB.cell]; rfl, by rw [hB.cell]; rfl, hB.lt⟩
theorem WrR.fault {w : World} {g : Nat} {r : Option Nat} {l : List UInt8} {room : Int} {bad : Bool} (h : WrR w g r l room bad) (nq : Nat) :
    WrR ((w.setCell ⟨g, 2, none⟩ (.bool true)).drewN nq) g r l room true ∧ Kept (fun k => k = g) w ((w.setCell ⟨g, 2, none⟩ (.bool true)).drewN nq) := by
  obtain ⟨v, hv, hB, hown⟩ := h
  have hne := own_blk_ne hown hB (by decide)
  have hk : Kept (fun k => k = g) w (w.setCell ⟨g, 2, none⟩ (.bool true)) := (Kept.refl (fun k => k = g) w).set_ (p := ⟨g, 2, none⟩) (fun _ => rfl) _
  exact ⟨⟨_, hv, (hB.set_ 2 (.bool true)).drewN nq, own_kept hown (hk.drewN nq) (fun k hk2 e => by subst e; exact hne hk2)⟩, hk.drewN nq⟩
theorem WrR_store {w : World} {g : Nat} {old v : Value} {l : List UInt8} {room : Int} {bad : Bool} (hB : Blk w g 48 #[.int .i64 room, old, .bool bad]) (ho : w.ownsRow 0 5 1 v l.length (bc l)) :
    WrR (w.setCell ⟨g, 1, none⟩ v) g v.ownBlock l room bad := by
  refine ⟨v, rfl, hB.set_ 1 v, ?_⟩
  have hk : Kept (fun k => k = g) w (w.setCell ⟨g, 1, none⟩ v) := (Kept.refl (fun k => k = g) w).set_ (p := ⟨g, 1, none⟩) (fun _ => rfl) v
  exact own_kept ho hk (fun k hk2 e => by subst e; exact own_blk_ne ho hB (by decide) hk2)
theorem rput_blk {w w2 : World} {g : Nat} {A : Option Addr} {n c : Nat} {cs : Array Value} {xs : List Value} (hB : Blk w g 48 cs) (ho : w.ownsRow 0 5 1 (.slice A n c) n xs) (hg : w.grownBy w2 (Value.slice A n c).ownBlock) : Blk w2 g 48 cs :=
  (hg.block g hB.lt (fun e => own_blk_ne ho hB (by decide) e.symm)).trans hB
theorem rput_kept {w0 w w2 : World} {g : Nat} {r r' : Option Nat} {v : Value} (hk : Kept (fun k => k = g ∨ r = some k) w0 w) (hs : RowStep w0 r r') (hg : w.grownBy w2 r') : Kept (fun k => k = g ∨ r = some k) w0 (w2.setCell ⟨g, 1, none⟩ v) := by
  refine (hk.grown hg ?_).set_ (fun _ => .inl rfl) _
  intro k hk2 hlt
  rcases hs with rfl | ⟨j, rfl, hj⟩
  · exact .inr hk2
  · cases hk2; omega
theorem rput_step {w : World} {o : Obj} {r r2 : Option Nat} (h : r2 = r ∨ r2 = some (w.alloc o).drew.heap.size) : RowStep w r r2 := by
  rcases h with h | h
  · exact .inl h
  · exact .inr ⟨_, h, by show w.heap.size ≤ (w.alloc o).heap.size; simp⟩
set_option maxRecDepth 100000 in
theorem rsize_b (n : Int) (b : Bool) (w : World) (hb : sizeB n = b) : Calls Try.prog 43 #[.int .i64 n] w fun e w' => e = .returned (.bool b) ∧ w' = w := by
  subst hb
  by_cases h : sizeB n = true
  · have H := Lib.hid h
    rcases sizeB_cases h with rfl | rfl | rfl | rfl
    all_goals
      clear h
      go_enter Try.func43, Try.ntmps43
      go_wp2
      go_ret
      exact ⟨by rw [H.out]; rfl, rfl⟩
  · have h' : sizeB n = false := by simpa using h
    obtain ⟨h1, h2, h3, h4⟩ := sizeB_no h'
    have H := Lib.hid h'
    have e1 : (n == 1) = false := by simpa using h1
    have e2 : (n == 2) = false := by simpa using h2
    have e3 : (n == 4) = false := by simpa using h3
    have e4 : (n == 8) = false := by simpa using h4
    clear h h' h1 h2 h3 h4
    go_enter Try.func43, Try.ntmps43
    go_wp2
    go_ret
    exact ⟨by rw [H.out]; rfl, rfl⟩
set_option maxRecDepth 100000 in
set_option maxHeartbeats 2000000 in
theorem rPut_yes (g : Nat) (r : Option Nat) (l : List UInt8) (room : Int) (size n : Nat) (w : World) (hW : WrR w g r l room false) (hr : room ≤ 65536) (hs : sizeB size = true) (hok : (size : Int) ≤ room - l.length) (hn : n < 18446744073709551616) :
    Calls Try.prog 24 #[.pointer (some ⟨g, 0, none⟩), .int .i64 (size : Int), .int .u64 (n : Int)] w fun e w' => e = .returned (.tuple #[]) ∧ ∃ r', WrR w' g r' (l ++ leb size n) room false ∧ RowStep w r r' ∧ Kept (fun k => k = g ∨ r = some k) w w' := by
  obtain ⟨A, c, hv, hB, hown, c0, c1, c2, hsz⟩ := hW.open_
  have HB := Lib.hid hB
  have HO := Lib.hid hown
  have HV := Lib.hid hv
  have hsz8 : size ≤ 8 := by have := sizeB_cases hs; omega
  have ht : decide (room - (l.length : Int) < (size : Int)) = false := decide_eq_false (by omega)
  have hw : IntKind.i64.wrap (room - (l.length : Int)) = room - (l.length : Int) := IntWalk.i64_in _ ⟨by omega, by omega⟩
  have HS := Lib.hid hs
  clear hB hown hv hs hW
  go_enter Try.func24, Try.ntmps24
  go_wp2_with fail
  go_quiet ((go_at_call 43; exact Calls.quiet_of_same (rsize_b _ _ _ HS.out)))
  go_wp2_with fail
  go_loopw [6] (fun i wr => ∃ (k : Nat) (r' : Option Nat), k ≤ size ∧ i = .int .i64 (k : Int) ∧ WrR wr g r' (l ++ (leb size n).take k) room false ∧ RowStep w r r' ∧ Kept (fun k => k = g ∨ r = some k) w wr) (fun i _ => size - (intOf i).toNat)
  case atStart => exact ⟨0, r, by omega, rfl, ⟨_, HV.out, HB.out.drewN _, by rw [List.take_zero, List.append_nil]; exact HO.out⟩, .inl rfl, (Kept.refl _ _).drewN _⟩
  case round =>
    obtain ⟨k, r', hk, rfl, hWr, hst, hkp⟩ := hrel
    have hlen : (l ++ (leb size n).take k).length = l.length + k := by rw [List.length_append, List.length_take, leb_length]; omega
    obtain ⟨A', c', hv', hB', hown', d0, d1, d2, hsz'⟩ := hWr.open_
    have HB' := Lib.hid hB'
    have HO' := Lib.hid hown'
    have HV' := Lib.hid hv'
    have HST := Lib.hid hst
    clear hB' hown' hv' hst hWr
    by_cases hlt : k < size
    · have HT := Lib.hid (show (l ++ (leb size n).take k) ++ [UInt8.ofNat (n / 256 ^ k)] = l ++ (leb size n).take (k + 1) by rw [leb_take hlt, List.append_assoc])
      have HL := Lib.hid hlen
      clear hlen
      have hbv : (n : Int) / 2 ^ (8 * k) % 256 = ((UInt8.ofNat (n / 256 ^ k)).toNat : Int) := by
        rw [← byte_val, show (256 : Nat) ^ k = 2 ^ (8 * k) by rw [Nat.pow_mul]]
        simp
      have hbw : IntKind.u8.wrap ((n : Int) / 2 ^ (8 * k)) = ((UInt8.ofNat (n / 256 ^ k)).toNat : Int) := by rw [IntKind.wrap_u8']; exact hbv
      have k7 : (8 * (k : Int)).toNat = 8 * k := by omega
      generalize UInt8.ofNat (n / 256 ^ k) = x at *
      generalize hL' : l ++ (leb size n).take k = l' at *
      have HL' := Lib.hid hL'
      clear hL'
      have k0 : (0 : Int) ≤ (k : Int) := Int.natCast_nonneg _
      have k1 : (k : Int) < (size : Int) := by omega
      have k6 : IntKind.i64.wrap (8 * (k : Int)) = 8 * (k : Int) := IntWalk.i64_in _ ⟨by omega, by omega⟩
      have hbytes : l'.length + [x].length ≤ 140737488355328 := by rw [HL.out]; simp; omega
      have f1 := HB'.out.frozen 1
      go_wp2_with fail
      have hO2 : ((wr.alloc (.cells #[.int .u8 (x.toNat : Int)] 5)).drew).ownsRow 0 5 1 (.slice A' l'.length c') l'.length (bc l') := HO'.out.alloc _
      have hR2 : RdB (wr.heap.size + 1) ((wr.alloc (.cells #[.int .u8 (x.toNat : Int)] 5)).drew) (.slice (some ⟨wr.heap.size, 0, none⟩) 1 1) [x] := by
        have := RdB_one (w := wr) x
        have e : (wr.alloc (.cells #[.int .u8 (x.toNat : Int)] 5)).heap.size = wr.heap.size + 1 := by simp
        rw [e] at this
        exact this
      have HO2 := Lib.hid hO2
      have HR2 := Lib.hid hR2
      clear hO2 hR2
      go_region_law (refine step_appendB rfl (.tmp 42) (.tmp 48) rfl 0 l' [x] (.slice A' l'.length c') (.slice (some ⟨wr.heap.size, 0, none⟩) 1 1) (by simp [Act.eval, Act.put]) (by simp [Act.eval, Act.put]) HO2.out _ HR2.out hbytes (Nat.zero_le _) ?_; intro v2 w2 hown2 hg2 hat2; have HG2 := Lib.hid hg2; have HA2 := Lib.hid hat2; clear hg2 hat2; have hb2 := rput_blk ((HB'.out.alloc (.cells #[.int .u8 (x.toNat : Int)] 5)).drew) HO2.out HG2.out; have HB2 := Lib.hid hb2; clear hb2; have e1 : w2.cell? ⟨g, 1, none⟩ = some (.slice A' l'.length c') := (by rw [HB2.out.cell]; rfl); have f1 := HB2.out.frozen 1; obtain ⟨A2, c2', hv2⟩ := own_shape hown2.out; rw [List.length_append, List.length_singleton] at hv2; subst hv2)
      all_goals
        go_wp2
        go_roundw
        case rel =>
          refine ⟨k + 1, (Value.slice A2 (l'.length + 1) c2').ownBlock, by omega, by go_num, ?_, ?_, ?_⟩
          · rw [← HT.out]; exact WrR_store HB2.out hown2.out
          · exact HST.out.trans (by rw [← HV'.out]; exact rput_step HA2.out) hkp.size
          · exact rput_kept ((hkp.alloc (.cells #[.int .u8 (x.toNat : Int)] 5)).drew) HST.out (by rw [← HV'.out]; exact HG2.out)
        case measure => simp [intOf]; omega
    · obtain rfl : k = size := by omega
      have hT := List.take_of_length_le (l := leb k n) (i := k) (by rw [leb_length]; omega)
      have HTT := Lib.hid hT
      clear hT
      go_wp2
      go_end0
      exact ⟨rfl, r', (by rw [← HTT.out]; exact ⟨_, HV'.out, HB'.out, HO'.out⟩), HST.out, hkp⟩
set_option maxRecDepth 100000 in
set_option maxHeartbeats 1000000 in
theorem rPut_no (g : Nat) (r : Option Nat) (l : List UInt8) (room : Int) (bad : Bool) (size : Int) (n : Nat) (w : World) (hW : WrR w g r l room bad) (h0 : 0 ≤ room) (hr : room ≤ 65536) (hok : putOk room l bad size = false) (hll : l.length ≤ 65536) :
    Calls Try.prog 24 #[.pointer (some ⟨g, 0, none⟩), .int .i64 size, .int .u64 (n : Int)] w fun e w' => e = .returned (.tuple #[]) ∧ WrR w' g r l room true ∧ Kept (fun k => k = g) w w' := by
  obtain ⟨A, c, hv, hB, hown, c0, c1, c2, hsz⟩ := hW.open_
  have f2 := hB.frozen 2
  have hw : IntKind.i64.wrap (room - (l.length : Int)) = room - (l.length : Int) := IntWalk.i64_in _ ⟨by omega, by omega⟩
  have FIN := Lib.hid (fun nq => hW.fault nq)
  have hh : bad = true ∨ (bad = false ∧ sizeB size = false) ∨ (bad = false ∧ sizeB size = true ∧ decide (room - (l.length : Int) < size) = true) := by
    cases bad with
    | true => exact .inl rfl
    | false =>
      by_cases hs : sizeB size = true
      · refine .inr (.inr ⟨rfl, hs, ?_⟩)
        have h2 : decide (size ≤ room - (l.length : Int)) = false := by simpa [putOk, hs] using hok
        have := of_decide_eq_false h2
        exact decide_eq_true (by omega)
      · exact .inr (.inl ⟨rfl, by simpa using hs⟩)
  clear hok hW hB hown hv
  rcases hh with rfl | ⟨rfl, hs⟩ | ⟨rfl, hs, ht⟩
  all_goals
    (try have HS := Lib.hid hs)
    (try clear hs)
    go_enter Try.func24, Try.ntmps24
    go_wp2_with fail
    (first | go_quiet (fail) | go_quiet ((go_at_call 43; exact Calls.quiet_of_same (rsize_b _ _ _ HS.out))))
    go_wp2_with fail
    refine bodyPost_ret (results_none rfl _ _ _) rfl ?_
    exact ⟨rfl, FIN.out _⟩
set_option maxRecDepth 100000 in
set_option maxHeartbeats 1000000 in
theorem rBytes_yes (g : Nat) (r : Option Nat) (l : List UInt8) (room : Int) (v : Value) (b : List UInt8) (w : World) (hW : WrR w g r l room false) (hr : room ≤ 65536) (hb : RdB w.heap.size w v b) (hok : (b.length : Int) ≤ room - l.length) :
    Calls Try.prog 26 #[.pointer (some ⟨g, 0, none⟩), v] w fun e w' => e = .returned (.tuple #[]) ∧ ∃ r', WrR w' g r' (l ++ b) room false ∧ RowStep w r r' ∧ Kept (fun k => k = g ∨ r = some k) w w' := by
  obtain ⟨A, c, hv, hB, hown, c0, c1, c2, hsz⟩ := hW.open_
  obtain ⟨Ab, cb, rfl, -, -, -, -⟩ := id hb
  have HR := Lib.hid hb
  have HB := Lib.hid hB
  have HO := Lib.hid hown
  have HV := Lib.hid hv
  have ht : decide (room - (l.length : Int) < (b.length : Int)) = false := decide_eq_false (by omega)
  have hw : IntKind.i64.wrap (room - (l.length : Int)) = room - (l.length : Int) := IntWalk.i64_in _ ⟨by omega, by omega⟩
  clear hB hown hv hb hW
  go_enter Try.func26, Try.ntmps26
  go_wp2_with fail
  go_quiet (fail)
  go_wp2_with (refine wpList_appendB (o := ⟨some 32, _, _, _, _, _⟩) rfl (.tmp 30) (.tmp 31) rfl 0 l b (.slice A l.length c) (.slice Ab b.length cb) rfl rfl HO.out w.heap.size HR.out (by omega) (Nat.zero_le _) ?_; intro v2 w2 hown2 hg2 hat2; have HG2 := Lib.hid hg2; have HA2 := Lib.hid hat2; clear hg2 hat2; have hb2 := rput_blk (HB.out.drewN nq) HO.out HG2.out; have HB2 := Lib.hid hb2; clear hb2; have e1 : w2.cell? ⟨g, 1, none⟩ = some (.slice A l.length c) := (by rw [HB2.out.cell]; rfl); have f1 := HB2.out.frozen 1; obtain ⟨A2, c2', hv2⟩ := own_shape hown2.out; rw [List.length_append] at hv2; subst hv2)
  go_end0
  refine ⟨rfl, (Value.slice A2 (l.length + b.length) c2').ownBlock, WrR_store HB2.out hown2.out, ?_, ?_⟩
  · rw [← HV.out]; exact step_of (w := w) HA2.out
  · exact rput_kept ((Kept.refl (fun k => k = g ∨ r = some k) w).drewN nq) (.inl rfl) (by rw [← HV.out]; exact HG2.out)
set_option maxRecDepth 100000 in
theorem rBytes_no (g : Nat) (r : Option Nat) (l : List UInt8) (room : Int) (bad : Bool) (v : Value) (b : List UInt8) (w : World) (hW : WrR w g r l room bad) (h0 : 0 ≤ room) (hr : room ≤ 65536) (hb : RdB w.heap.size w v b) (hok : bytesOk room l bad b = false) (hll : l.length ≤ 65536) :
    Calls Try.prog 26 #[.pointer (some ⟨g, 0, none⟩), v] w fun e w' => e = .returned (.tuple #[]) ∧ WrR w' g r l room true ∧ Kept (fun k => k = g) w w' := by
  obtain ⟨A, c, hv, hB, hown, c0, c1, c2, hsz⟩ := hW.open_
  obtain ⟨Ab, cb, rfl, hbc, hbm, -, -⟩ := id hb
  unfold maxLen at hbm
  have f2 := hB.frozen 2
  have hw : IntKind.i64.wrap (room - (l.length : Int)) = room - (l.length : Int) := IntWalk.i64_in _ ⟨by omega, by omega⟩
  have FIN := Lib.hid (fun nq => hW.fault nq)
  have hh : bad = true ∨ (bad = false ∧ decide (room - (l.length : Int) < (b.length : Int)) = true) := by
    cases bad with
    | true => exact .inl rfl
    | false =>
      have h2 : decide ((b.length : Int) ≤ room - (l.length : Int)) = false := by simpa [bytesOk] using hok
      have := of_decide_eq_false h2
      exact .inr ⟨rfl, decide_eq_true (by omega)⟩
  clear hok hW hb hB hown hv
  rcases hh with rfl | ⟨rfl, ht⟩
  all_goals
    go_enter Try.func26, Try.ntmps26
    go_wp2_with fail
    go_quiet (fail)
    go_wp2_with fail
    refine bodyPost_ret (results_none rfl _ _ _) rfl ?_
    exact ⟨rfl, FIN.out _⟩
end Go.Proofs.Ytiapoinobdnboaa.Le
