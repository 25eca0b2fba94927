/- le.Writer: New, Put, Bytes, Len, Done. -/
import Derived.Test.YtiapoinobdnboaaByt
import Derived.Test.YtiapoinobdnboaaLeP
import Derived.StillTailTactics
import Derived.WalkMore
import Derived.ScopeJumps
import Derived.Outline
namespace Go.Proofs.Ytiapoinobdnboaa.Le
open Go Go.RowKit Base Mem
set_option linter.unusedSimpArgs false
set_option linter.unusedVariables false
/-- A writer: its block, its row. -/
def WrI (w : World) (g : Nat) (r : Option Nat) (l : List UInt8) (room : Int) (bad : Bool) : Prop :=
  ∃ v, v.ownBlock = r ∧ Blk w g 69 #[v, .int .i64 room, .bool bad] ∧ w.ownsRow 0 5 1 v l.length (bc l)
theorem WrI_store {w : World} {g : Nat} {old v : Value} {l : List UInt8} {room : Int} {bad : Bool} (hB : Blk w g 69 #[old, .int .i64 room, .bool bad]) (ho : w.ownsRow 0 5 1 v l.length (bc l)) :
    WrI (w.setCell ⟨g, 0, none⟩ v) g v.ownBlock l room bad := by
  refine ⟨v, rfl, hB.set_ 0 v, ?_⟩
  have hk : Kept (fun k => k = g) w (w.setCell ⟨g, 0, none⟩ v) := (Kept.refl (fun k => k = g) w).set_ (p := ⟨g, 0, none⟩) (fun _ => rfl) v
  exact own_kept ho hk (fun k hk2 e => by subst e; exact own_blk_ne ho hB (by decide) hk2)
theorem put_blk {w w2 : World} {g : Nat} {A : Option Addr} {n c : Nat} {cs : Array Value} {xs : List Value} {o : Obj} (hB : Blk w g 69 cs) (ho : w.ownsRow 0 5 1 (.slice A n c) n xs) (hg : (w.alloc o).grownBy w2 (Value.slice A n c).ownBlock) : Blk w2 g 69 cs := by
  have h1 := hB.alloc o
  exact (hg.block g h1.lt (fun e => own_blk_ne ho hB (by decide) e.symm)).trans h1
theorem put_step {w : World} {o : Obj} {r r2 : Option Nat} (h : r2 = r ∨ r2 = some (w.alloc o).heap.size) : RowStep w r r2 := by
  rcases h with h | h
  · exact .inl h
  · exact .inr ⟨_, h, by simp⟩
theorem put_kept {w0 w w2 : World} {g : Nat} {r r' : Option Nat} {o : Obj} {v : Value} (hk : Kept (fun k => k = g ∨ r = some k) w0 w) (hs : RowStep w0 r r') (hg : (w.alloc o).grownBy w2 r') : Kept (fun k => k = g ∨ r = some k) w0 (w2.setCell ⟨g, 0, none⟩ v) := by
  refine ((hk.alloc o).grown hg ?_).set_ (fun _ => .inl rfl) _
  intro k hk2 hlt
  rcases hs with rfl | ⟨j, rfl, hj⟩
  · exact .inr hk2
  · cases hk2; omega
set_option maxRecDepth 100000 in
theorem isSize_any (n : Int) (w : World) : Calls Try.prog 39 #[.int .i64 n] w fun e w' => e = .returned (.bool (sizeB n)) ∧ w' = w := by
  by_cases h : sizeB n = true
  · have H := Lib.hid h
    rcases sizeB_cases h with rfl | rfl | rfl | rfl
    all_goals
      clear h
      go_enter Try.func39, Try.ntmps39
      go_wp2
      go_ret
      exact ⟨by rw [H.out]; rfl, rfl⟩
  · have h' : sizeB n = false := by simpa using h
    obtain ⟨h1, h2, h3, h4⟩ := sizeB_no h'
    have H := Lib.hid h'
    have e1 : (n == 1) = false := by simpa using h1
    have e2 : (n == 2) = false := by simpa using h2
    have e3 : (n == 4) = false := by simpa using h3
    have e4 : (n == 8) = false := by simpa using h4
    clear h h' h1 h2 h3 h4
    go_enter Try.func39, Try.ntmps39
    go_wp2
    go_ret
    exact ⟨by rw [H.out]; rfl, rfl⟩
theorem isSize_b (n : Int) (b : Bool) (w : World) (h : sizeB n = b) : Calls Try.prog 39 #[.int .i64 n] w fun e w' => e = .returned (.bool b) ∧ w' = w := by
  subst h; exact isSize_any n w
set_option maxRecDepth 100000 in
theorem New_yes (n : Int) (w : World) (h0 : 0 ≤ n) (h1 : n ≤ 65536) :
    Calls Try.prog 10 #[.int .i64 n] w fun e w' => ∃ g, e = .returned (.pointer (some ⟨g, 0, none⟩)) ∧ w.heap.size ≤ g ∧ WrI w' g none [] n false ∧ Below w.heap.size w w' := by
  go_enter Try.func10, Try.ntmps10
  go_wp2
  go_ret
  exact ⟨w.heap.size, rfl, Nat.le_refl _, ⟨.slice none 0 0, rfl, Blk.new w _ _, ⟨rfl, .inl ⟨rfl, rfl⟩⟩⟩, (by repeat (first | exact Below.refl _ _ | (with_reducible refine bel_call ?_ hb1) | (with_reducible refine bel_call ?_ hb2) | (with_reducible refine bel_call ?_ hb3) | (with_reducible refine bel_call ?_ hb4) | (with_reducible refine bel_call ?_ hb5) | (with_reducible refine bel_call ?_ hb6) | (with_reducible refine bel_call ?_ hb7) | (with_reducible refine bel_call ?_ hb8) | (with_reducible refine bel_call ?_ hb9) | (with_reducible refine bel_call ?_ hb10) | (with_reducible refine bel_call ?_ hb11) | (with_reducible refine bel_call ?_ hb12) | (with_reducible refine bel_call ?_ hb) | (with_reducible refine bel_over ?_) | (with_reducible refine bel_alloc ?_ _) | (with_reducible refine bel_drewN ?_ _) | (with_reducible refine bel_drew ?_) | (with_reducible refine bel_set ?_ (by simp; omega) _)))⟩
set_option maxRecDepth 100000 in
theorem New_no (n : Int) (w : World) (h : n < 0 ∨ 65536 < n) :
    Calls Try.prog 10 #[.int .i64 n] w fun e w' => e = .returned (.pointer none) ∧ w = w' := by
  rcases h with h | h
  · go_enter Try.func10, Try.ntmps10
    go_wp2
    go_ret
    exact ⟨rfl, rfl⟩
  · have h' : ¬ n < 0 := by omega
    go_enter Try.func10, Try.ntmps10
    go_wp2
    go_ret
    exact ⟨rfl, rfl⟩
set_option maxRecDepth 100000 in
set_option maxHeartbeats 1000000 in
theorem Put_yes (g : Nat) (r : Option Nat) (l : List UInt8) (room : Int) (size n : Nat) (w : World) (hW : WrI w g r l room false) (hr : room ≤ 65536) (hs : sizeB size = true) (hok : (size : Int) ≤ room - l.length) (hn : n < 18446744073709551616) :
    Calls Try.prog 11 #[.pointer (some ⟨g, 0, none⟩), .int .i64 (size : Int), .int .u64 (n : Int)] w fun e w' => e = .returned (.pointer (some ⟨g, 0, none⟩)) ∧ ∃ r', WrI w' g r' (l ++ leb size n) room false ∧ RowStep w r r' ∧ Kept (fun k => k = g ∨ r = some k) w w' := by
  obtain ⟨v, hv, hB, hown⟩ := hW
  obtain ⟨A, c, rfl⟩ := own_shape hown
  have HB := Lib.hid hB
  have HO := Lib.hid hown
  have HV := Lib.hid hv
  have c0 : w.cell? ⟨g, 0, none⟩ = some (.slice A l.length c) := by rw [HB.out.cell]; rfl
  have c1 : w.cell? ⟨g, 1, none⟩ = some (.int .i64 room) := by rw [HB.out.cell]; rfl
  have c2 : w.cell? ⟨g, 2, none⟩ = some (.bool false) := by rw [HB.out.cell]; rfl
  have hsz := hB.lt
  have ht : decide (room - (l.length : Int) < (size : Int)) = false := decide_eq_false (by omega)
  have hw : IntKind.i64.wrap (room - (l.length : Int)) = room - (l.length : Int) := IntWalk.i64_in _ ⟨by omega, by omega⟩
  have HS := Lib.hid hs
  clear hB hown hv hs
  go_enter Try.func11, Try.ntmps11
  go_wp2_with fail
  go_step3
  go_wp2_with fail
  go_quiet ((go_at_call 39; exact Calls.quiet_of_same (isSize_b _ _ _ HS.out)))
  go_wp2_with fail
  go_loopw [2, 33] (fun m i wr => ∃ (k : Nat) (r' : Option Nat), k ≤ size ∧ i = .int .i64 (k : Int) ∧ m = .int .u64 ((n / 256 ^ k : Nat) : Int) ∧ WrI wr g r' (l ++ (leb size n).take k) room false ∧ RowStep w r r' ∧ Kept (fun k => k = g ∨ r = some k) w wr) (fun _ i _ => size - (intOf i).toNat)
  case atStart => exact ⟨0, r, by omega, rfl, by simp, ⟨_, HV.out, HB.out.drewN _, by rw [List.take_zero, List.append_nil]; exact HO.out⟩, .inl rfl, (Kept.refl _ _).drewN _⟩
  case round =>
    obtain ⟨k, r', hk, rfl, rfl, ⟨v', hv', hB', hown'⟩, hst, hkp⟩ := hrel
    have hlen : (l ++ (leb size n).take k).length = l.length + k := by rw [List.length_append, List.length_take, leb_length]; omega
    obtain ⟨A', c', rfl⟩ := own_shape hown'
    have HB' := Lib.hid hB'
    have HO' := Lib.hid hown'
    have HV' := Lib.hid hv'
    have HST := Lib.hid hst
    have hsz' := hB'.lt
    clear hB' hown' hv' hst
    by_cases hlt : k < size
    · have d0 : wr.cell? ⟨g, 0, none⟩ = some (.slice A' (l ++ (leb size n).take k).length c') := by rw [HB'.out.cell]; rfl
      have HT := Lib.hid (show (l ++ (leb size n).take k) ++ [UInt8.ofNat (n / 256 ^ k)] = l ++ (leb size n).take (k + 1) by rw [leb_take hlt, List.append_assoc])
      have HD := Lib.hid (show n / 256 ^ k / 256 = n / 256 ^ (k + 1) by rw [Nat.div_div_eq_div_mul, Nat.pow_succ])
      have HL := Lib.hid hlen
      have hm : n / 256 ^ k < 18446744073709551616 := Nat.lt_of_le_of_lt (Nat.div_le_self _ _) hn
      clear hlen
      have hbv := byte_val (n / 256 ^ k)
      generalize n / 256 ^ k = m at *
      generalize UInt8.ofNat m = x at *
      generalize hL' : l ++ (leb size n).take k = l' at *
      have HL' := Lib.hid hL'
      clear hL'
      have hbytes : l'.length + [x].length ≤ 140737488355328 := by rw [HL.out]; simp; omega
      go_wp2_with (refine wpList_appendB (o := ⟨some 43, _, _, _, _, _⟩) rfl (.tmp 39) (.tmp 42) rfl 0 l' [x] (.slice A' l'.length c') (.slice (some ⟨wr.heap.size, 0, none⟩) 1 1) rfl rfl (HO'.out.alloc _) _ (RdB_one x) hbytes (Nat.zero_le _) ?_; intro v2 w2 hown2 hg2 hat2; have HG2 := Lib.hid hg2; have HA2 := Lib.hid hat2; clear hg2 hat2; have hb2 := put_blk HB'.out HO'.out HG2.out; have HB2 := Lib.hid hb2; clear hb2; have e0 : w2.cell? ⟨g, 0, none⟩ = some (.slice A' l'.length c') := (by rw [HB2.out.cell]; rfl); have f0 := HB2.out.frozen 0; obtain ⟨A2, c2', hv2⟩ := own_shape hown2.out; rw [List.length_append, List.length_singleton] at hv2; subst hv2)
      go_roundw
      case rel =>
        refine ⟨k + 1, (Value.slice A2 (l'.length + 1) c2').ownBlock, by omega, by go_num, by rw [← HD.out]; simp, ?_, ?_, ?_⟩
        · rw [← HT.out]; exact WrI_store HB2.out hown2.out
        · exact HST.out.trans (by rw [← HV'.out]; exact put_step HA2.out) hkp.size
        · exact put_kept hkp HST.out (by rw [← HV'.out]; exact HG2.out)
      case measure => simp [intOf]; omega
    · obtain rfl : k = size := by omega
      have hT := List.take_of_length_le (l := leb k n) (i := k) (by rw [leb_length]; omega)
      have HTT := Lib.hid hT
      clear hT
      go_wp2_with fail
      rw [Exit.noGoto_ret]
      go_ret
      exact ⟨rfl, r', (by rw [← HTT.out]; exact ⟨_, HV'.out, HB'.out, HO'.out⟩), HST.out, hkp⟩
set_option maxRecDepth 100000 in
theorem Put_no (g : Nat) (r : Option Nat) (l : List UInt8) (room : Int) (bad : Bool) (size : Int) (n : Nat) (w : World) (hW : WrI w g r l room bad) (h0 : 0 ≤ room) (hr : room ≤ 65536) (hok : putOk room l bad size = false) (hll : l.length ≤ 65536) :
    Calls Try.prog 11 #[.pointer (some ⟨g, 0, none⟩), .int .i64 size, .int .u64 (n : Int)] w fun e w' => e = .returned (.pointer (some ⟨g, 0, none⟩)) ∧ WrI w' g r l room true ∧ Kept (fun k => k = g) w w' := by
  obtain ⟨v, hv, hB, hown⟩ := hW
  obtain ⟨A, c, rfl⟩ := own_shape hown
  have HB := Lib.hid hB
  have HO := Lib.hid hown
  have HV := Lib.hid hv
  have c0 : w.cell? ⟨g, 0, none⟩ = some (.slice A l.length c) := by rw [HB.out.cell]; rfl
  have c1 : w.cell? ⟨g, 1, none⟩ = some (.int .i64 room) := by rw [HB.out.cell]; rfl
  have c2 : w.cell? ⟨g, 2, none⟩ = some (.bool bad) := by rw [HB.out.cell]; rfl
  have f2 := HB.out.frozen 2
  have hsz := hB.lt
  have hw : IntKind.i64.wrap (room - (l.length : Int)) = room - (l.length : Int) := IntWalk.i64_in _ ⟨by omega, by omega⟩
  have hne := own_blk_ne hown hB (by decide)
  have HNE := Lib.hid hne
  clear hB hown hv hne
  have fin : ∀ (nq : Nat), WrI ((w.setCell ⟨g, 2, none⟩ (.bool true)).drewN nq) g r l room true ∧ Kept (fun k => k = g) w ((w.setCell ⟨g, 2, none⟩ (.bool true)).drewN nq) := by
    intro nq
    have hk : Kept (fun k => k = g) w (w.setCell ⟨g, 2, none⟩ (.bool true)) := (Kept.refl (fun k => k = g) w).set_ (p := ⟨g, 2, none⟩) (fun _ => rfl) _
    refine ⟨⟨_, HV.out, (HB.out.set_ 2 (.bool true)).drewN nq, own_kept HO.out (hk.drewN nq) (fun k hk2 e => by subst e; exact HNE.out hk2)⟩, hk.drewN nq⟩
  have FIN := Lib.hid fin
  clear fin
  have hh : bad = true ∨ (bad = false ∧ sizeB size = false) ∨ (bad = false ∧ sizeB size = true ∧ decide (room - (l.length : Int) < size) = true) := by
    cases bad with
    | true => exact .inl rfl
    | false =>
      by_cases hs : sizeB size = true
      · refine .inr (.inr ⟨rfl, hs, ?_⟩)
        have h2 : decide (size ≤ room - (l.length : Int)) = false := by simpa [putOk, hs] using hok
        have := of_decide_eq_false h2
        exact decide_eq_true (by omega)
      · exact .inr (.inl ⟨rfl, by simpa using hs⟩)
  clear hok
  rcases hh with rfl | ⟨rfl, hs⟩ | ⟨rfl, hs, ht⟩
  all_goals
    (try have HS := Lib.hid hs)
    (try clear hs)
    go_enter Try.func11, Try.ntmps11
    go_wp2_with fail
    refine wp_scope_jumps 0 (fun a' w' => (∃ nq, w' = w.drewN nq) ∧ ∃ (u1 u2 u3 u4 u5 u6 u7 u8 u9 u10 u11 u12 u13 u14 u15 u16 u17 u18 u19 u20 u21 u22 u23 u24 u25 u26 u27 u28 u29 u30 u31 u32 u33 u34 u35 u36 u37 u38 u39 u40 u41 u42 u43 u44 u45 u46 u47 u48 u49 u50 u51 u52 u53 : Value), a' = ({ tmps := #[.pointer (some ⟨g, 0, none⟩), u1, u2, u3, u4, u5, u6, u7, u8, u9, u10, u11, u12, u13, u14, u15, u16, u17, u18, u19, u20, u21, u22, u23, u24, u25, u26, u27, u28, u29, u30, u31, u32, u33, u34, u35, u36, u37, u38, u39, u40, u41, u42, u43, u44, u45, u46, u47, u48, u49, u50, u51, u52, u53], defers := [] } : Act)) (fun _ _ => 0) rfl ?_ ?_
    · go_wp2_with fail
      (first | go_quiet (fail) | go_quiet ((go_at_call 39; exact Calls.quiet_of_same (isSize_b _ _ _ HS.out))))
      go_wp2_with fail
      go_step3
      exact ⟨rfl, ⟨_, rfl⟩, ⟨_, _, _, _, _, _, _, _, _, _, _, _, _, _, _, _, _, _, _, _, _, _, _, _, _, _, _, _, _, _, _, _, _, _, _, _, _, _, _, _, _, _, _, _, _, _, _, _, _, _, _, _, _, rfl⟩⟩
    · rintro a' w' ⟨⟨nq, rfl⟩, ⟨u1, u2, u3, u4, u5, u6, u7, u8, u9, u10, u11, u12, u13, u14, u15, u16, u17, u18, u19, u20, u21, u22, u23, u24, u25, u26, u27, u28, u29, u30, u31, u32, u33, u34, u35, u36, u37, u38, u39, u40, u41, u42, u43, u44, u45, u46, u47, u48, u49, u50, u51, u52, u53, rfl⟩⟩
      go_wp2_with fail
      simp only [Exit.jump]
      go_ret
      exact ⟨rfl, FIN.out _⟩
/-- The block and row of a writer, opened: its cells. -/
theorem WrI.open_ {w : World} {g : Nat} {r : Option Nat} {l : List UInt8} {room : Int} {bad : Bool} (h : WrI w g r l room bad) :
    ∃ A c, (Value.slice A l.length c).ownBlock = r ∧ Blk w g 69 #[.slice A l.length c, .int .i64 room, .bool bad] ∧ w.ownsRow 0 5 1 (.slice A l.length c) l.length (bc l) ∧
      w.cell? ⟨g, 0, none⟩ = some (.slice A l.length c) ∧ w.cell? ⟨g, 1, none⟩ = some (.int .i64 room) ∧ w.cell? ⟨g, 2, none⟩ = some (.bool bad) ∧ g < w.heap.size := by
  obtain ⟨v, hv, hB, hown⟩ := h
  obtain ⟨A, c, rfl⟩ := own_shape hown
  exact ⟨A, c, hv, hB, hown, by rw [hB.cell]; rfl, by rw [hB.cell]; rfl, by rw [hB.cell]; rfl, hB.lt⟩
theorem WrI.fault {w : World} {g : Nat} {r : Option Nat} {l : List UInt8} {room : Int} {bad : Bool} (h : WrI w g r l room bad) (nq : Nat) :
    WrI ((w.setCell ⟨g, 2, none⟩ (.bool true)).drewN nq) g r l room true ∧ Kept (fun k => k = g) w ((w.setCell ⟨g, 2, none⟩ (.bool true)).drewN nq) := by
  obtain ⟨v, hv, hB, hown⟩ := h
  have hne := own_blk_ne hown hB (by decide)
  have hk : Kept (fun k => k = g) w (w.setCell ⟨g, 2, none⟩ (.bool true)) := (Kept.refl (fun k => k = g) w).set_ (p := ⟨g, 2, none⟩) (fun _ => rfl) _
  exact ⟨⟨_, hv, (hB.set_ 2 (.bool true)).drewN nq, own_kept hown (hk.drewN nq) (fun k hk2 e => by subst e; exact hne hk2)⟩, hk.drewN nq⟩
theorem put_kept0 {w0 w w2 : World} {g : Nat} {r r' : Option Nat} {v : Value} (hk : Kept (fun k => k = g ∨ r = some k) w0 w) (hs : RowStep w0 r r') (hg : w.grownBy w2 r') : Kept (fun k => k = g ∨ r = some k) w0 (w2.setCell ⟨g, 0, none⟩ v) := by
  refine (hk.grown hg ?_).set_ (fun _ => .inl rfl) _
  intro k hk2 hlt
  rcases hs with rfl | ⟨j, rfl, hj⟩
  · exact .inr hk2
  · cases hk2; omega
theorem bytes_blk {w w2 : World} {g : Nat} {A : Option Addr} {n c : Nat} {cs : Array Value} {xs : List Value} (hB : Blk w g 69 cs) (ho : w.ownsRow 0 5 1 (.slice A n c) n xs) (hg : w.grownBy w2 (Value.slice A n c).ownBlock) : Blk w2 g 69 cs :=
  (hg.block g hB.lt (fun e => own_blk_ne ho hB (by decide) e.symm)).trans hB
theorem step_of {w : World} {r r2 : Option Nat} (h : r2 = r ∨ r2 = some w.heap.size) : RowStep w r r2 := by
  rcases h with h | h
  · exact .inl h
  · exact .inr ⟨_, h, Nat.le_refl _⟩
set_option maxRecDepth 100000 in
set_option maxHeartbeats 1000000 in
theorem Bytes_yes (g : Nat) (r : Option Nat) (l : List UInt8) (room : Int) (v : Value) (b : List UInt8) (w : World) (hW : WrI w g r l room false) (hr : room ≤ 65536) (hb : RdB w.heap.size w v b) (hok : (b.length : Int) ≤ room - l.length) :
    Calls Try.prog 25 #[.pointer (some ⟨g, 0, none⟩), v] w fun e w' => e = .returned (.pointer (some ⟨g, 0, none⟩)) ∧ ∃ r', WrI w' g r' (l ++ b) room false ∧ RowStep w r r' ∧ Kept (fun k => k = g ∨ r = some k) w w' := by
  obtain ⟨A, c, hv, hB, hown, c0, c1, c2, hsz⟩ := hW.open_
  obtain ⟨Ab, cb, rfl, -, -, -, -⟩ := id hb
  have HR := Lib.hid hb
  have HB := Lib.hid hB
  have HO := Lib.hid hown
  have HV := Lib.hid hv
  have ht : decide (room - (l.length : Int) < (b.length : Int)) = false := decide_eq_false (by omega)
  have hw : IntKind.i64.wrap (room - (l.length : Int)) = room - (l.length : Int) := IntWalk.i64_in _ ⟨by omega, by omega⟩
  clear hB hown hv hb hW
  go_enter Try.func25, Try.ntmps25
  go_wp2_with fail
  go_step3
  go_wp2_with fail
  go_quiet (fail)
  go_wp2_with (refine wpList_appendB (o := ⟨some 32, _, _, _, _, _⟩) rfl (.tmp 30) (.tmp 31) rfl 0 l b (.slice A l.length c) (.slice Ab b.length cb) rfl rfl HO.out w.heap.size HR.out (by omega) (Nat.zero_le _) ?_; intro v2 w2 hown2 hg2 hat2; have HG2 := Lib.hid hg2; have HA2 := Lib.hid hat2; clear hg2 hat2; have hb2 := bytes_blk (HB.out.drewN nq) HO.out HG2.out; have HB2 := Lib.hid hb2; clear hb2; have e0 : w2.cell? ⟨g, 0, none⟩ = some (.slice A l.length c) := (by rw [HB2.out.cell]; rfl); have f0 := HB2.out.frozen 0; obtain ⟨A2, c2', hv2⟩ := own_shape hown2.out; rw [List.length_append] at hv2; subst hv2)
  rw [Exit.noGoto_ret]
  go_ret
  refine ⟨rfl, (Value.slice A2 (l.length + b.length) c2').ownBlock, WrI_store HB2.out hown2.out, ?_, ?_⟩
  · rw [← HV.out]; exact step_of (w := w) HA2.out
  · exact put_kept0 ((Kept.refl (fun k => k = g ∨ r = some k) w).drewN nq) (.inl rfl) (by rw [← HV.out]; exact HG2.out)
set_option maxRecDepth 100000 in
theorem Bytes_no (g : Nat) (r : Option Nat) (l : List UInt8) (room : Int) (bad : Bool) (v : Value) (b : List UInt8) (w : World) (hW : WrI w g r l room bad) (h0 : 0 ≤ room) (hr : room ≤ 65536) (hb : RdB w.heap.size w v b) (hok : bytesOk room l bad b = false) (hll : l.length ≤ 65536) :
    Calls Try.prog 25 #[.pointer (some ⟨g, 0, none⟩), v] w fun e w' => e = .returned (.pointer (some ⟨g, 0, none⟩)) ∧ WrI w' g r l room true ∧ Kept (fun k => k = g) w w' := by
  obtain ⟨A, c, hv, hB, hown, c0, c1, c2, hsz⟩ := hW.open_
  obtain ⟨Ab, cb, rfl, hbc, hbm, -, -⟩ := id hb
  unfold maxLen at hbm
  have f2 := hB.frozen 2
  have hw : IntKind.i64.wrap (room - (l.length : Int)) = room - (l.length : Int) := IntWalk.i64_in _ ⟨by omega, by omega⟩
  have FIN := Lib.hid (fun nq => hW.fault nq)
  have hh : bad = true ∨ (bad = false ∧ decide (room - (l.length : Int) < (b.length : Int)) = true) := by
    cases bad with
    | true => exact .inl rfl
    | false =>
      have h2 : decide ((b.length : Int) ≤ room - (l.length : Int)) = false := by simpa [bytesOk] using hok
      have := of_decide_eq_false h2
      exact .inr ⟨rfl, decide_eq_true (by omega)⟩
  clear hok hW hb hB hown hv
  rcases hh with rfl | ⟨rfl, ht⟩
  all_goals
    go_enter Try.func25, Try.ntmps25
    go_wp2_with fail
    refine wp_scope_jumps 0 (fun a' w' => (∃ nq, w' = w.drewN nq) ∧ ∃ (u1 u2 u3 u4 u5 u6 u7 u8 u9 u10 u11 u12 u13 u14 u15 u16 u17 u18 u19 u20 u21 u22 u23 u24 u25 u26 u27 u28 u29 u30 u31 u32 u33 u34 u35 u36 u37 u38 u39 : Value), a' = ({ tmps := #[.pointer (some ⟨g, 0, none⟩), u1, u2, u3, u4, u5, u6, u7, u8, u9, u10, u11, u12, u13, u14, u15, u16, u17, u18, u19, u20, u21, u22, u23, u24, u25, u26, u27, u28, u29, u30, u31, u32, u33, u34, u35, u36, u37, u38, u39], defers := [] } : Act)) (fun _ _ => 0) rfl ?_ ?_
    · go_wp2_with fail
      go_quiet (fail)
      go_wp2_with fail
      go_step3
      exact ⟨rfl, ⟨_, rfl⟩, ⟨_, _, _, _, _, _, _, _, _, _, _, _, _, _, _, _, _, _, _, _, _, _, _, _, _, _, _, _, _, _, _, _, _, _, _, _, _, _, _, rfl⟩⟩
    · rintro a' w' ⟨⟨nq, rfl⟩, ⟨u1, u2, u3, u4, u5, u6, u7, u8, u9, u10, u11, u12, u13, u14, u15, u16, u17, u18, u19, u20, u21, u22, u23, u24, u25, u26, u27, u28, u29, u30, u31, u32, u33, u34, u35, u36, u37, u38, u39, rfl⟩⟩
      go_wp2_with fail
      simp only [Exit.jump]
      go_ret
      exact ⟨rfl, FIN.out _⟩
end Go.Proofs.Ytiapoinobdnboaa.Le
