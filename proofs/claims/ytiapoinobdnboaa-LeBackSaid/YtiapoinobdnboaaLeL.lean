/- lives: what must come of every program. -/
import Derived.Test.YtiapoinobdnboaaLeI
namespace Go.Proofs.Ytiapoinobdnboaa.Le
open Go Go.RowKit Base Mem
set_option linter.unusedSimpArgs false
set_option linter.unusedVariables false
theorem WrI.kept {S : Nat → Prop} {w w' : World} {g : Nat} {r : Option Nat} {l : List UInt8} {room : Int} {bad : Bool} (h : WrI w g r l room bad) (hk : Kept S w w') (hg : ¬ S g) (hr : ∀ k, r = some k → ¬ S k) : WrI w' g r l room bad := by
  obtain ⟨v, rfl, hB, ho⟩ := h
  exact ⟨v, rfl, hB.kept hk hg, own_kept ho hk hr⟩
theorem WrI.now {w w' : World} {g : Nat} {r : Option Nat} {l : List UInt8} {room : Int} {bad : Bool} (h : WrI w g r l room bad) (hb : Below w.heap.size w w') : WrI w' g r l room bad :=
  h.kept (Kept.of_below (fun _ => False) hb (Nat.le_refl _)) (fun e => e) (fun _ _ e => e)
theorem WrR.kept {S : Nat → Prop} {w w' : World} {g : Nat} {r : Option Nat} {l : List UInt8} {room : Int} {bad : Bool} (h : WrR w g r l room bad) (hk : Kept S w w') (hg : ¬ S g) (hr : ∀ k, r = some k → ¬ S k) : WrR w' g r l room bad := by
  obtain ⟨v, rfl, hB, ho⟩ := h
  exact ⟨v, rfl, hB.kept hk hg, own_kept ho hk hr⟩
theorem WrR.now {w w' : World} {g : Nat} {r : Option Nat} {l : List UInt8} {room : Int} {bad : Bool} (h : WrR w g r l room bad) (hb : Below w.heap.size w w') : WrR w' g r l room bad :=
  h.kept (Kept.of_below (fun _ => False) hb (Nat.le_refl _)) (fun e => e) (fun _ _ e => e)
theorem WrI.lt {w : World} {g : Nat} {r : Option Nat} {l : List UInt8} {room : Int} {bad : Bool} (h : WrI w g r l room bad) : g < w.heap.size := by
  obtain ⟨v, rfl, hB, ho⟩ := h
  exact hB.lt
theorem own_lt {w : World} {base e size n : Nat} {v : Value} {xs : List Value} (h : w.ownsRow base e size v n xs) : ∀ k, v.ownBlock = some k → k < w.heap.size := by
  intro k hk
  rcases h.2 with ⟨rfl, -⟩ | ⟨g, cap, cur, rfl, hb, hg, -⟩
  · cases hk
  · cases hk
    rcases Nat.lt_or_ge g w.heap.size with hlt | hge
    · exact hlt
    · rw [Array.getElem?_eq_none hge] at hg; cases hg
theorem WrI.rlt {w : World} {g : Nat} {r : Option Nat} {l : List UInt8} {room : Int} {bad : Bool} (h : WrI w g r l room bad) : ∀ k, r = some k → k < w.heap.size := by
  obtain ⟨v, rfl, hB, ho⟩ := h
  exact own_lt ho
theorem WrR.rlt {w : World} {g : Nat} {r : Option Nat} {l : List UInt8} {room : Int} {bad : Bool} (h : WrR w g r l room bad) : ∀ k, r = some k → k < w.heap.size := by
  obtain ⟨v, rfl, hB, ho⟩ := h
  exact own_lt ho
theorem WrR.lt {w : World} {g : Nat} {r : Option Nat} {l : List UInt8} {room : Int} {bad : Bool} (h : WrR w g r l room bad) : g < w.heap.size := by
  obtain ⟨v, rfl, hB, ho⟩ := h
  exact hB.lt
theorem Rdr.lt {T D : Nat} {w : World} {g : Nat} {l : List UInt8} {bad : Bool} (h : Rdr T D w g l bad) : g < w.heap.size := by
  obtain ⟨hD, v, hB, -⟩ := h
  exact hB.lt
theorem first9 : IsFirst (bitOf [0, 2]) true 0 10 9 := .inr ⟨9, rfl, by omega, by omega, by decide, fun i h1 h2 => by
  have : ∀ i : Fin 9, bitOf [0, 2] i.val ≠ true := by decide
  exact this ⟨i, h2⟩⟩
theorem RdB.tight {D B : Nat} {w w' : World} {v : Value} {l : List UInt8} (h : RdB D w v l) (h' : RdB B w' v l) : RdB D w' v l := by
  obtain ⟨A, c, rfl, h1, h2, h3, h4⟩ := h
  obtain ⟨A', c', e, -, -, -, h5⟩ := h'
  cases e
  refine ⟨A, c, rfl, h1, h2, h3, fun hn => ?_⟩
  obtain ⟨g, o, rfl, hg, -⟩ := h4 hn
  obtain ⟨g', o', e2, -, hc⟩ := h5 hn
  cases e2
  exact ⟨g, o, rfl, hg, hc⟩
set_option maxRecDepth 100000 in
theorem Take_own (v : Value) (l : List UInt8) (w : World) (hr : RdB w.heap.size w v l) (hz : l.length ≤ 140737488355328) :
    Calls Try.prog 13 #[v] w fun e w' => ∃ g v', e = .returned (.pointer (some ⟨g, 0, none⟩)) ∧ w.heap.size ≤ g ∧ (Blk w' g 73 #[v', .bool false] ∧ RdB g w' v' l ∧ w'.ownsRow w.heap.size 5 1 v' l.length (bc l)) ∧ Below w.heap.size w w' := by
  have HR := Lib.hid hr
  clear hr
  go_enter Try.func13, Try.ntmps13
  go_wp2_with fail
  refine (Clone_any v l _ HR.out hz).mono ?_
  rintro e w1 ⟨v1, rfl, hown, hb⟩
  have HO := Lib.hid hown
  obtain ⟨A, c, rfl⟩ := own_shape hown
  clear hown
  go_wp2
  go_ret
  have hs := hb.size
  exact ⟨w1.heap.size, _, rfl, hs, ⟨Blk.new w1 _ _, (RdB.of_row HO.out).below ((Below.refl _ _).alloc (Nat.le_refl _) _), HO.out.alloc _⟩, bel_alloc hb _⟩
theorem take_kept {S : Nat → Prop} {w w' : World} {base g : Nat} {v : Value} {l : List UInt8} {T : TypeId} (h : Blk w g T #[v, .bool false] ∧ RdB g w v l ∧ w.ownsRow base 5 1 v l.length (bc l)) (hk : Kept S w w') (hg : ¬ S g) (hS : ∀ k, S k → k < base) :
    Blk w' g T #[v, .bool false] ∧ RdB g w' v l ∧ w'.ownsRow base 5 1 v l.length (bc l) := by
  have ho := own_kept h.2.2 hk (fun k e hs => by have := own_base h.2.2 k e; have := hS k hs; omega)
  exact ⟨h.1.kept hk hg, RdB.tight h.2.1 (RdB.of_row ho), ho⟩
set_option maxRecDepth 100000 in
set_option maxHeartbeats 4000000 in
theorem lives_any (w : World) : Calls Try.prog 9 #[] w fun e w' => e = .returned (.bool true) ∧ Below w.heap.size w w' := by
  go_enter Try.func9, Try.ntmps9
  go_wp2_with fail
  refine (New_yes 4 _ (by omega) (by omega)).mono ?_
  rintro e w1 ⟨g1, rfl, hg1, hW, hb1⟩
  have HW := Lib.hid hW
  have HB1 := Lib.hid hb1
  clear hW hb1
  go_wp2_with fail
  have hR0 : RdB (w1.alloc (.cells #[.int .u8 2, .int .u8 1, .int .u8 0] 5)).heap.size (w1.alloc (.cells #[.int .u8 2, .int .u8 1, .int .u8 0] 5)) (.slice (some ⟨w1.heap.size, 0, none⟩) 3 3) [2, 1, 0] :=
    RdB.of_own [2, 1, 0] (Blk.new w1 5 _) (by simp) 3 3 rfl (by omega) (by decide)
  refine (Take_own _ [2, 1, 0] _ hR0 (by decide)).mono ?_
  rintro e w2 ⟨g2, v2, rfl, hg2, hD, hb2⟩
  have hb2' : Below w1.heap.size w1 w2 := ((Below.refl w1.heap.size w1).alloc (Nat.le_refl _) (.cells #[.int .u8 2, .int .u8 1, .int .u8 0] 5)).trans (hb2.mono (by simp))
  have HD := Lib.hid hD
  have HB2 := Lib.hid hb2'
  clear hR0 hD hb2 hb2'
  go_wp2_with fail
  refine (NewBits_yes 10 _ (by omega)).mono ?_
  rintro e w3 ⟨g3, R3, rfl, hg3, hR3, hT, hb3⟩
  have HT := Lib.hid hT
  have HB3 := Lib.hid hb3
  clear hT hb3
  go_wp2_with fail
  refine (Put_yes g1 none [] 4 2 258 _ ((HW.out.now HB2.out).now HB3.out) (by omega) (by decide) (by decide) (by omega)).mono ?_
  rintro e w4 ⟨rfl, r4, hW4, hS4, hK4⟩
  have HW4 := Lib.hid hW4
  have HK4 := Lib.hid hK4
  clear hW4 hS4 hK4
  go_wp2_with fail
  refine (Done_ok g1 r4 ([] ++ leb 2 258) 4 _ HW4.out (by omega) (by decide)).mono ?_
  rintro e w5 ⟨g5, rfl, hg5, hC5, hb5⟩
  have HC5 := Lib.hid hC5
  have HB5 := Lib.hid hb5
  clear hC5 hb5
  have l1 := HW.out.lt
  have l2 := HB2.out.size
  have l3 := HB3.out.size
  have l4 := HK4.out.size
  have l5 := HB5.out.size
  have l6 := HD.out.1.lt
  have l7 := HT.out.1.lt
  have l7b := HT.out.2.1.lt
  have l7c := HC5.out.lt
  have e0 : (w1.alloc (.cells #[.int .u8 2, .int .u8 1, .int .u8 0] 5)).heap.size = w1.heap.size + 1 := by simp
  rw [e0] at hg2
  have t3 := take_kept HD.out (Kept.of_below (fun _ => False) HB3.out (Nat.le_refl _)) (fun e => e) (fun k e => e.elim)
  have t4 := take_kept t3 HK4.out (fun e => by rcases e with e | e; omega; cases e) (fun k e => by rw [e0]; rcases e with e | e; omega; cases e)
  have t5 := take_kept t4 (Kept.of_below (fun _ => False) HB5.out (Nat.le_refl _)) (fun e => e) (fun k e => e.elim)
  have hD5 : Rdr 73 g2 w5 g2 [2, 1, 0] false := ⟨Nat.le_refl _, _, t5.1, t5.2.1⟩
  have HD5 := Lib.hid hD5
  clear t3 t4 t5 hD5
  have HT5 := Lib.hid ((HT.out.kept HK4.out (fun e => by rcases e with e | e; omega; cases e) (fun e => by rcases e with e | e; omega; cases e)).now HB5.out)
  have HB05 := Lib.hid ((((HB1.out.trans (HB2.out.mono HB1.out.size)).trans (HB3.out.mono (by omega))).trans (HK4.out.below (fun k e => by rcases e with e | e; omega; cases e) (by omega))).trans (HB5.out.mono (by omega)))
  clear HD HT HW HW4 HB1 HB2 HB3
  go_wp2_with fail
  refine (RGet_yes g2 g2 [2, 1, 0] 2 _ HD5.out (by decide) (by decide) (by decide)).mono ?_
  rintro e w6 ⟨rfl, hD6, hK6⟩
  have HD6 := Lib.hid hD6
  have HK6 := Lib.hid hK6
  have l8 := hK6.size
  have HT6 := Lib.hid (HT5.out.kept hK6 (by omega) (by omega))
  have HC6 := Lib.hid (HC5.out.kept hK6 (by omega))
  have HB06 := Lib.hid (HB05.out.trans (hK6.below (B := w.heap.size) (fun k e => by have e : k = g2 := e; omega) (by omega)))
  clear hD6 hK6 HD5 HC5 HT5 HB05
  rw [show (((leVal (([2, 1, 0] : List UInt8).take 2)) : Nat) : Int) = 258 from rfl]
  go_wp2_with fail
  refine (Set_yes g3 R3 10 9 (zs ((10 + 7) / 8)) true _ HT6.out (by omega) (by decide)).mono ?_
  rintro e w7 ⟨rfl, hT7, hK7⟩
  have HT7 := Lib.hid hT7
  have l9 := hK7.size
  have HD7 := Lib.hid (HD6.out.kept hK7 (fun k e => by have e : k = R3 := e; omega))
  have HC7 := Lib.hid (HC6.out.kept hK7 (by omega))
  have HB07 := Lib.hid (HB06.out.trans (hK7.below (B := w.heap.size) (fun k e => by have e : k = R3 := e; omega) (by omega)))
  clear hT7 hK7 HT6 HD6 HC6 HB06
  go_wp2_with fail
  refine (New_yes 1 _ (by omega) (by omega)).mono ?_
  rintro e w8 ⟨g8, rfl, hg8, hW8, hb8⟩
  have HW8 := Lib.hid hW8
  have l10 := hb8.size
  have HT8 := Lib.hid (HT7.out.now hb8)
  have HD8 := Lib.hid (HD7.out.now hb8)
  have HC8 := Lib.hid (HC7.out.now hb8)
  have HB08 := Lib.hid (HB07.out.trans (hb8.mono (by omega)))
  clear hW8 hb8 HT7 HD7 HC7 HB07
  go_wp2_with fail
  refine (Put_no g8 none [] 1 false 2 0 _ HW8.out (by omega) (by omega) (by decide) (by decide)).mono ?_
  rintro e w9 ⟨rfl, hW9, hK9⟩
  have HW9 := Lib.hid hW9
  have l11 := hK9.size
  have l12 := HT8.out.1.lt
  have HT9 := Lib.hid (HT8.out.kept hK9 (by omega) (by omega))
  have HD9 := Lib.hid (HD8.out.kept hK9 (fun k e => by have e : k = g8 := e; omega))
  have HC9 := Lib.hid (HC8.out.kept hK9 (by omega))
  have HB09 := Lib.hid (HB08.out.trans (hK9.below (B := w.heap.size) (fun k e => by have e : k = g8 := e; omega) (by omega)))
  clear hW9 hK9 HT8 HD8 HC8 HB08
  go_wp2_with fail
  refine (Done_bad g8 none [] 1 _ HW9.out).mono ?_
  rintro e w10 ⟨rfl, rfl⟩
  have hs1 : (convert 28 9 (.slice (some ⟨g5, 0, none⟩) 4 4)).run Try.prog w10 = .ok (.string ⟨#[2, 1, 0, 0]⟩) w10 := run_string (l := [2, 1, 0, 0]) (RdB.of_own [2, 1, 0, 0] HC9.out HC9.out.lt 4 4 (by decide) (by omega) (by decide))
  go_wp2_with fail
  refine (RDone_b g2 g2 ([2, 1, 0].drop 2) false _ HD9.out (r := 0) (by decide)).mono ?_
  rintro e w11 ⟨rfl, rfl⟩
  go_wp2_with fail
  refine (Pack_any g3 R3 10 (flip (zs ((10 + 7) / 8)) 9) _ HT9.out).mono ?_
  rintro e w12 ⟨v12, rfl, ho12, hb12⟩
  have HT12 := Lib.hid (HT9.out.now hb12)
  have HB012 := Lib.hid (HB09.out.trans (hb12.mono (by omega)))
  have hs2 : (convert 28 9 v12).run Try.prog w12 = .ok (.string ⟨#[0, 2]⟩) w12 := run_string (l := [0, 2]) (RdB.of_row ho12)
  clear ho12 hb12
  go_wp2_with fail
  refine (First_any g3 R3 10 (flip (zs ((10 + 7) / 8)) 9) true 0 9 _ HT12.out first9).mono ?_
  rintro e w13 ⟨rfl, rfl⟩
  go_wp2
  go_ret
  exact ⟨rfl, HB012.out⟩
end Go.Proofs.Ytiapoinobdnboaa.Le
