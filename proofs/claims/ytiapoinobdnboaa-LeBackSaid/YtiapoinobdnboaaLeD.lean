/- le.Reader and the reference's Reader: Take, Bytes, Get, Int, Left, Done. -/
import Derived.Test.YtiapoinobdnboaaLeR
import Derived.WalkSpells
namespace Go.Proofs.Ytiapoinobdnboaa.Le
open Go Go.RowKit Base Mem
set_option linter.unusedSimpArgs false
set_option linter.unusedVariables false
/-- A reader: its block; what is left lies below D. -/
def Rdr (T : TypeId) (D : Nat) (w : World) (g : Nat) (l : List UInt8) (bad : Bool) : Prop := D ≤ g ∧ ∃ v, Blk w g T #[v, .bool bad] ∧ RdB D w v l
theorem Rdr.open_ {T D : Nat} {w : World} {g : Nat} {l : List UInt8} {bad : Bool} (h : Rdr T D w g l bad) :
    ∃ A c, Blk w g T #[.slice A l.length c, .bool bad] ∧ RdB D w (.slice A l.length c) l ∧ w.cell? ⟨g, 0, none⟩ = some (.slice A l.length c) ∧ w.cell? ⟨g, 1, none⟩ = some (.bool bad) ∧ g < w.heap.size ∧ D ≤ g := by
  obtain ⟨hD, v, hB, hR⟩ := h
  obtain ⟨A, c, rfl, -, -, -, -⟩ := id hR
  exact ⟨A, c, hB, hR, by rw [hB.cell]; rfl, by rw [hB.cell]; rfl, hB.lt, hD⟩
theorem Rdr.kept {T D : Nat} {S : Nat → Prop} {w w' : World} {g : Nat} {l : List UInt8} {bad : Bool} (h : Rdr T D w g l bad) (hk : Kept S w w') (hS : ∀ k, S k → D ≤ k ∧ k ≠ g) : Rdr T D w' g l bad := by
  obtain ⟨hD, v, hB, hR⟩ := h
  have hs := hB.lt
  exact ⟨hD, v, hB.kept hk (fun e => (hS g e).2 rfl), hR.below (hk.below (fun k e => (hS k e).1) (by omega))⟩
theorem Rdr.now {T D : Nat} {w w' : World} {g : Nat} {l : List UInt8} {bad : Bool} (h : Rdr T D w g l bad) (hb : Below w.heap.size w w') : Rdr T D w' g l bad :=
  h.kept (Kept.of_below (fun _ => False) hb (Nat.le_refl _)) (fun _ e => e.elim)
theorem Rdr_store {T D : Nat} {w : World} {g : Nat} {old : Value} {l l' : List UInt8} {bad b : Bool} {A : Option Addr} {n c : Nat} (hD : D ≤ g) (hB : Blk w g T #[old, .bool bad]) (hR : RdB D w (.slice A n c) l') (nq : Nat) :
    Rdr T D ((w.setCell ⟨g, 0, none⟩ (.slice A n c)).drewN nq) g l' bad ∧ Kept (fun k => k = g) w ((w.setCell ⟨g, 0, none⟩ (.slice A n c)).drewN nq) := by
  have hk : Kept (fun k => k = g) w (w.setCell ⟨g, 0, none⟩ (.slice A n c)) := (Kept.refl (fun k => k = g) w).set_ (p := ⟨g, 0, none⟩) (fun _ => rfl) _
  refine ⟨⟨hD, _, (hB.set_ 0 (.slice A n c)).drewN nq, hR.below ((hk.drewN nq).below (fun k e => by omega) (by have := hB.lt; omega))⟩, hk.drewN nq⟩
theorem Rdr.mark {T D : Nat} {w : World} {g : Nat} {l : List UInt8} {bad : Bool} (h : Rdr T D w g l bad) (b : Bool) (nq : Nat) :
    Rdr T D ((w.setCell ⟨g, 1, none⟩ (.bool b)).drewN nq) g l b ∧ Kept (fun k => k = g) w ((w.setCell ⟨g, 1, none⟩ (.bool b)).drewN nq) := by
  obtain ⟨hD, v, hB, hR⟩ := h
  have hk : Kept (fun k => k = g) w (w.setCell ⟨g, 1, none⟩ (.bool b)) := (Kept.refl (fun k => k = g) w).set_ (p := ⟨g, 1, none⟩) (fun _ => rfl) _
  refine ⟨⟨hD, _, (hB.set_ 1 (.bool b)).drewN nq, hR.below ((hk.drewN nq).below (fun k e => by omega) (by have := hB.lt; omega))⟩, hk.drewN nq⟩
set_option maxRecDepth 100000 in
theorem Clone_any (v : Value) (l : List UInt8) (w : World) (hr : RdB w.heap.size w v l) (hz : l.length ≤ 140737488355328) :
    Calls Try.prog 40 #[v] w fun e w' => ∃ v', e = .returned v' ∧ w'.ownsRow w.heap.size 5 1 v' l.length (bc l) ∧ Below w.heap.size w w' := by
  obtain ⟨A, c, rfl, h1, h2, h3, h4⟩ := id hr
  have hE : (w.alloc (.cells #[] 5)).ownsRow w.heap.size 5 1 (.slice (some ⟨w.heap.size, 0, none⟩) 0 0) ([] : List UInt8).length (bc []) :=
    World.ownsRow_lit w #[] 0 (Nat.le_refl _) (by simp) rfl
  have HE := Lib.hid hE
  have HR := Lib.hid hr
  clear hE hr h4
  have hnil := fun W => Lib.run_eql_slice_nil (P := Try.prog) W 28 5 A l.length c 0 0 Try.underlying28
  cases A with
  | none =>
    have hc := h3 rfl
    have hl : l = [] := List.eq_nil_of_length_eq_zero (by omega)
    subst hl; subst hc
    clear hnil h3 h1 h2
    have hnil := fun W => Lib.run_eql_slice_nil (P := Try.prog) W 28 5 none 0 0 0 0 Try.underlying28
    go_enter Try.func40, Try.ntmps40
    go_wp2
    go_ret
    exact ⟨_, rfl, ⟨rfl, .inl ⟨rfl, rfl⟩⟩, Below.refl _ _⟩
  | some a =>
    clear h3
    go_enter Try.func40, Try.ntmps40
    go_wp2_with (refine wpList_appendB (o := ⟨some 7, _, _, _, _, _⟩) rfl (.tmp 5) (.tmp 6) rfl w.heap.size [] l (.slice (some ⟨w.heap.size, 0, none⟩) 0 0) (.slice (some a) l.length c) rfl rfl HE.out w.heap.size (HR.out.below ((Below.refl _ _).alloc (Nat.le_refl _) _)) (by simp; omega) (by simp) ?_; intro v1 w1 hown1 hg1 hat1)
    go_ret
    exact ⟨v1, rfl, hown1.out, ((Below.refl w.heap.size w).alloc (Nat.le_refl _) _).trans (grown_below hg1 HE.out (Nat.le_refl _) (by simp))⟩
set_option maxRecDepth 100000 in
theorem Take_any (v : Value) (l : List UInt8) (w : World) (hr : RdB w.heap.size w v l) (hz : l.length ≤ 140737488355328) :
    Calls Try.prog 13 #[v] w fun e w' => ∃ g, e = .returned (.pointer (some ⟨g, 0, none⟩)) ∧ w.heap.size ≤ g ∧ Rdr 73 g w' g l false ∧ Below w.heap.size w w' := by
  have HR := Lib.hid hr
  clear hr
  go_enter Try.func13, Try.ntmps13
  go_wp2_with fail
  refine (Clone_any v l _ HR.out hz).mono ?_
  rintro e w1 ⟨v1, rfl, hown, hb⟩
  have HO := Lib.hid hown
  obtain ⟨A, c, rfl⟩ := own_shape hown
  clear hown
  go_wp2
  go_ret
  have hs := hb.size
  exact ⟨w1.heap.size, rfl, hs, ⟨Nat.le_refl _, _, Blk.new w1 _ _, (RdB.of_row HO.out).below ((Below.refl _ _).alloc (Nat.le_refl _) _)⟩, bel_alloc hb _⟩
theorem RdB.up {D B : Nat} {w w' : World} {v : Value} {l : List UInt8} (h : RdB D w v l) (hb : Below D w w') (hB : D ≤ B) : RdB B w' v l := (h.below hb).more hB
set_option maxRecDepth 100000 in
theorem RBytes_yes (D g : Nat) (l : List UInt8) (k : Nat) (w : World) (h : Rdr 73 D w g l false) (hk : k ≤ l.length) (hz : l.length ≤ 140737488355328) :
    Calls Try.prog 19 #[.pointer (some ⟨g, 0, none⟩), .int .i64 (k : Int)] w fun e w' => ∃ v', e = .returned v' ∧ RdB w'.heap.size w' v' (l.take k) ∧ Rdr 73 D w' g (l.drop k) false ∧ Kept (fun j => j = g) w w' := by
  obtain ⟨A, c, hB, hR, c0, c1, hsz, hD⟩ := h.open_
  have f1 := hB.frozen 1
  obtain ⟨hM, kM⟩ := h.mark false 0
  obtain ⟨-, hlc, hcm⟩ := hR.lens
  unfold maxLen at hcm
  have HR := Lib.hid hR
  have KM := Lib.hid kM
  have HR0 := Lib.hid (show RdB D (w.setCell ⟨g, 1, none⟩ (.bool false)) (.slice A l.length c) l from hR.below (kM.below (fun j e => by omega) (by omega)))
  have HB1 := Lib.hid (show Blk (w.setCell ⟨g, 1, none⟩ (.bool false)) g 73 #[.slice A l.length c, .bool false] from hB.set_ 1 (.bool false))
  have hs1 : w.heap.size ≤ (w.setCell ⟨g, 1, none⟩ (.bool false)).heap.size := kM.size
  clear hM kM hB hR h
  have k0 : (0 : Int) ≤ (k : Int) := Int.natCast_nonneg _
  have k1 : decide ((k : Int) < 0) = false := decide_eq_false (by omega)
  have k2 : decide ((l.length : Int) < (k : Int)) = false := decide_eq_false (by omega)
  have k3 : (k : Int) ≤ (c : Int) := by omega
  have k4 : (k : Int) ≤ (l.length : Int) := by omega
  go_enter Try.func19, Try.ntmps19
  go_wp2_with fail
  refine (Clone_any _ (l.take k) _ ((cut_to HR0.out k hk).more (by omega)) (by rw [List.length_take]; omega)).mono ?_
  rintro e w2 ⟨v2, rfl, hown, hb⟩
  have HO := Lib.hid hown
  have HB2 := Lib.hid (HB1.out.now hb)
  have hrd := cut_from (HR0.out.below (hb.mono (by omega))) k hk
  have e0 : w2.cell? ⟨g, 0, none⟩ = some (.slice A l.length c) := by rw [HB2.out.cell]; rfl
  have f0 := HB2.out.frozen 0
  have KK := Lib.hid (show Kept (fun j => j = g) w w2 from KM.out.call hb)
  have HSW := Lib.hid (RdB.of_row HO.out)
  clear hown
  by_cases hck : c = k
  · subst hck
    rw [if_pos rfl, Nat.sub_self, show l.length - c = 0 by omega] at hrd
    have HRD := Lib.hid hrd
    clear hrd
    go_wp2
    go_ret
    obtain ⟨h3, k5⟩ := Rdr_store (T := 73) (b := false) (l := l) hD HB2.out HRD.out 0
    refine ⟨v2, rfl, ?_, h3, KK.out.trans k5 (fun _ _ e => e)⟩
    exact RdB.of_row (own_kept HO.out k5 (fun j hj e => by subst e; exact own_blk_ne HO.out HB2.out (by decide) hj))
  · rw [if_neg hck] at hrd
    have HRD := Lib.hid hrd
    clear hrd
    go_wp2
    go_ret
    obtain ⟨h3, k5⟩ := Rdr_store (T := 73) (b := false) (l := l) hD HB2.out HRD.out 0
    refine ⟨v2, rfl, ?_, h3, KK.out.trans k5 (fun _ _ e => e)⟩
    exact RdB.of_row (own_kept HO.out k5 (fun j hj e => by subst e; exact own_blk_ne HO.out HB2.out (by decide) hj))
set_option maxRecDepth 100000 in
theorem RBytes_no (D g : Nat) (l : List UInt8) (bad : Bool) (n : Int) (w : World) (h : Rdr 73 D w g l bad) (hok : takeOk l bad n = false) :
    Calls Try.prog 19 #[.pointer (some ⟨g, 0, none⟩), .int .i64 n] w fun e w' => e = .returned (.slice none 0 0) ∧ Rdr 73 D w' g l true ∧ Kept (fun j => j = g) w w' := by
  obtain ⟨A, c, hB, hR, c0, c1, hsz, hD⟩ := h.open_
  have f1 := hB.frozen 1
  have HM := Lib.hid (h.mark true)
  have hh : bad = true ∨ (bad = false ∧ decide (n < 0) = true) ∨ (bad = false ∧ decide (n < 0) = false ∧ decide ((l.length : Int) < n) = true) := by
    cases bad with
    | true => exact .inl rfl
    | false =>
      by_cases h0 : n < 0
      · exact .inr (.inl ⟨rfl, decide_eq_true h0⟩)
      · refine .inr (.inr ⟨rfl, decide_eq_false h0, decide_eq_true ?_⟩)
        have h2 : ¬ (n ≤ (l.length : Int)) := by
          intro h3; simp [takeOk, h3] at hok; omega
        omega
  clear hok h hB hR
  rcases hh with rfl | ⟨rfl, h1⟩ | ⟨rfl, h1, h2⟩
  all_goals
    go_enter Try.func19, Try.ntmps19
    go_wp2
    go_ret
    exact ⟨rfl, HM.out 0⟩
set_option maxRecDepth 100000 in
theorem RLeft_any (D g : Nat) (l : List UInt8) (bad : Bool) (w : World) (h : Rdr 73 D w g l bad) :
    Calls Try.prog 21 #[.pointer (some ⟨g, 0, none⟩)] w fun e w' => e = .returned (.int .i64 (if bad then 0 else (l.length : Int))) ∧ w' = w := by
  obtain ⟨A, c, hB, hR, c0, c1, hsz, hD⟩ := h.open_
  clear h hB hR
  cases bad
  all_goals
    go_enter Try.func21, Try.ntmps21
    go_wp2
    go_ret
    exact ⟨rfl, rfl⟩
set_option maxRecDepth 100000 in
theorem rLeft_any (D g : Nat) (l : List UInt8) (bad : Bool) (w : World) (h : Rdr 41 D w g l bad) :
    Calls Try.prog 22 #[.pointer (some ⟨g, 0, none⟩)] w fun e w' => e = .returned (.int .i64 (if bad then 0 else (l.length : Int))) ∧ w' = w := by
  obtain ⟨A, c, hB, hR, c0, c1, hsz, hD⟩ := h.open_
  clear h hB hR
  cases bad
  all_goals
    go_enter Try.func22, Try.ntmps22
    go_wp2
    go_ret
    exact ⟨rfl, rfl⟩
set_option maxRecDepth 100000 in
theorem rBytes_yes' (D g : Nat) (l : List UInt8) (k : Nat) (w : World) (h : Rdr 41 D w g l false) (hk : k ≤ l.length) :
    Calls Try.prog 20 #[.pointer (some ⟨g, 0, none⟩), .int .i64 (k : Int)] w fun e w' => ∃ v', e = .returned v' ∧ RdB D w' v' (l.take k) ∧ Rdr 41 D w' g (l.drop k) false ∧ Kept (fun j => j = g) w w' := by
  obtain ⟨A, c, hB, hR, c0, c1, hsz, hD⟩ := h.open_
  have f0 := hB.frozen 0
  obtain ⟨-, hlc, hcm⟩ := hR.lens
  unfold maxLen at hcm
  have HB := Lib.hid hB
  have HRT := Lib.hid (cut_to hR k hk)
  have hrd := cut_from hR k hk
  clear hB hR h
  have k0 : (0 : Int) ≤ (k : Int) := Int.natCast_nonneg _
  have k1 : decide ((k : Int) < 0) = false := decide_eq_false (by omega)
  have k2 : decide ((l.length : Int) < (k : Int)) = false := decide_eq_false (by omega)
  have k3 : (k : Int) ≤ (c : Int) := by omega
  have k4 : (k : Int) ≤ (l.length : Int) := by omega
  by_cases hck : c = k
  · subst hck
    rw [if_pos rfl, Nat.sub_self, show l.length - c = 0 by omega] at hrd
    have HRD := Lib.hid hrd
    clear hrd
    go_enter Try.func20, Try.ntmps20
    go_wp2
    go_ret
    obtain ⟨h3, k5⟩ := Rdr_store (T := 41) (b := false) (l := l) hD HB.out HRD.out 0
    exact ⟨_, rfl, HRT.out.below (k5.below (fun j e => by omega) (by omega)), h3, k5⟩
  · rw [if_neg hck] at hrd
    have HRD := Lib.hid hrd
    clear hrd
    go_enter Try.func20, Try.ntmps20
    go_wp2
    go_ret
    obtain ⟨h3, k5⟩ := Rdr_store (T := 41) (b := false) (l := l) hD HB.out HRD.out 0
    exact ⟨_, rfl, HRT.out.below (k5.below (fun j e => by omega) (by omega)), h3, k5⟩
set_option maxRecDepth 100000 in
theorem rBytes_no' (D g : Nat) (l : List UInt8) (bad : Bool) (n : Int) (w : World) (h : Rdr 41 D w g l bad) (hok : takeOk l bad n = false) :
    Calls Try.prog 20 #[.pointer (some ⟨g, 0, none⟩), .int .i64 n] w fun e w' => e = .returned (.slice none 0 0) ∧ Rdr 41 D w' g l true ∧ Kept (fun j => j = g) w w' := by
  obtain ⟨A, c, hB, hR, c0, c1, hsz, hD⟩ := h.open_
  have f1 := hB.frozen 1
  have HM := Lib.hid (h.mark true)
  have hh : bad = true ∨ (bad = false ∧ decide (n < 0) = true) ∨ (bad = false ∧ decide (n < 0) = false ∧ decide ((l.length : Int) < n) = true) := by
    cases bad with
    | true => exact .inl rfl
    | false =>
      by_cases h0 : n < 0
      · exact .inr (.inl ⟨rfl, decide_eq_true h0⟩)
      · refine .inr (.inr ⟨rfl, decide_eq_false h0, decide_eq_true ?_⟩)
        have h2 : ¬ (n ≤ (l.length : Int)) := by
          intro h3; simp [takeOk, h3] at hok; omega
        omega
  clear hok h hB hR
  rcases hh with rfl | ⟨rfl, h1⟩ | ⟨rfl, h1, h2⟩
  all_goals
    go_enter Try.func20, Try.ntmps20
    go_wp2
    go_ret
    exact ⟨rfl, HM.out 0⟩
end Go.Proofs.Ytiapoinobdnboaa.Le
