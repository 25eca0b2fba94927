/- The writers' calls, whatever they are given. -/
import Derived.Test.YtiapoinobdnboaaLeL
namespace Go.Proofs.Ytiapoinobdnboaa.Le
open Go Go.RowKit Base Mem
set_option linter.unusedSimpArgs false
set_option linter.unusedVariables false
theorem putL_le {room : Int} {l : List UInt8} {bad : Bool} {size : Int} {n : Nat} (h : (l.length : Int) ≤ room) : ((putL room l bad size n).length : Int) ≤ room := by
  unfold putL
  split
  · rename_i hok
    simp only [putOk, Bool.and_eq_true, decide_eq_true_eq] at hok
    have hs := sizeB_cases hok.1.2
    rw [List.length_append, leb_length]
    omega
  · exact h
theorem bytesL_le {room : Int} {l : List UInt8} {bad : Bool} {b : List UInt8} (h : (l.length : Int) ≤ room) : ((bytesL room l bad b).length : Int) ≤ room := by
  unfold bytesL
  split
  · rename_i hok
    simp only [bytesOk, Bool.and_eq_true, decide_eq_true_eq] at hok
    rw [List.length_append]
    omega
  · exact h
theorem Kept.one {g : Nat} {r : Option Nat} {w w' : World} (h : Kept (fun k => k = g) w w') : Kept (fun k => k = g ∨ r = some k) w w' := h.wide fun k _ e => .inl e
theorem Put_all (g : Nat) (r : Option Nat) (l : List UInt8) (room : Int) (bad : Bool) (size : Int) (n : Nat) (w : World) (hW : WrI w g r l room bad) (h0 : 0 ≤ room) (hr : room ≤ 65536) (hl : (l.length : Int) ≤ room) (hn : n < 18446744073709551616) :
    Calls Try.prog 11 #[.pointer (some ⟨g, 0, none⟩), .int .i64 size, .int .u64 (n : Int)] w fun e w' => e = .returned (.pointer (some ⟨g, 0, none⟩)) ∧ ∃ r', WrI w' g r' (putL room l bad size n) room (!putOk room l bad size) ∧ RowStep w r r' ∧ Kept (fun k => k = g ∨ r = some k) w w' := by
  by_cases hok : putOk room l bad size = true
  · have h := hok
    simp only [putOk, Bool.and_eq_true, decide_eq_true_eq, Bool.not_eq_true'] at h
    obtain ⟨⟨rfl, hs⟩, hle⟩ := h
    have hc := sizeB_cases hs
    obtain ⟨k, rfl⟩ : ∃ k : Nat, size = k := ⟨size.toNat, by omega⟩
    refine (Put_yes g r l room k n w hW hr hs hle hn).mono fun e w' ⟨he, r', h1, h2, h3⟩ => ⟨he, r', ?_, h2, h3⟩
    unfold putL
    rw [if_pos hok, hok]
    exact h1
  · have hok' : putOk room l bad size = false := by simpa using hok
    refine (Put_no g r l room bad size n w hW h0 hr hok' (by omega)).mono fun e w' ⟨he, h1, h2⟩ => ⟨he, r, ?_, RowStep.refl w r, Kept.one h2⟩
    unfold putL
    rw [if_neg hok, hok']
    exact h1
theorem rPut_all (g : Nat) (r : Option Nat) (l : List UInt8) (room : Int) (bad : Bool) (size : Int) (n : Nat) (w : World) (hW : WrR w g r l room bad) (h0 : 0 ≤ room) (hr : room ≤ 65536) (hl : (l.length : Int) ≤ room) (hn : n < 18446744073709551616) :
    Calls Try.prog 24 #[.pointer (some ⟨g, 0, none⟩), .int .i64 size, .int .u64 (n : Int)] w fun e w' => e = .returned (.tuple #[]) ∧ ∃ r', WrR w' g r' (putL room l bad size n) room (!putOk room l bad size) ∧ RowStep w r r' ∧ Kept (fun k => k = g ∨ r = some k) w w' := by
  by_cases hok : putOk room l bad size = true
  · have h := hok
    simp only [putOk, Bool.and_eq_true, decide_eq_true_eq, Bool.not_eq_true'] at h
    obtain ⟨⟨rfl, hs⟩, hle⟩ := h
    have hc := sizeB_cases hs
    obtain ⟨k, rfl⟩ : ∃ k : Nat, size = k := ⟨size.toNat, by omega⟩
    refine (rPut_yes g r l room k n w hW hr hs hle hn).mono fun e w' ⟨he, r', h1, h2, h3⟩ => ⟨he, r', ?_, h2, h3⟩
    unfold putL
    rw [if_pos hok, hok]
    exact h1
  · have hok' : putOk room l bad size = false := by simpa using hok
    refine (rPut_no g r l room bad size n w hW h0 hr hok' (by omega)).mono fun e w' ⟨he, h1, h2⟩ => ⟨he, r, ?_, RowStep.refl w r, Kept.one h2⟩
    unfold putL
    rw [if_neg hok, hok']
    exact h1
theorem Bytes_all (g : Nat) (r : Option Nat) (l : List UInt8) (room : Int) (bad : Bool) (v : Value) (b : List UInt8) (w : World) (hW : WrI w g r l room bad) (h0 : 0 ≤ room) (hr : room ≤ 65536) (hl : (l.length : Int) ≤ room) (hb : RdB w.heap.size w v b) :
    Calls Try.prog 25 #[.pointer (some ⟨g, 0, none⟩), v] w fun e w' => e = .returned (.pointer (some ⟨g, 0, none⟩)) ∧ ∃ r', WrI w' g r' (bytesL room l bad b) room (!bytesOk room l bad b) ∧ RowStep w r r' ∧ Kept (fun k => k = g ∨ r = some k) w w' := by
  by_cases hok : bytesOk room l bad b = true
  · have h := hok
    simp only [bytesOk, Bool.and_eq_true, decide_eq_true_eq, Bool.not_eq_true'] at h
    obtain ⟨rfl, hle⟩ := h
    refine (Bytes_yes g r l room v b w hW hr hb hle).mono fun e w' ⟨he, r', h1, h2, h3⟩ => ⟨he, r', ?_, h2, h3⟩
    unfold bytesL
    rw [if_pos hok, hok]
    exact h1
  · have hok' : bytesOk room l bad b = false := by simpa using hok
    refine (Bytes_no g r l room bad v b w hW h0 hr hb hok' (by omega)).mono fun e w' ⟨he, h1, h2⟩ => ⟨he, r, ?_, RowStep.refl w r, Kept.one h2⟩
    unfold bytesL
    rw [if_neg hok, hok']
    exact h1
theorem rBytes_all (g : Nat) (r : Option Nat) (l : List UInt8) (room : Int) (bad : Bool) (v : Value) (b : List UInt8) (w : World) (hW : WrR w g r l room bad) (h0 : 0 ≤ room) (hr : room ≤ 65536) (hl : (l.length : Int) ≤ room) (hb : RdB w.heap.size w v b) :
    Calls Try.prog 26 #[.pointer (some ⟨g, 0, none⟩), v] w fun e w' => e = .returned (.tuple #[]) ∧ ∃ r', WrR w' g r' (bytesL room l bad b) room (!bytesOk room l bad b) ∧ RowStep w r r' ∧ Kept (fun k => k = g ∨ r = some k) w w' := by
  by_cases hok : bytesOk room l bad b = true
  · have h := hok
    simp only [bytesOk, Bool.and_eq_true, decide_eq_true_eq, Bool.not_eq_true'] at h
    obtain ⟨rfl, hle⟩ := h
    refine (rBytes_yes g r l room v b w hW hr hb hle).mono fun e w' ⟨he, r', h1, h2, h3⟩ => ⟨he, r', ?_, h2, h3⟩
    unfold bytesL
    rw [if_pos hok, hok]
    exact h1
  · have hok' : bytesOk room l bad b = false := by simpa using hok
    refine (rBytes_no g r l room bad v b w hW h0 hr hb hok' (by omega)).mono fun e w' ⟨he, h1, h2⟩ => ⟨he, r, ?_, RowStep.refl w r, Kept.one h2⟩
    unfold bytesL
    rw [if_neg hok, hok']
    exact h1
/-- A writer of each kind, apart. -/
def Both (w : World) (B g gx : Nat) (l lx : List UInt8) (room : Int) (bad badx : Bool) : Prop :=
  ∃ r rx, WrI w g r l room bad ∧ WrR w gx rx lx room badx ∧ B ≤ g ∧ B ≤ gx ∧ (∀ k, r = some k → B ≤ k) ∧ (∀ k, rx = some k → B ≤ k) ∧ (∀ k, r = some k → rx ≠ some k)
theorem WrI_ne {w : World} {g gx : Nat} {r rx : Option Nat} {l l' : List UInt8} {room room' : Int} {bad bad' : Bool} (h : WrI w g r l room bad) (h' : WrR w gx rx l' room' bad') : g ≠ gx ∧ r ≠ some gx ∧ rx ≠ some g := by
  obtain ⟨v, rfl, hB, ho⟩ := h
  obtain ⟨v', rfl, hB', ho'⟩ := h'
  exact ⟨blk_ne hB hB' (by decide), own_blk_ne ho hB' (by decide), own_blk_ne ho' hB (by decide)⟩
theorem row_far {w : World} {B : Nat} {r r' : Option Nat} (hs : RowStep w r r') (hB : B ≤ w.heap.size) (h : ∀ k, r = some k → B ≤ k) : ∀ k, r' = some k → B ≤ k := by
  rcases hs with rfl | ⟨k, rfl, hk⟩
  · exact h
  · intro j e; cases e; omega
theorem both_first {w w1 : World} {B g gx : Nat} {r r1 rx : Option Nat} {l lx l1 : List UInt8} {room : Int} {bad badx bad1 : Bool} (hW : WrI w g r l room bad) (hX : WrR w gx rx lx room badx) (hB : B ≤ w.heap.size) (f1 : B ≤ g) (f2 : B ≤ gx) (f3 : ∀ k, r = some k → B ≤ k) (f4 : ∀ k, rx = some k → B ≤ k) (f5 : ∀ k, r = some k → rx ≠ some k)
    (hW1 : WrI w1 g r1 l1 room bad1) (hs : RowStep w r r1) (hk : Kept (fun k => k = g ∨ r = some k) w w1) : Both w1 B g gx l1 lx room bad1 badx ∧ Below B w w1 := by
  obtain ⟨n1, n2, n3⟩ := WrI_ne hW hX
  have hX1 : WrR w1 gx rx lx room badx := hX.kept hk (fun e => by rcases e with e | e; exact n1 e.symm; exact n2 e) (fun k e h => by rcases h with h | h; subst h; exact n3 e; exact f5 k h e)
  refine ⟨⟨r1, rx, hW1, hX1, f1, f2, row_far hs hB f3, f4, ?_⟩, hk.below (fun k e => by rcases e with e | e; omega; exact f3 k e) hB⟩
  intro k e h
  rcases hs with rfl | ⟨j, rfl, hj⟩
  · exact f5 k e h
  · cases e
    have := hX.rlt _ h
    omega
theorem both_second {w w1 : World} {B g gx : Nat} {r rx rx1 : Option Nat} {l lx l1 : List UInt8} {room : Int} {bad badx bad1 : Bool} (hW : WrI w g r l room bad) (hX : WrR w gx rx lx room badx) (hB : B ≤ w.heap.size) (f1 : B ≤ g) (f2 : B ≤ gx) (f3 : ∀ k, r = some k → B ≤ k) (f4 : ∀ k, rx = some k → B ≤ k) (f5 : ∀ k, r = some k → rx ≠ some k)
    (hX1 : WrR w1 gx rx1 l1 room bad1) (hs : RowStep w rx rx1) (hk : Kept (fun k => k = gx ∨ rx = some k) w w1) : Both w1 B g gx l l1 room bad bad1 ∧ Below B w w1 := by
  obtain ⟨n1, n2, n3⟩ := WrI_ne hW hX
  have hW1 : WrI w1 g r l room bad := hW.kept hk (fun e => by rcases e with e | e; exact n1 e; exact n3 e) (fun k e h => by rcases h with h | h; subst h; exact n2 e; exact f5 k e h)
  refine ⟨⟨r, rx1, hW1, hX1, f1, f2, f3, row_far hs hB f4, ?_⟩, hk.below (fun k e => by rcases e with e | e; omega; exact f4 k e) hB⟩
  intro k e h
  rcases hs with rfl | ⟨j, rfl, hj⟩
  · exact f5 k e h
  · cases h
    have := hW.rlt _ e
    omega
theorem Both.now {w w' : World} {B g gx : Nat} {l lx : List UInt8} {room : Int} {bad badx : Bool} (h : Both w B g gx l lx room bad badx) (hb : Below w.heap.size w w') : Both w' B g gx l lx room bad badx := by
  obtain ⟨r, rx, h1, h2, h3⟩ := h
  exact ⟨r, rx, h1.now hb, h2.now hb, h3⟩
end Go.Proofs.Ytiapoinobdnboaa.Le
