/- Slices that read as lists, whatever their address; blocks known whole. -/
import Derived.Test.YtiapoinobdnboaaBase
import Derived.Below
import Derived.Laws.OwnMore
import Derived.Deep.Draws
import Derived.Laws.Rows
import Derived.Deep.AppendLies
namespace Go.Proofs.Ytiapoinobdnboaa.Mem
open Go Go.RowKit Base
set_option linter.unusedSectionVars false
/-- The slice v, below block B, reads as l: each element one cell. -/
def Rd1 {α : Type} (E : α → Value) (B : Nat) (w : World) (v : Value) (l : List α) : Prop :=
  ∃ A c, v = .slice A l.length c ∧ l.length ≤ c ∧ c ≤ maxLen ∧ (A = none → c = 0) ∧ (l ≠ [] → ∃ g o, A = some ⟨g, o, none⟩ ∧ g < B ∧ ∀ i x, l[i]? = some x → w.cell? ⟨g, o + i, none⟩ = some (E x))
section
variable {α : Type} {E : α → Value} {B B' : Nat} {w w' : World} {v : Value} {l : List α}
theorem Rd1.nil_ : Rd1 E B w (.slice none 0 0) [] := ⟨none, 0, rfl, by simp, by simp, fun _ => rfl, fun h => absurd rfl h⟩
theorem Rd1.keep (h : Rd1 E B w v l) (hk : ∀ p : Addr, p.block < B → w'.cell? p = w.cell? p) : Rd1 E B w' v l := by
  obtain ⟨A, c, e, h1, h2, h3, h4⟩ := h
  refine ⟨A, c, e, h1, h2, h3, fun hn => ?_⟩
  obtain ⟨g, o, e2, hg, hc⟩ := h4 hn
  exact ⟨g, o, e2, hg, fun i x hx => (hk ⟨g, o + i, none⟩ hg).trans (hc i x hx)⟩
theorem Rd1.more (h : Rd1 E B w v l) (hB : B ≤ B') : Rd1 E B' w v l := by
  obtain ⟨A, c, e, h1, h2, h3, h4⟩ := h
  refine ⟨A, c, e, h1, h2, h3, fun hn => ?_⟩
  obtain ⟨g, o, e2, hg, hc⟩ := h4 hn
  exact ⟨g, o, e2, by omega, hc⟩
theorem Rd1.below (h : Rd1 E B w v l) (hb : Below B w w') : Rd1 E B w' v l := h.keep fun _ hp => hb.cell hp
/-- Into a later world, its own size the bound. -/
theorem Rd1.now (h : Rd1 E w.heap.size w v l) (hb : Below w.heap.size w w') : Rd1 E w'.heap.size w' v l := (h.below hb).more hb.size
theorem Rd1.at_ {A : Option Addr} {n c k : Nat} (h : Rd1 E B w (.slice A n c) l) (hk : k < l.length) : ∃ g o x, A = some ⟨g, o, none⟩ ∧ g < B ∧ l[k]? = some x ∧ w.cell? ⟨g, o + k, none⟩ = some (E x) := by
  obtain ⟨A', c', e, h1, h2, h3, h4⟩ := h
  cases e
  obtain ⟨g, o, e2, hg, hc⟩ := h4 (by intro e; subst e; simp at hk)
  have hx : l[k]? = some l[k] := List.getElem?_eq_getElem hk
  exact ⟨g, o, l[k], e2, hg, hx, hc k _ hx⟩
theorem Rd1.lens {A : Option Addr} {n c : Nat} (h : Rd1 E B w (.slice A n c) l) : n = l.length ∧ l.length ≤ c ∧ c ≤ maxLen := by
  obtain ⟨A', c', e, h1, h2, -, -⟩ := h
  cases e
  exact ⟨rfl, h1, h2⟩
/-- A block that is known whole. -/
def Blk (w : World) (g : Nat) (t : TypeId) (cs : Array Value) : Prop := w.heap[g]? = some (.cells cs t (0, 0))
variable {g : Nat} {t : TypeId} {cs : Array Value}
theorem Blk.lt (h : Blk w g t cs) : g < w.heap.size := by
  rcases Nat.lt_or_ge g w.heap.size with hlt | hge
  · exact hlt
  · unfold Blk at h; rw [Array.getElem?_eq_none hge] at h; cases h
theorem Blk.cell (h : Blk w g t cs) (i : Nat) : w.cell? ⟨g, i, none⟩ = cs[i]? := cell_of_row w g i cs t (0, 0) h
theorem Blk.frozen (h : Blk w g t cs) (i : Nat) : w.frozen? ⟨g, i, none⟩ = false := by
  unfold Blk at h
  simp [World.frozen?, h]
theorem Blk.new (w : World) (t : TypeId) (cs : Array Value) : Blk (w.alloc (.cells cs t)) w.heap.size t cs := heap_alloc_new w _
theorem Blk.drew (h : Blk w g t cs) : Blk w.drew g t cs := h
theorem Blk.drewN (h : Blk w g t cs) (n : Nat) : Blk (w.drewN n) g t cs := h
theorem Blk.alloc (h : Blk w g t cs) (o : Obj) : Blk (w.alloc o) g t cs := (Below.heap_alloc w o g h.lt).trans h
theorem Blk.over (h : Blk w g t cs) (T : Array Obj) (d : Nat) : Blk (w.over T d) g t cs := (over_block h.lt).trans h
theorem Blk.set_ (h : Blk w g t cs) (i : Nat) (u : Value) : Blk (w.setCell ⟨g, i, none⟩ u) g t (cs.setIfInBounds i u) := by
  unfold Blk at h ⊢
  simp [World.setCell, Array.getElem?_modify, h]
theorem Blk.far (h : Blk w g t cs) {p : Addr} (hp : g ≠ p.block) (u : Value) : Blk (w.setCell p u) g t cs := (Below.heap_setCell w p u g hp).trans h
theorem Blk.below {B : Nat} (h : Blk w g t cs) (hb : Below B w w') (hg : g < B) : Blk w' g t cs := (hb.block g hg).trans h
theorem Blk.now (h : Blk w g t cs) (hb : Below w.heap.size w w') : Blk w' g t cs := h.below hb h.lt
/-- A block that holds a list's cells from o on reads so. -/
theorem Rd1.of_blk {o n c : Nat} (h : Blk w g t cs) (hB : g < B) (hl : l.length = n) (hc : n ≤ c) (hm : c ≤ maxLen) (hi : ∀ i x, l[i]? = some x → cs[o + i]? = some (E x)) : Rd1 E B w (.slice (some ⟨g, o, none⟩) n c) l :=
  ⟨some ⟨g, o, none⟩, c, by rw [hl], by omega, hm, (fun e => by cases e), fun _ => ⟨g, o, rfl, hB, fun i x hx => (h.cell _).trans (hi i x hx)⟩⟩
end
abbrev RdB := Rd1 (fun c : UInt8 => Value.int .u8 (c.toNat : Int))
abbrev RdI := Rd1 (fun z : Int => Value.int .i64 z)
/-- A slice of byte slices. -/
def RdR (B : Nat) (w : World) (v : Value) (ls : List (List UInt8)) : Prop :=
  ∃ vs : List Value, Rd1 id B w v vs ∧ vs.length = ls.length ∧ ∀ (i : Nat) (u : Value) (x : List UInt8), vs[i]? = some u → ls[i]? = some x → RdB B w u x
theorem RdR.below {B : Nat} {w w' : World} {v : Value} {ls : List (List UInt8)} (h : RdR B w v ls) (hb : Below B w w') : RdR B w' v ls := by
  obtain ⟨vs, h1, h2, h3⟩ := h
  exact ⟨vs, h1.below hb, h2, fun i u x hu hx => (h3 i u x hu hx).below hb⟩
theorem RdR.now {w w' : World} {v : Value} {ls : List (List UInt8)} (h : RdR w.heap.size w v ls) (hb : Below w.heap.size w w') : RdR w'.heap.size w' v ls := by
  obtain ⟨vs, h1, h2, h3⟩ := h
  exact ⟨vs, h1.now hb, h2, fun i u x hu hx => (h3 i u x hu hx).now hb⟩
theorem bytes_lt (c : UInt8) : c.toNat < 256 := c.toNat_lt
theorem take_succ' {α : Type} {l : List α} {k : Nat} {x : α} (h : l[k]? = some x) : l.take (k + 1) = l.take k ++ [x] := by
  obtain ⟨hk, rfl⟩ := List.getElem?_eq_some_iff.1 h
  exact List.take_succ_eq_append_getElem hk
/-- A block's cells as a function of the place. -/
def rowF (n : Nat) (f : Nat → Value) : Array Value := (Array.range n).map f
theorem rowF_at {n i : Nat} {f : Nat → Value} (h : i < n) : (rowF n f)[i]? = some (f i) := by simp [rowF, h]
theorem rowF_size (n : Nat) (f : Nat → Value) : (rowF n f).size = n := by simp [rowF]
theorem rowF_set (n i : Nat) (f : Nat → Value) (u : Value) : (rowF n f).setIfInBounds i u = rowF n (fun j => if j = i then u else f j) := by
  apply Array.ext_getElem?
  intro j
  simp only [rowF, Array.getElem?_setIfInBounds, Array.getElem?_map, Array.size_map, Array.size_range]
  by_cases hj : i = j
  · subst hj; by_cases hn : i < n <;> simp [hn]
  · rw [if_neg hj]; by_cases hn : j < n <;> simp [hn, Ne.symm hj]
theorem rowF_congr {n : Nat} {f g : Nat → Value} (h : ∀ i, i < n → f i = g i) : rowF n f = rowF n g := by
  apply Array.ext_getElem?
  intro j
  by_cases hj : j < n
  · rw [rowF_at hj, rowF_at hj, h j hj]
  · simp [rowF, hj]
/-- What lies outside S is as it was. -/
structure Kept (S : Nat → Prop) (w w' : World) : Prop where
  os : w'.os = w.os
  tape : w'.tape = w.tape
  output : w'.output = w.output
  size : w.heap.size ≤ w'.heap.size
  block : ∀ k, k < w.heap.size → ¬ S k → w'.heap[k]? = w.heap[k]?
section
variable {S S' : Nat → Prop} {w w' w'' : World}
theorem Kept.refl (S : Nat → Prop) (w : World) : Kept S w w := ⟨rfl, rfl, rfl, Nat.le_refl _, fun _ _ _ => rfl⟩
theorem Kept.trans (h : Kept S w w') (h' : Kept S' w' w'') (hs : ∀ k, k < w.heap.size → S' k → S k) : Kept S w w'' :=
  ⟨h'.os.trans h.os, h'.tape.trans h.tape, h'.output.trans h.output, Nat.le_trans h.size h'.size, fun k hk hn => (h'.block k (Nat.lt_of_lt_of_le hk h.size) (fun e => hn (hs k hk e))).trans (h.block k hk hn)⟩
theorem Kept.wide (h : Kept S w w') (hs : ∀ k, k < w.heap.size → S k → S' k) : Kept S' w w' := (Kept.refl S' w).trans h hs
theorem Kept.of_below (S : Nat → Prop) {B : Nat} (h : Below B w w') (hB : w.heap.size ≤ B) : Kept S w w' := ⟨h.os, h.tape, h.output, h.size, fun k hk _ => h.block k (by omega)⟩
theorem Kept.call (h : Kept S w w') (hb : Below w'.heap.size w' w'') : Kept S w w'' := h.trans (Kept.of_below S hb (Nat.le_refl _)) (fun _ _ e => e)
theorem Kept.below {B : Nat} (h : Kept S w w') (hB : ∀ k, S k → B ≤ k) (hs : B ≤ w.heap.size) : Below B w w' :=
  ⟨h.os, h.tape, h.output, h.size, fun k hk => h.block k (by omega) (fun e => by have := hB k e; omega)⟩
theorem Kept.alloc (h : Kept S w w') (o : Obj) : Kept S w (w'.alloc o) := h.call ((Below.refl _ _).alloc (Nat.le_refl _) o)
theorem Kept.drew (h : Kept S w w') : Kept S w w'.drew := ⟨h.os, h.tape, h.output, h.size, h.block⟩
theorem Kept.drewN (h : Kept S w w') (n : Nat) : Kept S w (w'.drewN n) := ⟨h.os, h.tape, h.output, h.size, h.block⟩
theorem Kept.over (h : Kept S w w') (T : Array Obj) (d : Nat) : Kept S w (w'.over T d) := h.call (over_below (Nat.le_refl _))
theorem Kept.set_ (h : Kept S w w') {p : Addr} (hp : p.block < w.heap.size → S p.block) (v : Value) : Kept S w (w'.setCell p v) :=
  h.trans (S' := fun k => k = p.block) ⟨rfl, rfl, rfl, by simp [World.setCell], fun k _ hn => Below.heap_setCell w' p v k hn⟩ (fun k hk e => by subst e; exact hp hk)
theorem Kept.grown (h : Kept S w w') {row : Option Nat} (hg : w'.grownBy w'' row) (hr : ∀ k, row = some k → k < w.heap.size → S k) : Kept S w w'' :=
  h.trans (S' := fun k => row = some k) ⟨hg.os, hg.tape, hg.output, hg.size, fun k hk hn => hg.block k hk (fun e => hn e.symm)⟩ (fun k hk e => hr k e hk)
variable {g : Nat} {t : TypeId} {cs : Array Value}
theorem Blk.kept (h : Blk w g t cs) (hk : Kept S w w') (hn : ¬ S g) : Blk w' g t cs := (hk.block g h.lt hn).trans h
theorem own_kept {base e n : Nat} {v : Value} {xs : List Value} (h : w.ownsRow base e 1 v n xs) (hk : Kept S w w') (hn : ∀ k, v.ownBlock = some k → ¬ S k) : w'.ownsRow base e 1 v n xs := by
  obtain ⟨h1, h2⟩ := h
  refine ⟨h1, ?_⟩
  rcases h2 with h2 | ⟨g, cap, cur, rfl, hg, hh, r⟩
  · exact .inl h2
  · exact .inr ⟨g, cap, cur, rfl, hg, (hk.block g (Array.getElem?_eq_some_iff.1 hh).1 (hn g rfl)).trans hh, r⟩
theorem own_blk_ne {base e size n : Nat} {v : Value} {xs : List Value} (h : w.ownsRow base e size v n xs) (hg : Blk w g t cs) (hne : e ≠ t) : v.ownBlock ≠ some g := by
  rcases h.2 with ⟨rfl, _⟩ | ⟨g', cap, cur, rfl, _, hh, _⟩
  · simp [Value.ownBlock]
  · intro he
    have : g' = g := by simpa [Value.ownBlock] using he
    subst this
    unfold Blk at hg
    rw [hg] at hh
    injection hh with hh
    injection hh with _ ht
    exact hne ht.symm
theorem blk_ne {g' : Nat} {t' : TypeId} {cs' : Array Value} (h : Blk w g t cs) (h' : Blk w g' t' cs') (hne : t ≠ t') : g ≠ g' := by
  rintro rfl
  unfold Blk at h h'
  rw [h] at h'
  injection h' with h'
  injection h' with _ ht
  exact hne ht
end
/-- A row stays where it was, or lies in a new block. -/
def RowStep (w : World) (r r' : Option Nat) : Prop := r' = r ∨ ∃ k, r' = some k ∧ w.heap.size ≤ k
theorem RowStep.refl (w : World) (r : Option Nat) : RowStep w r r := .inl rfl
theorem RowStep.trans {w w1 : World} {r r1 r2 : Option Nat} (h : RowStep w r r1) (h1 : RowStep w1 r1 r2) (hs : w.heap.size ≤ w1.heap.size) : RowStep w r r2 := by
  rcases h1 with rfl | ⟨k, rfl, hk⟩
  · exact h
  · exact .inr ⟨k, rfl, by omega⟩
end Go.Proofs.Ytiapoinobdnboaa.Mem
