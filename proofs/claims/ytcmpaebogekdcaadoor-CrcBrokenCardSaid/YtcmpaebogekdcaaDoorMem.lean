/- Slices that read as lists, whatever their address; blocks known whole. -/
import Derived.Test.YtcmpaebogekdcaaDoorBase
import Derived.Below
import Derived.Laws.OwnMore
import Derived.Deep.Draws
import Derived.Laws.Rows
import Derived.Deep.AppendLies
namespace Go.Proofs.YtcmpaebogekdcaaDoor.Mem
open Go Go.RowKit Base
set_option linter.unusedSectionVars false
/-- The slice v, below block B, reads as l: each element one cell. -/
def Rd1 {α : Type} (E : α → Value) (B : Nat) (w : World) (v : Value) (l : List α) : Prop :=
  ∃ A c, v = .slice A l.length c ∧ l.length ≤ c ∧ c ≤ maxLen ∧ (A = none → c = 0) ∧ (l ≠ [] → ∃ g o, A = some ⟨g, o, none⟩ ∧ g < B ∧ ∀ i x, l[i]? = some x → w.cell? ⟨g, o + i, none⟩ = some (E x))
section
variable {α : Type} {E : α → Value} {B B' : Nat} {w w' : World} {v : Value} {l : List α}
theorem Rd1.nil_ : Rd1 E B w (.slice none 0 0) [] := ⟨none, 0, rfl, by simp, by simp, fun _ => rfl, fun h => absurd rfl h⟩
theorem Rd1.keep (h : Rd1 E B w v l) (hk : ∀ p : Addr, p.block < B → w'.cell? p = w.cell? p) : Rd1 E B w' v l := by
  obtain ⟨A, c, e, h1, h2, h3, h4⟩ := h
  refine ⟨A, c, e, h1, h2, h3, fun hn => ?_⟩
  obtain ⟨g, o, e2, hg, hc⟩ := h4 hn
  exact ⟨g, o, e2, hg, fun i x hx => (hk ⟨g, o + i, none⟩ hg).trans (hc i x hx)⟩
theorem Rd1.more (h : Rd1 E B w v l) (hB : B ≤ B') : Rd1 E B' w v l := by
  obtain ⟨A, c, e, h1, h2, h3, h4⟩ := h
  refine ⟨A, c, e, h1, h2, h3, fun hn => ?_⟩
  obtain ⟨g, o, e2, hg, hc⟩ := h4 hn
  exact ⟨g, o, e2, by omega, hc⟩
theorem Rd1.below (h : Rd1 E B w v l) (hb : Below B w w') : Rd1 E B w' v l := h.keep fun _ hp => hb.cell hp
/-- Into a later world, its own size the bound. -/
theorem Rd1.now (h : Rd1 E w.heap.size w v l) (hb : Below w.heap.size w w') : Rd1 E w'.heap.size w' v l := (h.below hb).more hb.size
theorem Rd1.at_ {A : Option Addr} {n c k : Nat} (h : Rd1 E B w (.slice A n c) l) (hk : k < l.length) : ∃ g o x, A = some ⟨g, o, none⟩ ∧ g < B ∧ l[k]? = some x ∧ w.cell? ⟨g, o + k, none⟩ = some (E x) := by
  obtain ⟨A', c', e, h1, h2, h3, h4⟩ := h
  cases e
  obtain ⟨g, o, e2, hg, hc⟩ := h4 (by intro e; subst e; simp at hk)
  have hx : l[k]? = some l[k] := List.getElem?_eq_getElem hk
  exact ⟨g, o, l[k], e2, hg, hx, hc k _ hx⟩
/-- A block that is known whole. -/
def Blk (w : World) (g : Nat) (t : TypeId) (cs : Array Value) : Prop := w.heap[g]? = some (.cells cs t (0, 0))
variable {g : Nat} {t : TypeId} {cs : Array Value}
theorem Blk.lt (h : Blk w g t cs) : g < w.heap.size := by
  rcases Nat.lt_or_ge g w.heap.size with hlt | hge
  · exact hlt
  · unfold Blk at h; rw [Array.getElem?_eq_none hge] at h; cases h
theorem Blk.cell (h : Blk w g t cs) (i : Nat) : w.cell? ⟨g, i, none⟩ = cs[i]? := cell_of_row w g i cs t (0, 0) h
theorem Blk.frozen (h : Blk w g t cs) (i : Nat) : w.frozen? ⟨g, i, none⟩ = false := by
  unfold Blk at h
  simp [World.frozen?, h]
theorem Blk.new (w : World) (t : TypeId) (cs : Array Value) : Blk (w.alloc (.cells cs t)) w.heap.size t cs := heap_alloc_new w _
theorem Blk.drew (h : Blk w g t cs) : Blk w.drew g t cs := h
theorem Blk.drewN (h : Blk w g t cs) (n : Nat) : Blk (w.drewN n) g t cs := h
theorem Blk.alloc (h : Blk w g t cs) (o : Obj) : Blk (w.alloc o) g t cs := (Below.heap_alloc w o g h.lt).trans h
theorem Blk.over (h : Blk w g t cs) (T : Array Obj) (d : Nat) : Blk (w.over T d) g t cs := (over_block h.lt).trans h
theorem Blk.set_ (h : Blk w g t cs) (i : Nat) (u : Value) : Blk (w.setCell ⟨g, i, none⟩ u) g t (cs.setIfInBounds i u) := by
  unfold Blk at h ⊢
  simp [World.setCell, Array.getElem?_modify, h]
theorem Blk.far (h : Blk w g t cs) {p : Addr} (hp : g ≠ p.block) (u : Value) : Blk (w.setCell p u) g t cs := (Below.heap_setCell w p u g hp).trans h
theorem Blk.below {B : Nat} (h : Blk w g t cs) (hb : Below B w w') (hg : g < B) : Blk w' g t cs := (hb.block g hg).trans h
theorem Blk.now (h : Blk w g t cs) (hb : Below w.heap.size w w') : Blk w' g t cs := h.below hb h.lt
/-- A block that holds a list's cells from o on reads so. -/
theorem Rd1.of_blk {o n c : Nat} (h : Blk w g t cs) (hB : g < B) (hl : l.length = n) (hc : n ≤ c) (hm : c ≤ maxLen) (hi : ∀ i x, l[i]? = some x → cs[o + i]? = some (E x)) : Rd1 E B w (.slice (some ⟨g, o, none⟩) n c) l :=
  ⟨some ⟨g, o, none⟩, c, by rw [hl], by omega, hm, (fun e => by cases e), fun _ => ⟨g, o, rfl, hB, fun i x hx => (h.cell _).trans (hi i x hx)⟩⟩
end
abbrev RdB := Rd1 (fun c : UInt8 => Value.int .u8 (c.toNat : Int))
abbrev RdI := Rd1 (fun z : Int => Value.int .i64 z)
/-- A slice of byte slices. -/
def RdR (B : Nat) (w : World) (v : Value) (ls : List (List UInt8)) : Prop :=
  ∃ vs : List Value, Rd1 id B w v vs ∧ vs.length = ls.length ∧ ∀ (i : Nat) (u : Value) (x : List UInt8), vs[i]? = some u → ls[i]? = some x → RdB B w u x
theorem RdR.below {B : Nat} {w w' : World} {v : Value} {ls : List (List UInt8)} (h : RdR B w v ls) (hb : Below B w w') : RdR B w' v ls := by
  obtain ⟨vs, h1, h2, h3⟩ := h
  exact ⟨vs, h1.below hb, h2, fun i u x hu hx => (h3 i u x hu hx).below hb⟩
theorem RdR.now {w w' : World} {v : Value} {ls : List (List UInt8)} (h : RdR w.heap.size w v ls) (hb : Below w.heap.size w w') : RdR w'.heap.size w' v ls := by
  obtain ⟨vs, h1, h2, h3⟩ := h
  exact ⟨vs, h1.now hb, h2, fun i u x hu hx => (h3 i u x hu hx).now hb⟩
theorem bytes_lt (c : UInt8) : c.toNat < 256 := c.toNat_lt
theorem take_succ' {α : Type} {l : List α} {k : Nat} {x : α} (h : l[k]? = some x) : l.take (k + 1) = l.take k ++ [x] := by
  obtain ⟨hk, rfl⟩ := List.getElem?_eq_some_iff.1 h
  exact List.take_succ_eq_append_getElem hk
/-- A block's cells as a function of the place. -/
def rowF (n : Nat) (f : Nat → Value) : Array Value := (Array.range n).map f
theorem rowF_at {n i : Nat} {f : Nat → Value} (h : i < n) : (rowF n f)[i]? = some (f i) := by simp [rowF, h]
theorem rowF_size (n : Nat) (f : Nat → Value) : (rowF n f).size = n := by simp [rowF]
theorem rowF_set (n i : Nat) (f : Nat → Value) (u : Value) : (rowF n f).setIfInBounds i u = rowF n (fun j => if j = i then u else f j) := by
  apply Array.ext_getElem?
  intro j
  simp only [rowF, Array.getElem?_setIfInBounds, Array.getElem?_map, Array.size_map, Array.size_range]
  by_cases hj : i = j
  · subst hj; by_cases hn : i < n <;> simp [hn]
  · rw [if_neg hj]; by_cases hn : j < n <;> simp [hn, Ne.symm hj]
theorem rowF_congr {n : Nat} {f g : Nat → Value} (h : ∀ i, i < n → f i = g i) : rowF n f = rowF n g := by
  apply Array.ext_getElem?
  intro j
  by_cases hj : j < n
  · rw [rowF_at hj, rowF_at hj, h j hj]
  · simp [rowF, hj]
end Go.Proofs.YtcmpaebogekdcaaDoor.Mem
