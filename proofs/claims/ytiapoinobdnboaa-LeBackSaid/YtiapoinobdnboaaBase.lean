/- Small words that every walk of this seat uses. -/
import Derived.WalkKit
import Derived.KernelRfl
import Derived.Below
import Derived.LoopTactic
import Derived.Laws.Rows
import Derived.WalkLawsBesides
import Derived.WalkSmall
import Derived.Lib.Hide
import Derived.Deep.QuietTactic
import Derived.BigQuiet
import Derived.Deep.RegionWith
import Derived.OwnWalk
namespace Go.Proofs.Ytiapoinobdnboaa.Base
open Go Go.RowKit
attribute [go_sem] Instr.field asAgg
theorem ret_bool {a b : Bool} (h : a = b) : Ending.returned (.bool a) = .returned (.bool b) := by rw [h]
theorem ret_int {k : IntKind} {a b : Int} (h : a = b) : Ending.returned (.int k a) = .returned (.int k b) := by rw [h]
theorem bel_alloc {w w1 : World} (h : Below w.heap.size w w1) (o : Obj) : Below w.heap.size w (w1.alloc o) := h.alloc h.size o
theorem bel_set {w w1 : World} {p : Addr} (h : Below w.heap.size w w1) (hp : w.heap.size ≤ p.block) (v : Value) : Below w.heap.size w (w1.setCell p v) := h.setCell hp v
theorem bel_call {w W1 w1 : World} (h : Below w.heap.size w W1) (hb : Below W1.heap.size W1 w1) : Below w.heap.size w w1 := h.trans (hb.mono h.size)
theorem bcell {W w1 : World} (hb : Below W.heap.size W w1) : (∀ b o, b < W.heap.size → w1.cell? ⟨b, o, none⟩ = W.cell? ⟨b, o, none⟩) ∧ (∀ b o, b < W.heap.size → w1.frozen? ⟨b, o, none⟩ = W.frozen? ⟨b, o, none⟩) :=
  ⟨fun b o h => hb.cell (p := ⟨b, o, none⟩) h, fun b o h => hb.frozen (p := ⟨b, o, none⟩) h⟩
theorem bel_drew {w w1 : World} (h : Below w.heap.size w w1) : Below w.heap.size w w1.drew := h.drew
theorem bel_drewN {w w1 : World} (h : Below w.heap.size w w1) (n : Nat) : Below w.heap.size w (w1.drewN n) := below_drewN h n
/-! A world behind a call that leaves all that was as it was: the old world with some blocks more, and another count of draws. -/
end Go.Proofs.Ytiapoinobdnboaa.Base
namespace Go
def World.over (w : World) (t : Array Obj) (d : Nat) : World := { w with heap := w.heap ++ t, drawn := d }
end Go
namespace Go.Proofs.Ytiapoinobdnboaa.Base
open Go Go.RowKit
theorem over_of_below {W w' : World} (h : Below W.heap.size W w') : ∃ t d, w' = W.over t d := by
  refine ⟨w'.heap.extract W.heap.size w'.heap.size, w'.drawn, ?_⟩
  have e : w'.heap = W.heap ++ w'.heap.extract W.heap.size w'.heap.size := by
    apply Array.ext_getElem?
    intro i
    rw [Array.getElem?_append]
    split
    · exact h.block i ‹_›
    · rw [Array.getElem?_extract]
      have hs := h.size
      split
      · congr 1; omega
      · rw [Array.getElem?_eq_none_iff]; omega
  cases w'
  simp only [World.over]
  simp only at e
  have h1 := h.os; have h2 := h.tape; have h3 := h.output
  simp only at h1 h2 h3
  rw [← e, ← h1, ← h2, ← h3]
section
variable {w : World} {t : Array Obj} {d n i m : Nat} {v : Value}
theorem over_size : (w.over t d).heap.size = w.heap.size + t.size := by simp [World.over]
theorem over_block (h : n < w.heap.size) : (w.over t d).heap[n]? = w.heap[n]? := by simp only [World.over, Array.getElem?_append, h, if_true]
@[go_sem] theorem over_cell (h : n < w.heap.size) : (w.over t d).cell? ⟨n, i, none⟩ = w.cell? ⟨n, i, none⟩ := by simp only [World.cell?, over_block h]
@[go_sem] theorem over_frozen (h : n < w.heap.size) : (w.over t d).frozen? ⟨n, i, none⟩ = w.frozen? ⟨n, i, none⟩ := by simp only [World.frozen?, over_block h]
@[go_sem] theorem over_setCell (h : n < w.heap.size) : (w.over t d).setCell ⟨n, i, none⟩ v = (w.setCell ⟨n, i, none⟩ v).over t d := by
  unfold World.setCell World.over
  congr 1
  apply Array.ext_getElem?
  intro k
  simp only [Array.getElem?_modify, Array.getElem?_append, Array.size_modify]
  by_cases hk : n = k
  · subst hk; simp [h]
  · simp [hk]
@[go_sem] theorem over_drew : (w.over t d).drew = w.over t (d + 1) := rfl
@[go_sem] theorem over_drewN : (w.over t d).drewN m = w.over t (d + m) := rfl
@[go_sem] theorem over_tape : (w.over t d).tape = w.tape := rfl
@[go_sem] theorem over_size' : (w.over t d).heap.size = w.heap.size + t.size := over_size
theorem over_named {W w' : World} (h : Below W.heap.size W w') : ∃ t d n, w' = W.over t d ∧ W.heap.size + t.size = n ∧ W.heap.size ≤ n := by
  obtain ⟨t, d, e⟩ := over_of_below h
  exact ⟨t, d, _, e, rfl, Nat.le_add_right _ _⟩
theorem bel_over {w0 : World} (h : Below w0.heap.size w0 w) : Below w0.heap.size w0 (w.over t d) :=
  h.trans ⟨rfl, rfl, rfl, by rw [over_size]; have := h.size; omega, fun k hk => over_block (Nat.lt_of_lt_of_le hk h.size)⟩
end
/-! A region that draws its order, whose operations only read and whose callees leave what was there alone: one walk, in the text's order. -/
structure Junk where
  t : Array Obj
  d : Nat
  deriving Inhabited
theorem wp_region_over {P : Program} {id : Nat} {Q : Exit → Act → World → Prop} {a : Act} {w : World} {l : List Oper} (hm : P.follows .mixedOrders = true) (hB : Region.lexB .any l.toArray = true)
    (h : wpQuiet P l.toArray (fun w' => ∃ p : Junk, w' = w.over p.t p.d) (fun a' => ∀ w', (∃ p : Junk, w' = w.over p.t p.d) → Q .normal a' w') l a) : (Code.region id l.toArray true).wp P Q a w :=
  wp_region_quiet (C := fun w' => ∃ p : Junk, w' = w.over p.t p.d) hm hB ⟨⟨#[], w.drawn + 1⟩, rfl⟩ (by simpa using h)
theorem calls_over {P : Program} {f : FuncId} {args : Array Value} {w : World} {t : Array Obj} {d : Nat} {v : Value}
    (h : Calls P f args (w.over t d) fun e w' => e = .returned v ∧ Below (w.over t d).heap.size (w.over t d) w') : Calls P f args (w.over t d) fun e w'' => e = .returned v ∧ ∃ p : Junk, w'' = w.over p.t p.d :=
  h.mono fun _ _ ⟨he, hb⟩ => ⟨he, by
    obtain ⟨t', d', e⟩ := over_of_below hb
    exact ⟨⟨t ++ t', d'⟩, by rw [e]; simp [World.over]⟩⟩
theorem junk_named {W w' : World} (h : ∃ p : Junk, w' = W.over p.t p.d) : ∃ t d n, w' = W.over t d ∧ W.heap.size + t.size = n ∧ W.heap.size ≤ n := by
  obtain ⟨p, e⟩ := h
  exact ⟨p.t, p.d, _, e, rfl, Nat.le_add_right _ _⟩
theorem own_over {w : World} {t : Array Obj} {d base : Nat} {e : TypeId} {size n : Nat} {v : Value} {xs : List Value} (h : w.ownsRow base e size v n xs) : (w.over t d).ownsRow base e size v n xs := by
  obtain ⟨h1, h2⟩ := h
  refine ⟨h1, ?_⟩
  rcases h2 with h2 | ⟨g, cap, cur, rfl, hg, hh, r⟩
  · exact .inl h2
  · exact .inr ⟨g, cap, cur, rfl, hg, (over_block (Array.getElem?_eq_some_iff.1 hh).1).trans hh, r⟩
theorem own_base {w : World} {base : Nat} {e : TypeId} {size n : Nat} {v : Value} {xs : List Value} (h : w.ownsRow base e size v n xs) : ∀ k, v.ownBlock = some k → base ≤ k := by
  rcases h.2 with ⟨rfl, _⟩ | ⟨g, cap, cur, rfl, hg, _⟩
  · intro k hk; simp [Value.ownBlock] at hk
  · intro k hk; simp [Value.ownBlock] at hk; omega
theorem own_lower {w : World} {base base' : Nat} {e : TypeId} {size n : Nat} {v : Value} {xs : List Value} (hb : base' ≤ base) (h : w.ownsRow base e size v n xs) : w.ownsRow base' e size v n xs := by
  obtain ⟨h1, h2⟩ := h
  refine ⟨h1, ?_⟩
  rcases h2 with h2 | ⟨g, cap, cur, rfl, hg, r⟩
  · exact .inl h2
  · exact .inr ⟨g, cap, cur, rfl, by omega, r⟩
/-- Behind an append to a row that lies beyond B: what was below B is as it was. -/
theorem grown_below {w w' : World} {base B : Nat} {e : TypeId} {size n : Nat} {v : Value} {xs : List Value} (hg : w.grownBy w' v.ownBlock) (h : w.ownsRow base e size v n xs) (hB : B ≤ base) (hs : B ≤ w.heap.size) : Below B w w' :=
  (Below.refl B w).grown hg hs (fun k hk => Nat.le_trans hB (own_base h k hk))
theorem over_below {w : World} {t : Array Obj} {d B : Nat} (hB : B ≤ w.heap.size) : Below B w (w.over t d) :=
  ⟨rfl, rfl, rfl, by rw [over_size]; omega, fun k hk => over_block (Nat.lt_of_lt_of_le hk hB)⟩
end Go.Proofs.Ytiapoinobdnboaa.Base
