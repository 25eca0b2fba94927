/- Arguments opened: slices whose elements are one cell read as lists. -/
import Derived.Test.YtiapoinobdnboaaMem
import Derived.WalkKit
import Derived.ProofKit
import Derived.OpenShut
import Derived.Deep.Slices
import Derived.SizedLaws
import Derived.DataReads
namespace Go.Proofs.Ytiapoinobdnboaa.Open
open Go Go.ChangeShapes Go.WideShapes Go.ChangeAt Go.RowKit Go.Deep Mem
section
variable {H : Type} {enc : TypeId × Value → H} {P : Program} {w : World} {base : Nat} {spare : Nat → Bool} {held : Bool}
theorem addr_of_cell {a : Addr} {v : Value} (h : w.cell? a = some v) : ∃ g o, a = ⟨g, o, none⟩ ∧ g < w.heap.size := by
  have hs := World.cell?_spot h
  refine ⟨a.block, a.off, ?_, ?_⟩
  · cases a; simp at hs; subst hs; rfl
  · rcases Nat.lt_or_ge a.block w.heap.size with hl | hl
    · exact hl
    · simp [World.cell?, Array.getElem?_eq_none hl] at h
theorem add_at (g o k : Nat) : (⟨g, o, none⟩ : Addr).add k = ⟨g, o + k, none⟩ := by unfold Addr.add; split <;> simp_all
/-- A slice of one-cell elements, each of which reads as some x (cell E x). -/
theorem open_rd1 {α : Type} [Inhabited α] {E : α → Value} {t e : TypeId} {fuel : Nat} {cs : List Value} {x : DataW H × List MemPlace} (ht : P.underlying t = some (.slice e)) (hc : P.cellsOf e = 1)
    (dec : ∀ (n : Nat) (u : Value) (y : DataW H × List MemPlace), DataW.trod enc P w base spare held n e [u] = some y → ∃ a : α, u = E a) (h : DataW.trod enc P w base spare held fuel t cs = some x) :
    ∃ (v : Value) (l : List α), cs = [v] ∧ Rd1 E w.heap.size w v l ∧ ((x.1 = .nil ∧ l = []) ∨ ∃ els rest, x.1 = .slice els rest ∧ els.length = l.length) := by
  rcases open_slice1 ht hc h with ⟨rfl, rfl⟩ | ⟨a, len, cap, m, n, V, D, Pl, rfl, hb, hl, hm, hmm, rfl, hx⟩
  · exact ⟨_, [], rfl, Rd1.nil_, .inl ⟨rfl, rfl⟩⟩
  · have hlm : len ≤ m := by rw [hmm]; split <;> omega
    obtain ⟨f, hf⟩ := choose_lt (α := α) (p := fun i a => V i = E a) (n := m) fun i hi => dec _ _ _ (hx i hi).2
    refine ⟨_, (List.range len).map f, rfl, ⟨some a, cap, by simp, by simpa using hl, hm, (fun e => by cases e), fun hn => ?_⟩, .inr ⟨_, _, rfl, by simp⟩⟩
    have h0 : 0 < len := by
      rcases Nat.eq_zero_or_pos len with h | h
      · subst h; simp at hn
      · exact h
    have hc0 := (hx 0 (by omega)).1
    have ha0 : a.add 0 = a := by simp [Addr.add]
    rw [ha0] at hc0
    obtain ⟨g, o, rfl, hg⟩ := addr_of_cell hc0
    refine ⟨g, o, rfl, hg, fun i x hi => ?_⟩
    have hil : i < len := by
      have := (List.getElem?_eq_some_iff.1 hi).1
      simpa using this
    have := (hx i (by omega)).1
    rw [add_at, hf i (by omega)] at this
    rw [this]
    simp [hil] at hi
    rw [hi]
theorem dec_byte {e : TypeId} (he : P.underlying e = some (.int .u8)) (n : Nat) (u : Value) (y : DataW H × List MemPlace) (h : DataW.trod enc P w base spare held n e [u] = some y) : ∃ a : UInt8, u = .int .u8 (a.toNat : Int) := by
  obtain ⟨k, hk, _, hw⟩ := DataW.trod_int he h
  refine ⟨UInt8.ofNat k.toNat, ?_⟩
  have hr : 0 ≤ k ∧ k ≤ 255 := by simpa [Lit.wf, IntKind.min, IntKind.max, IntKind.bits, IntKind.signed] using hw
  have : (UInt8.ofNat k.toNat).toNat = k.toNat := by rw [UInt8.toNat_ofNat']; omega
  rw [this]
  have e2 : u = .int .u8 k := by simpa using hk
  rw [e2]; congr 1; omega
theorem dec_int {e : TypeId} {q : IntKind} (he : P.underlying e = some (.int q)) (n : Nat) (u : Value) (y : DataW H × List MemPlace) (h : DataW.trod enc P w base spare held n e [u] = some y) : ∃ a : { z : Int // (Lit.int q z).wf = true }, u = .int q a.1 := by
  obtain ⟨k, hk, _, hw⟩ := DataW.trod_int he h
  exact ⟨⟨k, hw⟩, by simpa using hk⟩
/-- An argument of bytes. -/
theorem open_bytes {r : Reach} {b0 : Nat} {t e : TypeId} {v : Value} {d : DataW H} {p : List MemPlace} (ht : P.underlying t = some (.slice e)) (he : P.underlying e = some (.int .u8)) (hc : P.cellsOf e = 1)
    (hv : Value.okWide P w r b0 t v) (h : DataW.Trod enc P w base spare held t v d p) :
    ∃ l : List UInt8, RdB w.heap.size w v l ∧ ((d = .nil ∧ l = []) ∨ ∃ els rest, d = .slice els rest ∧ els.length = l.length) := by
  obtain ⟨a, len, cap, rfl⟩ := okWide_slice ht hv
  obtain ⟨fuel, hf⟩ := h
  obtain ⟨v, l, hcs, hr, hd⟩ := open_rd1 (E := fun c : UInt8 => Value.int .u8 (c.toNat : Int)) ht hc (dec_byte he) hf
  have : v = .slice a len cap := by simpa [Value.cells] using hcs.symm
  subst this
  exact ⟨l, hr, hd⟩
/-- A slice of byte slices. -/
theorem open_rows {r : Reach} {b0 : Nat} {t e q : TypeId} {v : Value} {d : DataW H} {p : List MemPlace} (ht : P.underlying t = some (.slice e)) (he : P.underlying e = some (.slice q)) (hq : P.underlying q = some (.int .u8)) (hc : P.cellsOf e = 1) (hcq : P.cellsOf q = 1)
    (hv : Value.okWide P w r b0 t v) (h : DataW.Trod enc P w base spare held t v d p) :
    ∃ l : List (List UInt8), RdR w.heap.size w v l ∧ ((d = .nil ∧ l = []) ∨ ∃ els rest, d = .slice els rest ∧ els.length = l.length ∧ ∀ (i : Nat) (y : DataW H) (x : List UInt8), els[i]? = some y → l[i]? = some x → ((y = .nil ∧ x = []) ∨ ∃ els' rest', y = .slice els' rest' ∧ els'.length = x.length)) := by
  obtain ⟨a, len, cap, rfl⟩ := okWide_slice ht hv
  obtain ⟨fuel, hf⟩ := h
  rcases open_slice1 ht hc hf with ⟨hcs, hx⟩ | ⟨a', len', cap', m, n, V, D, Pl, hcs, hb, hl, hm, hmm, hx, hxx⟩
  · simp [Value.cells] at hcs
    obtain ⟨rfl, rfl, rfl⟩ := hcs
    simp only [Prod.mk.injEq] at hx
    exact ⟨[], ⟨[], Rd1.nil_, rfl, fun i u x h => by simp at h⟩, .inl ⟨hx.1, rfl⟩⟩
  · simp [Value.cells] at hcs
    obtain ⟨rfl, rfl, rfl⟩ := hcs
    simp only [Prod.mk.injEq] at hx
    have hlm : len ≤ m := by rw [hmm]; split <;> omega
    have key : ∀ i, i < m → ∃ l : List UInt8, RdB w.heap.size w (V i) l ∧ ((D i = .nil ∧ l = []) ∨ ∃ els rest, D i = .slice els rest ∧ els.length = l.length) := by
      intro i hi
      obtain ⟨u, l, hcs, hr, hd⟩ := open_rd1 (E := fun c : UInt8 => Value.int .u8 (c.toNat : Int)) he hcq (dec_byte hq) (hxx i hi).2
      have : V i = u := by simpa using hcs
      rw [this]
      exact ⟨l, hr, hd⟩
    obtain ⟨L, hL⟩ := choose_lt key
    refine ⟨(List.range len).map L, ⟨(List.range len).map V, ?_, by simp, ?_⟩, .inr ⟨_, _, hx.1, by simp, ?_⟩⟩
    · refine ⟨some a', cap, by simp, by simpa using hl, hm, (fun e => by cases e), fun hn => ?_⟩
      have h0 : 0 < len := by
        rcases Nat.eq_zero_or_pos len with h | h
        · subst h; simp at hn
        · exact h
      have hc0 := (hxx 0 (by omega)).1
      have ha0 : a'.add 0 = a' := by simp [Addr.add]
      rw [ha0] at hc0
      obtain ⟨g, o, rfl, hg⟩ := addr_of_cell hc0
      refine ⟨g, o, rfl, hg, fun i x hi => ?_⟩
      have hil : i < len := by
        have := (List.getElem?_eq_some_iff.1 hi).1
        simpa using this
      have := (hxx i (by omega)).1
      rw [add_at] at this
      rw [this]
      simp [hil] at hi
      rw [hi]; rfl
    · intro i u x hu hx
      have hil : i < len := by
        have := (List.getElem?_eq_some_iff.1 hu).1
        simpa using this
      simp [hil] at hu hx
      rw [← hu, ← hx]
      exact (hL i (by omega)).1
    · intro i y x hy hx
      have hil : i < len := by
        have := (List.getElem?_eq_some_iff.1 hx).1
        simpa using this
      simp [hil] at hy hx
      rw [← hy, ← hx]
      exact (hL i (by omega)).2
end
/-- Its length lies within the reach: the j-th argument. -/
theorem reach_len {H : Type} {P : Program} {ts : List TypeId} {ds : List (DataW H)} (h : (DataW.weightsEach P ts ds).all (· ≤ reachBytes) = true) {j : Nat} {t e : TypeId} {d : DataW H} {α : Type} {l : List α} {b : Nat} (ht : ts[j]? = some t) (hj : ds[j]? = some d) (hu : P.underlying t = some (.slice e)) (hb : P.bytesOf e = b)
    (hd : (d = .nil ∧ l = []) ∨ ∃ els rest, d = .slice els rest ∧ els.length = l.length) : l.length * b ≤ 140737488351232 := by
  rcases hd with ⟨_, rfl⟩ | ⟨els, rest, rfl, hl⟩
  · simp
  · have := sized_slice h ht hj hu
    rw [hb, Nat.add_mul] at this
    have hR : reachBytes = 140737488351232 := by decide
    rw [← hl]
    omega
end Go.Proofs.Ytiapoinobdnboaa.Open
