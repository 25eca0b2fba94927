/- Arguments opened: structs whose fields are one cell each: numbers, bytes, ints in slices; and slices of such. -/
import Derived.Test.YtiapoinobdnboaaOpen
import Derived.Deep.Fields
namespace Go.Proofs.Ytiapoinobdnboaa.Open
open Go Go.ChangeShapes Go.WideShapes Go.ChangeAt Go.RowKit Go.Deep Mem
inductive FK where
  | num (q : IntKind)
  | bys
  | ints
  deriving DecidableEq
inductive FV where
  | num (q : IntKind) (z : Int)
  | bys (v : Value) (l : List UInt8)
  | ints (v : Value) (l : List Int)
def FV.kind : FV → FK
  | .num q _ => .num q
  | .bys _ _ => .bys
  | .ints _ _ => .ints
def FV.val : FV → Value
  | .num q z => .int q z
  | .bys v _ => v
  | .ints v _ => v
def FV.ok (B : Nat) (w : World) : FV → Prop
  | .num q z => (Lit.int q z).wf = true
  | .bys v l => RdB B w v l
  | .ints v l => RdI B w v l ∧ ∀ z ∈ l, (Lit.int .i64 z).wf = true
theorem FV.ok_keep {B : Nat} {w w' : World} {f : FV} (h : f.ok B w) (hk : ∀ p : Addr, p.block < B → w'.cell? p = w.cell? p) : f.ok B w' := by
  cases f with
  | num q z => exact h
  | bys v l => exact Rd1.keep h hk
  | ints v l => exact ⟨Rd1.keep h.1 hk, h.2⟩
theorem FV.ok_more {B B' : Nat} {w : World} {f : FV} (h : f.ok B w) (hB : B ≤ B') : f.ok B' w := by
  cases f with
  | num q z => exact h
  | bys v l => exact Rd1.more h hB
  | ints v l => exact ⟨Rd1.more h.1 hB, h.2⟩
def kindOf (P : Program) (t : TypeId) : Option FK :=
  match P.underlying t with
  | some (.int q) => some (.num q)
  | some (.slice e) => match P.underlying e with
    | some (.int .u8) => if P.cellsOf e = 1 then some .bys else none
    | some (.int .i64) => if P.cellsOf e = 1 then some .ints else none
    | _ => none
  | _ => none
def kindsOf (P : Program) (fs : Array Field) : List (Option FK) := fs.toList.map fun f => kindOf P f.type
/-- A slice of structs of m cells each. -/
def RdRec (m : Nat) (ks : List FK) (B : Nat) (w : World) (v : Value) (l : List (List FV)) : Prop :=
  ∃ A c, v = .slice A l.length c ∧ l.length ≤ c ∧ c ≤ maxLen ∧ (l ≠ [] → ∃ g o, A = some ⟨g, o, none⟩ ∧ g < B ∧ ∀ i x, l[i]? = some x → x.map FV.kind = ks ∧ (∀ f ∈ x, f.ok B w) ∧ ∀ (j : Nat) (f : FV), x[j]? = some f → w.cell? ⟨g, o + i * m + j, none⟩ = some f.val)
theorem RdRec.keep {m : Nat} {ks : List FK} {B : Nat} {w w' : World} {v : Value} {l : List (List FV)} (h : RdRec m ks B w v l) (hk : ∀ p : Addr, p.block < B → w'.cell? p = w.cell? p) : RdRec m ks B w' v l := by
  obtain ⟨A, c, e, h1, h2, h4⟩ := h
  refine ⟨A, c, e, h1, h2, fun hn => ?_⟩
  obtain ⟨g, o, e2, hg, hc⟩ := h4 hn
  refine ⟨g, o, e2, hg, fun i x hx => ?_⟩
  obtain ⟨a1, a2, a3⟩ := hc i x hx
  exact ⟨a1, fun f hf => FV.ok_keep (a2 f hf) hk, fun j f hf => (hk ⟨g, o + i * m + j, none⟩ hg).trans (a3 j f hf)⟩
theorem RdRec.more {m : Nat} {ks : List FK} {B B' : Nat} {w : World} {v : Value} {l : List (List FV)} (h : RdRec m ks B w v l) (hB : B ≤ B') : RdRec m ks B' w v l := by
  obtain ⟨A, c, e, h1, h2, h4⟩ := h
  refine ⟨A, c, e, h1, h2, fun hn => ?_⟩
  obtain ⟨g, o, e2, hg, hc⟩ := h4 hn
  refine ⟨g, o, e2, by omega, fun i x hx => ?_⟩
  obtain ⟨a1, a2, a3⟩ := hc i x hx
  exact ⟨a1, fun f hf => FV.ok_more (a2 f hf) hB, a3⟩
theorem RdRec.below {m : Nat} {ks : List FK} {B : Nat} {w w' : World} {v : Value} {l : List (List FV)} (h : RdRec m ks B w v l) (hb : Below B w w') : RdRec m ks B w' v l := h.keep fun _ hp => hb.cell hp
theorem RdRec.at_ {m : Nat} {ks : List FK} {B n c k : Nat} {w : World} {A : Option Addr} {l : List (List FV)} (h : RdRec m ks B w (.slice A n c) l) (hk : k < l.length) :
    ∃ g o x, A = some ⟨g, o, none⟩ ∧ g < B ∧ l[k]? = some x ∧ x.map FV.kind = ks ∧ (∀ f ∈ x, f.ok B w) ∧ ∀ (j : Nat) (f : FV), x[j]? = some f → w.cell? ⟨g, o + k * m + j, none⟩ = some f.val := by
  obtain ⟨A', c', e, h1, h2, h4⟩ := h
  cases e
  obtain ⟨g, o, e2, hg, hc⟩ := h4 (by intro e; subst e; simp at hk)
  have hx : l[k]? = some l[k] := List.getElem?_eq_getElem hk
  obtain ⟨a1, a2, a3⟩ := hc k _ hx
  exact ⟨g, o, l[k], e2, hg, hx, a1, a2, a3⟩
section
variable {H : Type} {enc : TypeId × Value → H} {P : Program} {w : World} {base : Nat} {spare : Nat → Bool} {held : Bool}
theorem dec_fld {t : TypeId} {k : FK} (hk : kindOf P t = some k) {n : Nat} {u : Value} {y : DataW H × List MemPlace} (h : DataW.trod enc P w base spare held n t [u] = some y) : ∃ f : FV, f.kind = k ∧ f.val = u ∧ f.ok w.heap.size w := by
  unfold kindOf at hk
  split at hk
  · rename_i q hq
    cases hk
    obtain ⟨a, ha⟩ := dec_int hq n u y h
    exact ⟨.num q a.1, rfl, ha.symm, a.2⟩
  · rename_i e he
    split at hk
    · rename_i hu
      split at hk
      · rename_i hc
        cases hk
        obtain ⟨v, l, hcs, hr, -⟩ := open_rd1 (E := fun c : UInt8 => Value.int .u8 (c.toNat : Int)) he hc (dec_byte hu) h
        have : u = v := by simpa using hcs
        subst this
        exact ⟨.bys u l, rfl, rfl, hr⟩
      · cases hk
    · rename_i hu
      split at hk
      · rename_i hc
        cases hk
        haveI : Inhabited { z : Int // (Lit.int .i64 z).wf = true } := ⟨⟨0, by decide⟩⟩
        obtain ⟨v, l, hcs, hr, -⟩ := open_rd1 (α := { z : Int // (Lit.int .i64 z).wf = true }) (E := fun z => Value.int .i64 z.1) he hc (dec_int hu) h
        have : u = v := by simpa using hcs
        subst this
        refine ⟨.ints u (l.map (·.1)), rfl, rfl, ?_, ?_⟩
        · obtain ⟨A, c, e, h1, h2, h3, h4⟩ := hr
          refine ⟨A, c, by rw [e]; simp, by simpa using h1, h2, h3, fun hn => ?_⟩
          obtain ⟨g, o, e2, hg, hc⟩ := h4 (by intro e; subst e; simp at hn)
          refine ⟨g, o, e2, hg, fun i x hx => ?_⟩
          rw [List.getElem?_map] at hx
          cases hli : l[i]? with
          | none => rw [hli] at hx; cases hx
          | some z => rw [hli] at hx; cases hx; exact hc i z hli
        · intro z hz
          obtain ⟨y, _, rfl⟩ := List.mem_map.1 hz
          exact y.2
      · cases hk
    · cases hk
  · cases hk
theorem trod_flds {t : TypeId} {fs : Array Field} {ks : List FK} {fuel : Nat} {cs : List Value} {x : DataW H × List MemPlace} (hs : P.underlying t = some (.struct fs)) (hone : oneCellFields P fs = true) (hC : P.cellsOf t = fs.size)
    (hI : kindsOf P fs = ks.map some) (h : DataW.trod enc P w base spare held fuel t cs = some x) :
    ∃ r : List FV, r.map FV.kind = ks ∧ cs = r.map FV.val ∧ ∀ f ∈ r, f.ok w.heap.size w := by
  obtain ⟨xs, n, _, _, hcl, hxl, hg⟩ := DataW.trod_struct hs h
  rw [hC] at hcl
  have hks : ks.length = fs.size := by have := congrArg List.length hI; simpa [kindsOf] using this.symm
  have key : ∀ i, i < cs.length → ∃ f : FV, ks[i]? = some f.kind ∧ cs[i]? = some f.val ∧ f.ok w.heap.size w := by
    intro i hi
    have hlt : i < fs.size := by omega
    have hf : fs[i]? = some fs[i] := Array.getElem?_eq_getElem hlt
    obtain ⟨ho, hk⟩ := hone_of hone i _ hf
    have hu : kindOf P fs[i].type = some (ks[i]'(by omega)) := by
      have := congrArg (·[i]?) hI
      simpa [kindsOf, hlt, show i < ks.length by omega] using this
    have hx := hg i _ hf
    rw [ho, hk] at hx
    have h1 : (cs.drop i).take 1 = [cs[i]] := by rw [List.drop_eq_getElem_cons hi]; rfl
    rw [h1, List.getElem?_eq_getElem (by omega)] at hx
    obtain ⟨f, f1, f2, f3⟩ := dec_fld hu hx
    exact ⟨f, by rw [f1]; exact List.getElem?_eq_getElem _, by rw [f2]; exact List.getElem?_eq_getElem _, f3⟩
  haveI : Inhabited FV := ⟨.num .i64 0⟩
  obtain ⟨F, hF⟩ := choose_lt key
  refine ⟨(List.range cs.length).map F, ?_, ?_, ?_⟩
  · apply List.ext_getElem?
    intro i
    by_cases hi : i < cs.length
    · rw [(hF i hi).1]; simp [hi]
    · rw [List.getElem?_eq_none (by simp; omega), List.getElem?_eq_none (by omega)]
  · apply List.ext_getElem?
    intro i
    by_cases hi : i < cs.length
    · rw [(hF i hi).2.1]; simp [hi]
    · rw [List.getElem?_eq_none (by omega), List.getElem?_eq_none (by simp; omega)]
  · intro f hf
    obtain ⟨i, hi, rfl⟩ := List.mem_map.1 hf
    exact (hF i (List.mem_range.1 hi)).2.2
/-- A struct by value. -/
theorem open_flds {r : Reach} {b0 : Nat} {t : TypeId} {fs : Array Field} {ks : List FK} {v : Value} {d : DataW H} {p : List MemPlace} (hs : P.underlying t = some (.struct fs)) (hone : oneCellFields P fs = true) (hC : P.cellsOf t = fs.size)
    (hI : kindsOf P fs = ks.map some) (hv : Value.okWide P w r b0 t v) (h : DataW.Trod enc P w base spare held t v d p) :
    ∃ x : List FV, x.map FV.kind = ks ∧ v = .agg (x.map FV.val).toArray ∧ ∀ f ∈ x, f.ok w.heap.size w := by
  obtain ⟨cs, rfl, _⟩ := okWide_struct hs hv
  obtain ⟨n, hn⟩ := h
  obtain ⟨x, h1, h2, h3⟩ := trod_flds hs hone hC hI hn
  refine ⟨x, h1, ?_, h3⟩
  have : cs.toList = x.map FV.val := by simpa [Value.cells] using h2
  rw [← this]
/-- A slice of structs. -/
theorem open_recs {r : Reach} {b0 : Nat} {t e : TypeId} {fs : Array Field} {ks : List FK} {v : Value} {d : DataW H} {p : List MemPlace} (ht : P.underlying t = some (.slice e)) (hs : P.underlying e = some (.struct fs)) (hone : oneCellFields P fs = true) (hC : P.cellsOf e = fs.size) (h0 : 0 < fs.size)
    (hI : kindsOf P fs = ks.map some) (hv : Value.okWide P w r b0 t v) (h : DataW.Trod enc P w base spare held t v d p) :
    ∃ l : List (List FV), RdRec fs.size ks w.heap.size w v l ∧ ((d = .nil ∧ l = []) ∨ ∃ els rest, d = .slice els rest ∧ els.length = l.length) := by
  obtain ⟨a, len, cap, rfl⟩ := okWide_slice ht hv
  obtain ⟨fuel, hf⟩ := h
  rcases open_slice ht hf with ⟨hcs, hx⟩ | ⟨a', len', cap', m, n, D, Pl, hcs, hb, hl, hm, hmm, hx, hxx⟩
  · simp [Value.cells] at hcs
    obtain ⟨rfl, rfl, rfl⟩ := hcs
    simp only [Prod.mk.injEq] at hx
    exact ⟨[], ⟨none, 0, rfl, by simp, by simp, fun h => absurd rfl h⟩, .inl ⟨hx.1, rfl⟩⟩
  · simp [Value.cells] at hcs
    obtain ⟨rfl, rfl, rfl⟩ := hcs
    simp only [Prod.mk.injEq] at hx
    have hlm : len ≤ m := by rw [hmm]; split <;> omega
    have key : ∀ i, i < m → ∃ x : List FV, x.map FV.kind = ks ∧ (∀ f ∈ x, f.ok w.heap.size w) ∧ x.length = fs.size ∧ w.cells? base (a'.add (i * fs.size)) fs.size = some (x.map FV.val) := by
      intro i hi
      obtain ⟨cs', c1, c2⟩ := hxx i hi
      obtain ⟨x, h1, h2, h3⟩ := trod_flds hs hone hC hI c2
      rw [hC] at c1
      have hxl : x.length = fs.size := by
        have := congrArg List.length hI; have h4 := congrArg List.length h1
        simp [kindsOf] at this h4; omega
      exact ⟨x, h1, h3, hxl, by rw [← h2]; exact c1⟩
    obtain ⟨L, hL⟩ := choose_lt key
    refine ⟨(List.range len).map L, ⟨some a', cap, by simp, by simpa using hl, hm, fun hn => ?_⟩, .inr ⟨_, _, hx.1, by simp⟩⟩
    have hpos : 0 < len := by
      rcases Nat.eq_zero_or_pos len with h | h
      · subst h; simp at hn
      · exact h
    have cellAt : ∀ i, i < m → ∀ (j : Nat) (f : FV), (L i)[j]? = some f → w.cell? ((a'.add (i * fs.size)).add j) = some f.val := by
      intro i hi j f hj
      obtain ⟨-, -, hxl, hc⟩ := hL i hi
      obtain ⟨-, -, hcc⟩ := World.cells?_some hc
      have hjl : j < fs.size := by have := (List.getElem?_eq_some_iff.1 hj).1; omega
      rw [hcc j hjl, List.getElem?_map, hj]; rfl
    obtain ⟨-, -, hxl0, -⟩ := hL 0 (by omega)
    have hj0 : (L 0)[0]? = some ((L 0)[0]'(by omega)) := List.getElem?_eq_getElem _
    have hc0 := cellAt 0 (by omega) 0 _ hj0
    have ha0 : (a'.add (0 * fs.size)).add 0 = a' := by simp [Addr.add]
    rw [ha0] at hc0
    obtain ⟨g, o, rfl, hg⟩ := addr_of_cell hc0
    refine ⟨g, o, rfl, hg, fun i x hi => ?_⟩
    have hil : i < len := by
      have := (List.getElem?_eq_some_iff.1 hi).1
      simpa using this
    simp [hil] at hi
    subst hi
    obtain ⟨k1, k2, -, -⟩ := hL i (by omega)
    refine ⟨k1, k2, fun j f hj => ?_⟩
    have := cellAt i (by omega) j f hj
    rw [add_at, add_at] at this
    exact this
end
end Go.Proofs.Ytiapoinobdnboaa.Open
