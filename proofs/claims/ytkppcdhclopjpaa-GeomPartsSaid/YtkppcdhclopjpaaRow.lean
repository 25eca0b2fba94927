/- Rows: arguments opened to plain values, whatever the number of a struct's fields. -/
import Derived.WalkKit
import Derived.ProofKit
import Derived.OpenShut
import Derived.ShutString
import Derived.ChangeOld
import Derived.Below
import Derived.SizedLaws
import Derived.Carry
import Derived.Deep.Fields
import Derived.Deep.Slices
namespace Go.Proofs.Ytkppcdhclopjpaa.Row
open Go Go.ChangeShapes Go.WideShapes Go.ChangeAt Go.RowKit Go.Deep
section
variable {H : Type} {enc : TypeId × Value → H} {P : Program} {w : World} {base : Nat} {spare : Nat → Bool} {held : Bool}
def intFields (P : Program) (fs : Array Field) : Bool := (List.range fs.size).all fun i => match fs[i]? with
  | some f => (match P.underlying f.type with | some (.int .i64) => true | _ => false)
  | none => false
theorem intOf_int (k : IntKind) (n : Int) : Go.RowKit.intOf (.int k n) = n := rfl
/-- A struct all of whose fields are ints, of one cell each: its cells are numbers. -/
theorem trod_ints {t : TypeId} {fs : Array Field} {fuel : Nat} {cs : List Value} {x : DataW H × List MemPlace} (hs : P.underlying t = some (.struct fs)) (hone : oneCellFields P fs = true) (hC : P.cellsOf t = fs.size)
    (hI : intFields P fs = true) (h : DataW.trod enc P w base spare held fuel t cs = some x) :
    ∃ zs : List Int, zs.length = fs.size ∧ cs = zs.map (Value.int .i64) ∧ ∀ z ∈ zs, (Lit.int .i64 z).wf = true := by
  obtain ⟨xs, n, _, _, hcl, hxl, hg⟩ := DataW.trod_struct hs h
  rw [hC] at hcl
  have key : ∀ i (hi : i < cs.length), ∃ z : Int, cs[i] = .int .i64 z ∧ (Lit.int .i64 z).wf = true := by
    intro i hi
    have hlt : i < fs.size := by omega
    have hf : fs[i]? = some fs[i] := Array.getElem?_eq_getElem hlt
    obtain ⟨ho, hk⟩ := hone_of hone i _ hf
    have hu : P.underlying fs[i].type = some (.int .i64) := by
      have := List.all_eq_true.1 hI i (List.mem_range.2 hlt)
      simp only [hf] at this
      split at this
      · assumption
      · exact absurd this (by simp)
    have hx := hg i _ hf
    rw [ho, hk] at hx
    have h1 : (cs.drop i).take 1 = [cs[i]] := by rw [List.drop_eq_getElem_cons hi]; rfl
    rw [h1, List.getElem?_eq_getElem (by omega)] at hx
    obtain ⟨z, hz, _, hw⟩ := DataW.trod_int hu hx
    exact ⟨z, by simpa using hz, hw⟩
  refine ⟨cs.map Go.RowKit.intOf, by simpa using hcl, ?_, ?_⟩
  · apply List.ext_getElem (by simp)
    intro i h1 h2
    obtain ⟨z, hz, _⟩ := key i h1
    simp only [List.getElem_map]
    rw [hz]; rfl
  · intro z hz
    obtain ⟨c, hc, rfl⟩ := List.mem_map.1 hz
    obtain ⟨i, hi, rfl⟩ := List.mem_iff_getElem.1 hc
    obtain ⟨z, hz, hw⟩ := key i hi
    rw [hz]; exact hw
/-- The same of an argument by value. -/
theorem open_ints {r : Reach} {b0 : Nat} {t : TypeId} {fs : Array Field} {v : Value} {d : DataW H} {p : List MemPlace} (hs : P.underlying t = some (.struct fs)) (hone : oneCellFields P fs = true) (hC : P.cellsOf t = fs.size)
    (hI : intFields P fs = true) (hv : Value.okWide P w r b0 t v) (h : DataW.Trod enc P w base spare held t v d p) :
    ∃ zs : List Int, zs.length = fs.size ∧ v = .agg (zs.map (Value.int .i64)).toArray ∧ ∀ z ∈ zs, (Lit.int .i64 z).wf = true := by
  obtain ⟨cs, rfl, _⟩ := okWide_struct hs hv
  obtain ⟨n, hn⟩ := h
  obtain ⟨zs, h1, h2, h3⟩ := trod_ints hs hone hC hI hn
  refine ⟨zs, h1, ?_, h3⟩
  have : cs.toList = zs.map (Value.int .i64) := by simpa [Value.cells] using h2
  rw [← this]
end
end Go.Proofs.Ytkppcdhclopjpaa.Row
