/- Ops as arguments. -/
import Derived.Test.YtiapoinobdnboaaRec
namespace Go.Proofs.Ytiapoinobdnboaa.Le
open Go Go.RowKit Base Mem Open
abbrev opK : List FK := [.num .i64, .num .i64, .num .u64, .bys, .num .i64, .num .i64]
theorem op_fields {x : List FV} (h : x.map FV.kind = opK) : ∃ k s n v b l m, x = [.num .i64 k, .num .i64 s, .num .u64 n, .bys v b, .num .i64 l, .num .i64 m] := by
  have hl : x.length = 6 := by have := congrArg List.length h; simpa using this
  match x, hl, h with
  | [a, b, c, d, e, f], _, h =>
    simp only [opK, List.map_cons, List.map_nil, List.cons.injEq, and_true] at h
    obtain ⟨h1, h2, h3, h4, h5, h6⟩ := h
    cases a <;> simp [FV.kind] at h1
    cases b <;> simp [FV.kind] at h2
    cases c <;> simp [FV.kind] at h3
    cases d <;> simp [FV.kind] at h4
    cases e <;> simp [FV.kind] at h5
    cases f <;> simp [FV.kind] at h6
    subst h1 h2 h3 h5 h6
    exact ⟨_, _, _, _, _, _, _, rfl⟩
end Go.Proofs.Ytiapoinobdnboaa.Le
