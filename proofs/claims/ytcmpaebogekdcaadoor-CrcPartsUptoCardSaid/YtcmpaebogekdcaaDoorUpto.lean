/- The second form's bulk, argument by argument. -/
import Derived.Test.YtcmpaebogekdcaaDoorRows
import Derived.Test.YtcmpaebogekdcaaDoorOpen
namespace Go.Proofs.YtcmpaebogekdcaaDoor.Open
open Go
theorem bulk_one {H : Type} (d : DataW H) : 1 ≤ Rows.uptoBulk d := by
  cases d with
  | lit l => cases l <;> simp [Rows.uptoBulk]
  | nil => simp [Rows.uptoBulk]
  | ptr d => simp [Rows.uptoBulk]
  | slice elems spare => simp [Rows.uptoBulk]
  | agg parts => simp [Rows.uptoBulk]
  | iface t d => simp [Rows.uptoBulk]
  | map entries => simp [Rows.uptoBulk]
  | held h => simp [Rows.uptoBulk]
theorem bulk_part {H : Type} {d : DataW H} {l : List (DataW H)} (h : d ∈ l) : Rows.uptoBulk d ≤ Rows.uptoBulkAll l := by
  induction l with
  | nil => simp at h
  | cons x r ih =>
    simp only [Rows.uptoBulkAll]
    rcases List.mem_cons.1 h with rfl | h
    · omega
    · have := ih h; omega
theorem bulk_length {H : Type} (l : List (DataW H)) : l.length ≤ Rows.uptoBulkAll l := by
  induction l with
  | nil => simp [Rows.uptoBulkAll]
  | cons x r ih =>
    simp only [Rows.uptoBulkAll, List.length_cons]
    have := bulk_one x; omega
theorem bulk_slice {H : Type} {d : DataW H} {α : Type} {l : List α} {n : Nat} (h : Rows.uptoBulk d ≤ n) (hd : (d = .nil ∧ l = []) ∨ ∃ els rest, d = .slice els rest ∧ els.length = l.length) : l.length ≤ n := by
  rcases hd with ⟨_, rfl⟩ | ⟨els, rest, rfl, hl⟩
  · simp
  · simp only [Rows.uptoBulk] at h
    have := bulk_length els
    omega
theorem bulk_len {H : Type} {ds : List (DataW H)} {n : Nat} (hk : Rows.uptoBulkAll ds ≤ n) {j : Nat} {d : DataW H} {α : Type} {l : List α} (hj : ds[j]? = some d) (hd : (d = .nil ∧ l = []) ∨ ∃ els rest, d = .slice els rest ∧ els.length = l.length) : l.length ≤ n :=
  bulk_slice (Nat.le_trans (bulk_part (List.mem_of_getElem? hj)) hk) hd
theorem bulk_rows {H : Type} {ds : List (DataW H)} {n : Nat} (hk : Rows.uptoBulkAll ds ≤ n) {j : Nat} {d : DataW H} {α : Type} {l : List (List α)} (hj : ds[j]? = some d)
    (hd : (d = .nil ∧ l = []) ∨ ∃ els rest, d = .slice els rest ∧ els.length = l.length ∧ ∀ (i : Nat) (y : DataW H) (x : List α), els[i]? = some y → l[i]? = some x → ((y = .nil ∧ x = []) ∨ ∃ els' rest', y = .slice els' rest' ∧ els'.length = x.length)) : ∀ x ∈ l, x.length ≤ n := by
  have h1 := Nat.le_trans (bulk_part (List.mem_of_getElem? hj)) hk
  rcases hd with ⟨_, rfl⟩ | ⟨els, rest, rfl, hl, hi⟩
  · intro x hx; simp at hx
  · intro x hx
    obtain ⟨i, hix⟩ := List.getElem?_of_mem hx
    have hlt : i < els.length := by rw [hl]; exact (List.getElem?_eq_some_iff.1 hix).1
    have hy := List.getElem?_eq_getElem hlt
    have h2 := bulk_part (List.mem_of_getElem? hy)
    simp only [Rows.uptoBulk] at h1
    exact bulk_slice (by omega) (hi i _ x hy hix)
end Go.Proofs.YtcmpaebogekdcaaDoor.Open
