/- The reference Writer's Done. -/
import Derived.Test.YtiapoinobdnboaaLeH
namespace Go.Proofs.Ytiapoinobdnboaa.Le
open Go Go.RowKit Base Mem
set_option linter.unusedSimpArgs false
set_option linter.unusedVariables false
theorem zs_snoc (l : List UInt8) (k : Nat) : (l ++ zs k) ++ [0] = l ++ zs (k + 1) := by
  unfold zs; rw [List.append_assoc, List.replicate_succ']
set_option maxRecDepth 100000 in
set_option maxHeartbeats 1000000 in
theorem rWDone (g : Nat) (r : Option Nat) (l : List UInt8) (room : Nat) (w : World) (hW : WrR w g r l room false) (hr : room ≤ 65536) (hl : l.length ≤ room) :
    Calls Try.prog 28 #[.pointer (some ⟨g, 0, none⟩)] w fun e w' => ∃ v', e = .returned v' ∧ w'.ownsRow w.heap.size 5 1 v' (l ++ zs (room - l.length)).length (bc (l ++ zs (room - l.length))) ∧ Below w.heap.size w w' := by
  obtain ⟨A, c, hv, hB, hown, c0, c1, c2, hsz⟩ := hW.open_
  have HR := Lib.hid (RdB.of_row hown)
  have hE : (w.alloc (.cells #[] 5)).ownsRow w.heap.size 5 1 (.slice (some ⟨w.heap.size, 0, none⟩) 0 0) ([] : List UInt8).length (bc []) :=
    World.ownsRow_lit w #[] 0 (Nat.le_refl _) (by simp) rfl
  have HE := Lib.hid hE
  have HB := Lib.hid hB
  clear hB hown hv hE hW
  go_enter Try.func28, Try.ntmps28
  go_wp2_with (refine wpList_appendB (o := ⟨some 9, _, _, _, _, _⟩) rfl (.tmp 4) (.tmp 8) rfl w.heap.size [] l (.slice (some ⟨w.heap.size, 0, none⟩) 0 0) (.slice A l.length c) rfl rfl HE.out w.heap.size (HR.out.below ((Below.refl _ _).alloc (Nat.le_refl _) _)) (by simp; omega) (by simp) ?_; intro v1 w1 hown1 hg1 hat1)
  have hb1 : Below w.heap.size w w1 := ((Below.refl w.heap.size w).alloc (Nat.le_refl _) _).trans (grown_below hg1 HE.out (Nat.le_refl _) (by simp))
  go_loopw [3] (fun v wr => ∃ k : Nat, k ≤ room - l.length ∧ wr.ownsRow w.heap.size 5 1 v (l ++ zs k).length (bc (l ++ zs k)) ∧ Below w.heap.size w wr) (fun v _ => room - (match v with | .slice _ n _ => n | _ => 0))
  case atStart => exact ⟨0, Nat.zero_le _, by simpa [zs] using hown1.out, hb1⟩
  case round =>
    clear hown1 hg1 hat1 hb1
    obtain ⟨k, hk, hown, hb⟩ := hrel
    obtain ⟨A1, c1', rfl⟩ := own_shape hown
    have hlen : (l ++ zs k).length = l.length + k := by rw [List.length_append, zs_length]
    have HO := Lib.hid hown
    clear hown
    have hBw := HB.out.below hb hsz
    have d0 := (hBw.cell 0).trans rfl
    have hsz1 := hBw.lt
    clear hBw
    by_cases hlt : l.length + k < room
    · have HB' := Lib.hid hb
      have HS := Lib.hid (zs_snoc l k)
      have HL := Lib.hid hlen
      have hsz2 := hb.size
      generalize hl' : l ++ zs k = l' at *
      have HL' := Lib.hid hl'
      clear hl' hb
      have hn' : l'.length < room := by omega
      have hbytes : l'.length + 1 ≤ 140737488355328 := by omega
      have hn2 : (l'.length : Int) < (room : Int) := by omega
      clear hlen
      go_wp2_with (refine wpList_appendB (o := ⟨some 19, _, _, _, _, _⟩) rfl (.tmp 17) (.tmp 18) rfl w.heap.size l' [0] (.slice A1 l'.length c1') (.slice (some ⟨wr.heap.size, 0, none⟩) 1 1) rfl rfl (HO.out.alloc _) _ (RdB_one (w := wr) 0) hbytes (by simp; omega) ?_; intro v2 w2 hown2 hg2 hat2)
      obtain ⟨A2, c2', rfl⟩ := own_shape hown2.out
      go_roundw
      case rel =>
        exact ⟨k + 1, by omega, by rw [← HS.out]; exact hown2.out, (HB'.out.alloc hsz2 _).trans (grown_below hg2 (HO.out.alloc (.cells #[.int .u8 0] 5)) (Nat.le_refl _) (by simp; omega))⟩
      case measure => simp; omega
    · obtain rfl : k = room - l.length := by omega
      have hn2 : (room : Int) ≤ ((l ++ zs (room - l.length)).length : Int) := by omega
      generalize hl' : l ++ zs (room - l.length) = l' at *
      have HL := Lib.hid hl'
      clear hl'
      go_wp2
      go_ret
      exact ⟨_, rfl, by rw [HL.out]; exact HO.out, hb⟩
/-- bits as bytes, by number -/
def packB (x : List Bool) : List UInt8 := (List.range ((x.length + 7) / 8)).map fun q => UInt8.ofNat ((List.range 8).foldl (fun a j => a + (if x[8 * q + j]?.getD false then 2 ^ j else 0)) 0)
end Go.Proofs.Ytiapoinobdnboaa.Le
