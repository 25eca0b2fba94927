/- The reference's Int; both Readers' Done; the reference Writer's Done. -/
import Derived.Test.YtiapoinobdnboaaLeE
namespace Go.Proofs.Ytiapoinobdnboaa.Le
open Go Go.RowKit Base Mem
set_option linter.unusedSimpArgs false
set_option linter.unusedVariables false
set_option maxRecDepth 100000 in
set_option maxHeartbeats 1000000 in
theorem rInt_any (D g : Nat) (l : List UInt8) (bad : Bool) (n least most : Int) (w : World) (h : Rdr 41 D w g l bad) :
    Calls Try.prog 18 #[.pointer (some ⟨g, 0, none⟩), .int .i64 n, .int .i64 least, .int .i64 most] w fun e w' => e = .returned (.int .i64 (intR l bad n least most)) ∧ Rdr 41 D w' g (getL l bad n) (!intOk l bad n least most) ∧ Kept (fun j => j = g) w w' := by
  have HH := Lib.hid h
  clear h
  obtain ⟨z, hz2⟩ : ∃ z, IntKind.i64.wrap ((getR l bad n : Nat) : Int) = z := ⟨_, rfl⟩
  by_cases ho : getOk l bad n = true
  · have hiR : intR l bad n least most = if least ≤ z ∧ z ≤ most then z else 0 := by unfold intR intOk; rw [ho, hz2]; simp
    have hiO : intOk l bad n least most = decide (least ≤ z ∧ z ≤ most) := by unfold intOk; rw [ho, hz2]; simp
    have HIR := Lib.hid hiR
    have HIO := Lib.hid hiO
    have HO := Lib.hid ho
    clear hiR hiO ho
    have hh : (decide (z < least) = true) ∨ (decide (z < least) = false ∧ decide (most < z) = true) ∨ (decide (z < least) = false ∧ decide (most < z) = false) := by
      by_cases h1 : z < least
      · exact .inl (decide_eq_true h1)
      · by_cases h2 : most < z
        · exact .inr (.inl ⟨decide_eq_false h1, decide_eq_true h2⟩)
        · exact .inr (.inr ⟨decide_eq_false h1, decide_eq_false h2⟩)
    rcases hh with h1 | ⟨h1, h2⟩ | ⟨h1, h2⟩
    all_goals
      go_enter Try.func18, Try.ntmps18
      go_wp2_with fail
      refine (rGet_any D g l bad n _ HH.out).mono ?_
      rintro e w1 ⟨rfl, hRd, hK⟩
      rw [HO.out] at hRd
      obtain ⟨A, c, hB, hR, c0, c1, hsz, hD⟩ := hRd.open_
      have f1 := hB.frozen 1
      have HM := Lib.hid (hRd.mark true 0)
      have HRd := Lib.hid hRd
      have HK := Lib.hid hK
      clear hRd hK hB hR
      go_wp2
      go_ret
      simp at h1
      try simp at h2
      first
        | exact ⟨by rw [HIR.out, if_neg (by omega)]; rfl, by rw [HIO.out, decide_eq_false (by omega)]; exact HM.out.1, HK.out.trans HM.out.2 (fun _ _ e => e)⟩
        | exact ⟨by rw [HIR.out, if_pos (by omega)]; rfl, by rw [HIO.out, decide_eq_true (by omega)]; exact HRd.out, HK.out⟩
  · have ho' : getOk l bad n = false := by simpa using ho
    have HIR := Lib.hid (show intR l bad n least most = 0 by unfold intR intOk; rw [ho']; simp)
    have HIO := Lib.hid (show intOk l bad n least most = false by unfold intOk; rw [ho']; simp)
    have HO := Lib.hid ho'
    clear ho ho'
    go_enter Try.func18, Try.ntmps18
    go_wp2_with fail
    refine (rGet_any D g l bad n _ HH.out).mono ?_
    rintro e w1 ⟨rfl, hRd, hK⟩
    rw [HO.out] at hRd
    obtain ⟨A, c, hB, hR, c0, c1, hsz, hD⟩ := hRd.open_
    have f1 := hB.frozen 1
    have HM := Lib.hid (hRd.mark true 0)
    have HK := Lib.hid hK
    clear hRd hK hB hR
    go_wp2
    go_ret
    exact ⟨by rw [HIR.out]; rfl, by rw [HIO.out]; exact HM.out.1, HK.out.trans HM.out.2 (fun _ _ e => e)⟩
def allZero (l : List UInt8) : Bool := l.all fun c => c == 0
theorem allZero_take {l : List UInt8} {k : Nat} {x : UInt8} (h : l[k]? = some x) (ha : allZero (l.take k) = true) : allZero (l.take (k + 1)) = (x == 0) := by
  unfold allZero at *
  rw [take_succ' h, List.all_append, ha]; simp
theorem allZero_no {l : List UInt8} {k : Nat} {x : UInt8} (h : l[k]? = some x) (hx : x ≠ 0) : allZero l = false := by
  unfold allZero
  rw [List.all_eq_false]
  exact ⟨x, List.mem_of_getElem? h, by simpa using hx⟩
set_option maxRecDepth 100000 in
theorem nz_any (x : UInt8) (b : Bool) (w : World) (h : ((x.toNat : Int) != 0) = b) : Calls Try.prog 42 #[.int .u8 (x.toNat : Int)] w fun e w' => e = .returned (.bool b) ∧ w = w' := by
  subst h
  go_enter Try.func42, Try.ntmps42
  go_wp2
  go_ret
  exact ⟨rfl, rfl⟩
set_option maxRecDepth 100000 in
theorem IndexFunc_any (v : Value) (l : List UInt8) (w : World) (hr : RdB w.heap.size w v l) :
    Calls Try.prog 45 #[v, .func (.func 42) #[] #[]] w fun e w' => (∃ i : Int, e = .returned (.int .i64 i) ∧ (decide (0 ≤ i)) = !allZero l) ∧ w' = w := by
  obtain ⟨A, c, rfl, h1, h2, -, -⟩ := id hr
  unfold maxLen at h2
  have HR := Lib.hid hr
  clear hr
  go_enter Try.func45, Try.ntmps45
  go_wp2
  go_loop [5, 8] (fun a i => ∃ j : Nat, j ≤ l.length ∧ i = .int .i64 (j : Int) ∧ allZero (l.take j) = true) (fun _ i => l.length - (intOf i).toNat)
  case atStart => exact ⟨0, Nat.zero_le _, rfl, rfl⟩
  case round =>
    obtain ⟨j, hj, rfl, hz⟩ := hrel
    have HZ := Lib.hid hz
    clear hz
    by_cases hlt : j < l.length
    · obtain ⟨g', o, x, rfl, hg', hx, hc⟩ := HR.out.at_ hlt
      have HX := Lib.hid hx
      clear hx
      by_cases h0 : x = 0
      · have ht : ((x.toNat : Int) != 0) = false := by subst h0; rfl
        have HN := Lib.hid (show allZero (l.take (j + 1)) = true by rw [allZero_take HX.out HZ.out, h0]; rfl)
        clear h0
        go_wp2_with fail
        refine (nz_any _ false _ ht).mono ?_
        rintro e w' ⟨rfl, rfl⟩
        go_wp2
        go_round
        case rel => exact ⟨j + 1, by omega, by go_num, HN.out⟩
        case measure => simp [intOf]; omega
      · have ht : ((x.toNat : Int) != 0) = true := by
          simp only [bne_iff_ne, ne_eq]; intro e; apply h0; apply UInt8.toNat_inj.1; simpa using e
        have HN := Lib.hid (allZero_no HX.out h0)
        clear h0
        go_wp2_with fail
        refine (nz_any _ true _ ht).mono ?_
        rintro e w' ⟨rfl, rfl⟩
        go_wp2
        go_ret
        exact ⟨⟨(j : Int), rfl, by rw [HN.out]; simp⟩, rfl⟩
    · obtain rfl : j = l.length := by omega
      rw [List.take_length] at HZ
      go_wp2
      go_ret
      exact ⟨⟨-1, rfl, by rw [HZ.out]; rfl⟩, rfl⟩
set_option maxRecDepth 100000 in
theorem Contains_any (v : Value) (l : List UInt8) (w : World) (hr : RdB w.heap.size w v l) :
    Calls Try.prog 41 #[v, .func (.func 42) #[] #[]] w fun e w' => e = .returned (.bool (!allZero l)) ∧ w' = w := by
  have HR := Lib.hid hr
  clear hr
  go_enter Try.func41, Try.ntmps41
  go_wp2_with fail
  refine (IndexFunc_any v l _ HR.out).mono ?_
  rintro e w' ⟨⟨i, rfl, hi⟩, rfl⟩
  go_wp2
  go_ret
  exact ⟨by first | rfl | exact ret_bool hi, rfl⟩
set_option maxRecDepth 100000 in
theorem RDone_b (D g : Nat) (l : List UInt8) (bad : Bool) (w : World) (h : Rdr 73 D w g l bad) {r : Int} (hr : (if !bad && allZero l then 0 else 10) = r) :
    Calls Try.prog 15 #[.pointer (some ⟨g, 0, none⟩)] w fun e w' => e = .returned (.int .i64 r) ∧ w' = w := by
  obtain ⟨A, c, hB, hR, c0, c1, hsz, hD⟩ := h.open_
  have HR := Lib.hid (hR.more (show D ≤ w.heap.size by omega))
  clear h hB hR
  cases bad with
  | true =>
    have hr' : r = 10 := by rw [← hr]; rfl
    subst hr'
    clear hr
    go_enter Try.func15, Try.ntmps15
    go_wp2
    go_ret
    exact ⟨rfl, rfl⟩
  | false =>
    obtain ⟨z, hz⟩ : ∃ z, allZero l = z := ⟨_, rfl⟩
    rw [hz] at hr
    have HZ := Lib.hid hz
    clear hz
    cases z
    case false =>
      have hr' : r = 10 := by rw [← hr]; rfl
      subst hr'
      clear hr
      go_enter Try.func15, Try.ntmps15
      go_wp2_with fail
      refine (Contains_any _ l _ HR.out).mono ?_
      rw [HZ.out, show (!false) = true from rfl]
      rintro e w' ⟨rfl, rfl⟩
      go_wp2
      go_ret
      exact ⟨rfl, rfl⟩
    case true =>
      have hr' : r = 0 := by rw [← hr]; rfl
      subst hr'
      clear hr
      go_enter Try.func15, Try.ntmps15
      go_wp2_with fail
      refine (Contains_any _ l _ HR.out).mono ?_
      rw [HZ.out, show (!true) = false from rfl]
      rintro e w' ⟨rfl, rfl⟩
      go_wp2
      go_ret
      exact ⟨rfl, rfl⟩
theorem RDone_any (D g : Nat) (l : List UInt8) (bad : Bool) (w : World) (h : Rdr 73 D w g l bad) :
    Calls Try.prog 15 #[.pointer (some ⟨g, 0, none⟩)] w fun e w' => e = .returned (.int .i64 (if !bad && allZero l then 0 else 10)) ∧ w' = w := RDone_b D g l bad w h rfl
set_option maxRecDepth 100000 in
theorem rDone_any' (D g : Nat) (l : List UInt8) (bad : Bool) (w : World) (h : Rdr 41 D w g l bad) :
    Calls Try.prog 23 #[.pointer (some ⟨g, 0, none⟩)] w fun e w' => e = .returned (.bool (!bad && allZero l)) ∧ w' = w := by
  obtain ⟨A, c, hB, hR, c0, c1, hsz, hD⟩ := h.open_
  obtain ⟨-, hlc, hcm⟩ := hR.lens
  unfold maxLen at hcm
  have HR := Lib.hid hR
  clear h hB hR
  go_enter Try.func23, Try.ntmps23
  go_wp2
  go_loop [3] (fun i => ∃ j : Nat, j ≤ l.length ∧ i = .int .i64 (j : Int) ∧ allZero (l.take j) = true) (fun i => l.length - (intOf i).toNat)
  case atStart => exact ⟨0, Nat.zero_le _, rfl, rfl⟩
  case round =>
    obtain ⟨j, hj, rfl, hz⟩ := hrel
    have HZ := Lib.hid hz
    clear hz
    by_cases hlt : j < l.length
    · obtain ⟨g', o, x, rfl, hg', hx, hc⟩ := HR.out.at_ hlt
      have HX := Lib.hid hx
      clear hx
      by_cases h0 : x = 0
      · have ht : ((x.toNat : Int) != 0) = false := by subst h0; rfl
        have HN := Lib.hid (show allZero (l.take (j + 1)) = true by rw [allZero_take HX.out HZ.out, h0]; rfl)
        clear h0
        go_wp2
        go_round
        case rel => exact ⟨j + 1, by omega, by go_num, HN.out⟩
        case measure => simp [intOf]; omega
      · have ht : ((x.toNat : Int) != 0) = true := by
          simp only [bne_iff_ne, ne_eq]; intro e; apply h0; apply UInt8.toNat_inj.1; simpa using e
        have HN := Lib.hid (allZero_no HX.out h0)
        clear h0
        go_wp2
        go_ret
        exact ⟨by rw [HN.out]; simp, rfl⟩
    · obtain rfl : j = l.length := by omega
      rw [List.take_length] at HZ
      go_wp2
      go_ret
      exact ⟨by rw [HZ.out]; simp, rfl⟩
end Go.Proofs.Ytiapoinobdnboaa.Le
