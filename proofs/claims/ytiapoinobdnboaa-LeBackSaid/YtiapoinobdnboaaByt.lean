/- Byte slices: as cells, made, read as a string, appended. -/
import Derived.Test.YtiapoinobdnboaaProg
import Derived.Test.YtiapoinobdnboaaMem
import Derived.Laws.BytesArg
import Derived.Laws.MakeOwn
import Derived.Laws.CopyOwn
import Derived.Maps.AppendAt
import Derived.RegionTactic
import Derived.OwnWalk
import Derived.Lib.AppendZerosOnto
namespace Go.Proofs.Ytiapoinobdnboaa.Mem
open Go Go.RowKit Base
set_option linter.unusedSectionVars false
set_option linter.unusedSimpArgs false
theorem infoU8 : (Try.prog.info? 5).map (fun i => (i.zero, i.size, i.bytes)) = some (some (.int .u8 0), 1, 1) := by kernel_rfl
/-- Bytes as cells. -/
def bc (l : List UInt8) : List Value := l.map fun c => Value.int .u8 (c.toNat : Int)
def zs (n : Nat) : List UInt8 := List.replicate n 0
theorem bc_length (l : List UInt8) : (bc l).length = l.length := by simp [bc]
theorem bc_append (a b : List UInt8) : bc (a ++ b) = bc a ++ bc b := by simp [bc]
theorem bc_at {l : List UInt8} {i : Nat} {x : UInt8} (h : l[i]? = some x) : (bc l)[i]? = some (.int .u8 (x.toNat : Int)) := by simp [bc, h]
theorem bc_one (l : List UInt8) : ∀ v ∈ bc l, v.oneCell' = true := by
  intro v hv
  simp only [bc, List.mem_map] at hv
  obtain ⟨c, _, rfl⟩ := hv
  rfl
theorem bc_set (l : List UInt8) (i : Nat) (x : UInt8) : (bc l).toArray.setIfInBounds i (.int .u8 (x.toNat : Int)) = (bc (l.set i x)).toArray := by
  simp [bc, List.map_set]
theorem zs_length (n : Nat) : (zs n).length = n := by simp [zs]
theorem bc_zs (n : Nat) : bc (zs n) = List.replicate n (.int .u8 0) := by simp [bc, zs]
theorem run_makeB (n : Nat) (hn : n ≤ 281474976710656) (w : World) :
    (Instr.makeSlice 28 (.int .i64 (n : Int)) (.int .i64 (n : Int))).run Try.prog w = .ok (.slice (some ⟨w.heap.size, 0, none⟩) n n) (w.alloc (.cells (bc (zs n)).toArray 5)) := by
  obtain ⟨i0, hi0, hz0, hz1, hz2⟩ := info_parts infoU8
  have hr := run_make (P := Try.prog) w 28 5 i0 _ Try.underlying28 hi0 hz0 .i64 .i64 n n (by omega) (by omega) (by rw [hz2]; omega) (by omega)
  simp only [Int.toNat_natCast] at hr
  rw [hr, hz1, Nat.mul_one]
  congr 2
  show Obj.cells (madeCells #[.int .u8 0] n) _ _ = _
  congr 1
  apply Array.toList_inj.1
  rw [toList_madeCells_one, bc_zs]
theorem nums_bytes (l : List UInt8) : strOfNums (l.map fun c => (c.toNat : Int)) = ⟨l.toArray⟩ := by
  apply ByteArray.ext
  apply Array.toList_inj.1
  rw [strOfNums_data, List.map_map]
  have h : ((fun n : Int => UInt8.ofNat n.toNat) ∘ fun c : UInt8 => (c.toNat : Int)) = id := by funext c; simp
  rw [h, List.map_id]
/-- 'string(b)'. -/
theorem run_string {B : Nat} {w : World} {v : Value} {l : List UInt8} (h : RdB B w v l) : (convert 28 9 v).run Try.prog w = .ok (.string ⟨l.toArray⟩) w := by
  obtain ⟨A, c, rfl, h1, h2, h3, h4⟩ := h
  by_cases hn : l = []
  · subst hn
    rcases A with _ | a
    · exact run_convert_bytes_nil w _ _ Try.underlying28 Try.underlying5 _ _ _ Try.underlying9
    · rw [run_convert_bytes_string w _ _ _ (some a) _ _ Try.underlying28 Try.underlying5 Try.underlying9, run_bytesToString w a _ c [] (by rfl)]
      rfl
  · obtain ⟨g, o, rfl, hg, hc⟩ := h4 hn
    rw [run_convert_bytes_arg w _ _ Try.underlying28 Try.underlying5 g o l.length c (l.map fun c => (c.toNat : Int)) (by simp) (fun i hi => by
      rw [hc i l[i] (List.getElem?_eq_getElem hi)]; simp [List.getD, hi]) _ Try.underlying9, nums_bytes]
theorem str_eq (a b : List UInt8) : ((⟨a.toArray⟩ : ByteArray).toList == (⟨b.toArray⟩ : ByteArray).toList) = decide (a = b) := by
  rw [ByteArray.toList_mk, ByteArray.toList_mk, Bool.eq_iff_iff, beq_iff_eq, decide_eq_true_iff]
/-- A part of a slice. -/
theorem Rd1.cut {α : Type} {E : α → Value} {B : Nat} {w : World} {g o n c : Nat} {l : List α} (h : Rd1 E B w (.slice (some ⟨g, o, none⟩) n c) l) (k m c' : Nat) (hk : k + m ≤ l.length) (hc : m ≤ c') (hm : c' ≤ maxLen) :
    Rd1 E B w (.slice (some ⟨g, o + k, none⟩) m c') ((l.drop k).take m) := by
  obtain ⟨A', c'', e, h1, h2, h3, h4⟩ := h
  cases e
  have hl : ((l.drop k).take m).length = m := by simp; omega
  refine ⟨_, c', by rw [hl], by rw [hl]; omega, hm, (fun e => by cases e), fun hn => ?_⟩
  have hl0 : l ≠ [] := by
    intro e; subst e; simp at hn
  obtain ⟨g', o', e', hg, hcell⟩ := h4 hl0
  cases e'
  refine ⟨g, o + k, rfl, hg, fun i x hx => ?_⟩
  rw [Nat.add_assoc]
  apply hcell
  have hi : i < m := by
    have := (List.getElem?_eq_some_iff.1 hx).1
    rw [hl] at this; exact this
  rw [List.getElem?_take_of_lt hi, List.getElem?_drop] at hx
  exact hx
theorem RdB.of_own {w : World} {g : Nat} {B : Nat} (l : List UInt8) (h : Blk w g 5 (bc l).toArray) (hB : g < B) (n c : Nat) (hl : l.length = n) (hc : n ≤ c) (hm : c ≤ maxLen) : RdB B w (.slice (some ⟨g, 0, none⟩) n c) l :=
  Rd1.of_blk h hB hl hc hm fun i x hx => by rw [Nat.zero_add]; simpa using bc_at hx
theorem RdB.of_row {w : World} {base e : Nat} {v : Value} {l : List UInt8} (h : w.ownsRow base e 1 v l.length (bc l)) : RdB w.heap.size w v l := by
  obtain ⟨h1, h2⟩ := h
  rcases h2 with ⟨rfl, hn⟩ | ⟨g, cap, cur, rfl, hg, hh, hnc, hcm, hsz, htk⟩
  · obtain rfl := List.eq_nil_of_length_eq_zero hn
    exact Rd1.nil_
  · refine ⟨_, cap, rfl, hnc, hcm, (fun e => by cases e), fun _ => ⟨g, 0, rfl, (Array.getElem?_eq_some_iff.1 hh).1, fun i x hx => ?_⟩⟩
    rw [Nat.zero_add, cell_of_row w g i cur e (0, 0) hh]
    have hi := (List.getElem?_eq_some_iff.1 hx).1
    have := bc_at hx
    rw [← htk, List.getElem?_take_of_lt (by omega)] at this
    simpa using this
/-- append(own, b...): the source reads as l, whatever its address. -/
theorem run_append_nil (w : World) (base t ty e : Nat) (i : TypeInfo) (size : Nat) (ht : Try.prog.underlying t = some (.slice e)) (hi : Try.prog.info? e = some i)
    (v : Value) (n : Nat) (xs : List Value) (hown : w.ownsRow base e size v n xs) (c : Nat) : (Builtin.append_ #[t, t] ty #[v, .slice none 0 c]).run Try.prog w = .ok v w := by
  rcases hown.2 with ⟨rfl, rfl⟩ | ⟨g, cap, cur, rfl, _, _, hnc, _⟩
  · simp [Builtin.append_, run_underlying ht, sizeOf, typeInfo, hi, Builtin.lenOf, Builtin.firstCells]
  · simp [Builtin.append_, run_underlying ht, sizeOf, typeInfo, hi, Builtin.lenOf, Builtin.firstCells, hnc, storeCells]
theorem run_appendB {w : World} {base : Nat} {v x : Value} {a b : List UInt8} (hown : w.ownsRow base 5 1 v a.length (bc a)) {B : Nat} (hr : RdB B w x b) (hbytes : a.length + b.length ≤ 140737488355328) (hbase : base ≤ w.heap.size) (ty : TypeId) :
    ∃ v' w', (Builtin.append_ #[28, 28] ty #[v, x]).run Try.prog w = .ok v' w' ∧ w'.ownsRow base 5 1 v' (a ++ b).length (bc (a ++ b)) ∧ w.grownBy w' v.ownBlock ∧ (v'.ownBlock = v.ownBlock ∨ v'.ownBlock = some w.heap.size) := by
  obtain ⟨i0, hi0, hz0, hz1, hz2⟩ := info_parts infoU8
  obtain ⟨A, c, rfl, h1, h2, h3, h4⟩ := hr
  rw [List.length_append, bc_append]
  rcases A with _ | ad
  · have hc := h3 rfl
    have hb : b = [] := List.eq_nil_of_length_eq_zero (by omega)
    subst hb
    exact ⟨v, w, run_append_nil w base _ _ _ i0 1 Try.underlying28 hi0 v _ _ hown c, by simpa [bc] using hown, World.grownBy.refl w _, .inl rfl⟩
  · have hcells : ∀ j u, (bc b)[j]? = some u → w.cell? (ad.add j) = some u := by
      intro j u hu
      have hb : b ≠ [] := by intro e; subst e; simp [bc] at hu
      obtain ⟨g, o, e, _, hc⟩ := h4 hb
      cases e
      have hj : j < b.length := by
        have := (List.getElem?_eq_some_iff.1 hu).1
        simpa [bc] using this
      have hx := List.getElem?_eq_getElem hj
      rw [bc_at hx] at hu
      cases hu
      have hp : (⟨g, o, none⟩ : Addr).add j = ⟨g, o + j, none⟩ := by unfold Addr.add; split <;> simp_all
      rw [hp]; exact hc j _ hx
    obtain ⟨v', w', hrun, k2, k3, _, k5⟩ := run_append_own_at (P := Try.prog) w base 28 ty 5 i0 (.int .u8 0) 1 1 Try.underlying28 hi0 hz0 hz1 hz2 rfl (by decide) v _ _ hown ad b.length c (bc b) (by simp [bc]) hcells (bc_one b) (by unfold maxLen; omega) (by omega) hbase
    exact ⟨v', w', hrun, k2, k3, k5⟩
theorem wpList_appendB {w : World} {ops : Array Oper} {rest : List Oper} {o : Oper} {ac : Act} {Q : Exit → Act → World → Prop} (hgd : o.guard = none) (s x : Operand)
    (ho : o.op = .call { callee := .builtin .append, args := #[s, x], argTypes := #[28, 28] })
    (base : Nat) (a b : List UInt8) (v vx : Value) (hs : ac.eval s = v) (hx : ac.eval x = vx) (hown : w.ownsRow base 5 1 v a.length (bc a)) (B : Nat) (hr : RdB B w vx b) (hbytes : a.length + b.length ≤ 140737488355328) (hbase : base ≤ w.heap.size)
    (h : ∀ v' w', Hid (w'.ownsRow base 5 1 v' (a ++ b).length (bc (a ++ b))) → w.grownBy w' v.ownBlock → (v'.ownBlock = v.ownBlock ∨ v'.ownBlock = some w.heap.size) → wpList Try.prog ops Q rest (ac.put o.dst v') w') : wpList Try.prog ops Q (o :: rest) ac w := by
  refine wpList_plain hgd fun K hK => ?_
  obtain ⟨v', w', hrun, h2, h3, h4⟩ := run_appendB hown hr hbytes hbase o.type
  unfold Oper.wp execOp
  simp only [ho, resolve, invoke, builtin, Sem.run_bind, Sem.run_pure, Result.andThen_ok, List.map_toArray, List.map_cons, List.map_nil, hs, hx, hrun]
  exact hK _ _ (h v' w' h2 h3 h4)
theorem step_appendB {w : World} {ops : Array Oper} {o : Oper} {ac : Act} {K : Act → World → Prop} {Q : Exit → Act → World → Prop} {E : Prop} (hgd : o.guard = none) (s x : Operand)
    (ho : o.op = .call { callee := .builtin .append, args := #[s, x], argTypes := #[28, 28] })
    (base : Nat) (a b : List UInt8) (v vx : Value) (hs : ac.eval s = v) (hx : ac.eval x = vx) (hown : w.ownsRow base 5 1 v a.length (bc a)) (B : Nat) (hr : RdB B w vx b) (hbytes : a.length + b.length ≤ 140737488355328) (hbase : base ≤ w.heap.size)
    (h : ∀ v' w', Hid (w'.ownsRow base 5 1 v' (a ++ b).length (bc (a ++ b))) → w.grownBy w' v.ownBlock → (v'.ownBlock = v.ownBlock ∨ v'.ownBlock = some w.heap.size) → K (ac.put o.dst v') w') :
    if Region.wanted o (yielded ops ac.tmps) = true then Oper.wp Try.prog o ac w K Q else E := by
  have hw : Region.wanted o (yielded ops ac.tmps) = true := by simp [Region.wanted, hgd]
  rw [if_pos hw]
  obtain ⟨v', w', hrun, h2, h3, h4⟩ := run_appendB hown hr hbytes hbase o.type
  unfold Oper.wp execOp
  simp only [ho, resolve, invoke, builtin, Sem.run_bind, Sem.run_pure, Result.andThen_ok, List.map_toArray, List.map_cons, List.map_nil, hs, hx, hrun]
  exact h v' w' h2 h3 h4
/-- copy(own[off:..], b): as many bytes as b has go over. -/
theorem bc_splice (L : List UInt8) (off : Nat) (l : List UInt8) : bc (splice L off l) = splice (bc L) off (bc l) := by
  unfold splice; rw [bc_append, bc_append, bc_length]; simp [bc, List.map_take, List.map_drop]
theorem setRow_grown (w : World) (g : Nat) (cs : Array Value) : w.grownBy (w.setRow g cs) (some g) :=
  ⟨rfl, rfl, rfl, by simp [World.setRow], fun k hk hne => setRow_other w g k cs (fun e => hne (by rw [e]))⟩
theorem setRow_blk {w : World} {g : Nat} {t : TypeId} {cur cs : Array Value} (hg : Blk w g t cur) : Blk (w.setRow g cs) g t cs := setRow_heap w g _ _ t _ hg
theorem copyB {w : World} {g off dLen dCap : Nat} {L l : List UInt8} {vx : Value} {B : Nat} (hg : Blk w g 5 (bc L).toArray) (hr : RdB B w vx l) (hfit : off + l.length ≤ L.length) (hle : l.length ≤ dLen) (ty : TypeId) :
    ∃ w', (Builtin.copy_ #[28, 28] ty #[.slice (some ⟨g, off, none⟩) dLen dCap, vx]).run Try.prog w = .ok (goInt l.length) w' ∧ Blk w' g 5 (bc (splice L off l)).toArray ∧ w.grownBy w' (some g) := by
  obtain ⟨A, c, rfl, h1, h2, h3, h4⟩ := hr
  by_cases hn : l = []
  · subst hn
    refine ⟨w, run_copy_none (P := Try.prog) w 28 28 ty 5 _ _ _ _ _ _ Try.underlying28 (by kernel_rfl) (by simp), ?_, World.grownBy.refl w _⟩
    simpa [splice] using hg
  · obtain ⟨g', o', rfl, _, hc⟩ := h4 hn
    refine ⟨w.setRow g ((bc L).take off ++ (bc l ++ (bc L).drop (off + l.length))).toArray, ?_, ?_, setRow_grown w g _⟩
    · have := run_copy_row (P := Try.prog) w 28 28 ty 5 g off dLen dCap ⟨g', o', none⟩ l.length c (bc L).toArray 5 (bc l) Try.underlying28 (by kernel_rfl) hg (by rw [bc_length]; exact (Nat.min_eq_left hle).symm)
        (fun j u hu => by
          have hj : j < l.length := by
            have := (List.getElem?_eq_some_iff.1 hu).1
            simpa [bc] using this
          have hx := List.getElem?_eq_getElem hj
          rw [bc_at hx] at hu
          cases hu
          have hp : (⟨g', o', none⟩ : Addr).add j = ⟨g', o' + j, none⟩ := by unfold Addr.add; split <;> simp_all
          rw [hp]; exact hc j _ hx)
        (by simpa [bc] using hfit) (bc_one l)
      rw [bc_length, List.append_assoc] at this
      exact this
    · rw [bc_splice]
      simpa [splice, bc_length] using setRow_blk (cs := ((bc L).take off ++ (bc l ++ (bc L).drop (off + l.length))).toArray) hg
theorem wpList_copyB {w : World} {ops : Array Oper} {rest : List Oper} {o : Oper} {ac : Act} {Q : Exit → Act → World → Prop} (hgd : o.guard = none) (d s : Operand)
    (ho : o.op = .call { callee := .builtin .copy, args := #[d, s], argTypes := #[28, 28] })
    (g off dLen dCap : Nat) (L l : List UInt8) (vx : Value) (B : Nat) (hd : ac.eval d = .slice (some ⟨g, off, none⟩) dLen dCap) (hs : ac.eval s = vx) (hg : Blk w g 5 (bc L).toArray) (hr : RdB B w vx l) (hfit : off + l.length ≤ L.length) (hle : l.length ≤ dLen)
    (h : ∀ w', Hid (Blk w' g 5 (bc (splice L off l)).toArray) → w.grownBy w' (some g) → wpList Try.prog ops Q rest (ac.put o.dst (goInt l.length)) w') : wpList Try.prog ops Q (o :: rest) ac w := by
  refine wpList_plain hgd fun K hK => ?_
  obtain ⟨w', hrun, h2, h3⟩ := copyB (dCap := dCap) hg hr hfit hle o.type
  unfold Oper.wp execOp
  simp only [ho, resolve, invoke, builtin, Sem.run_bind, Sem.run_pure, Result.andThen_ok, List.map_toArray, List.map_cons, List.map_nil, hs, hd, hrun]
  exact hK _ _ (h w' h2 h3)
/-- What lay elsewhere lies there still. -/
theorem grown_other {w w' : World} {g B : Nat} (h : w.grownBy w' (some g)) (hB : B ≤ g) (hs : B ≤ w.heap.size) : Below B w w' :=
  ⟨h.os, h.tape, h.output, h.size, fun k hk => h.block k (by omega) (by intro e; cases e; omega)⟩
/-- append(own, make([]byte, k)...): the translation hands over the number. -/
theorem zeroCells_bc (k : Nat) : Builtin.zeroCells #[.int .u8 0] k = (bc (zs k)).toArray := by
  apply Array.ext_getElem?
  intro i
  rw [bc_zs]
  by_cases h : i < k
  · simp [Builtin.zeroCells, h, Nat.mod_one]
  · simp [Builtin.zeroCells, h]
theorem ownsRow_new {w : World} {base e : Nat} {l : List UInt8} (n c : Nat) (o : Array Value) (hb : base ≤ w.heap.size) (hn : l.length = n) (hc : n ≤ c) (hm : c ≤ maxLen) (ho : o = (bc l).toArray ++ Builtin.zeroCells #[.int .u8 0] (c - n)) :
    (w.alloc (.cells o e)).ownsRow base e 1 (.slice (some ⟨w.heap.size, 0, none⟩) n c) n (bc l) := by
  refine ⟨by rw [bc_length]; omega, .inr ⟨w.heap.size, c, o, rfl, hb, heap_alloc_new w _, hc, hm, ?_, ?_⟩⟩
  · subst ho; rw [zeroCells_bc]; simp [bc_length, zs_length]; omega
  · subst ho
    rw [Array.toList_append, List.take_left' (by simp [bc_length]; omega)]
theorem run_appendZ {w : World} {base : Nat} {v : Value} {a : List UInt8} (hown : w.ownsRow base 5 1 v a.length (bc a)) (k : Nat) (hbytes : a.length + k ≤ 140737488355328) (hbase : base ≤ w.heap.size) (ty : TypeId) :
    ∃ v' w', (Builtin.append_ #[28, 3] ty #[v, .int .i64 (k : Int)]).run Try.prog w = .ok v' w' ∧ w'.ownsRow base 5 1 v' (a ++ zs k).length (bc (a ++ zs k)) ∧ w.grownBy w' v.ownBlock ∧ (v'.ownBlock = v.ownBlock ∨ v'.ownBlock = some w.heap.size) := by
  obtain ⟨i0, hi0, hz0, hz1, hz2⟩ := info_parts infoU8
  have ht := Try.underlying28
  have htn := Try.underlying3
  have hw : IntKind.i64.wrap (k : Int) = k := by rw [IntKind.wrap_i64]; omega
  have hneg : ¬ ((k : Int) < 0) := by omega
  have hw0 : IntKind.i64.wrap (0 : Int) = 0 := by rw [IntKind.wrap_i64]; omega
  have hall : (a ++ zs k).length = a.length + k := by simp [zs_length]
  rw [hall]
  rcases hown.2 with ⟨rfl, hn⟩ | ⟨g, cap, cur, rfl, hbg, hg, hnc, hcm, hcs, htk⟩
  · obtain rfl := List.eq_nil_of_length_eq_zero hn
    by_cases hk : k = 0
    · subst hk
      refine ⟨.slice none 0 0, w, ?_, by simpa [zs] using hown, World.grownBy.refl w _, .inl rfl⟩
      simp [Builtin.append_, run_underlying ht, run_underlying htn, sizeOf, typeInfo, zeroValue, hi0, hz0, hz1, hz2, asInt, asIntOf, hw0, storeCells]
    · have hr := Lib.run_append_nil_zeros (P := Try.prog) w 28 3 ty 5 i0 _ .i64 .i64 ht htn hi0 hz0 k (by omega) (by omega) (by omega) (by rw [hz2]; simp at hbytes; omega)
      refine ⟨_, _, hr, ?_, ?_, .inr rfl⟩
      · have := ownsRow_new (w := w.drew) (base := base) (e := 5) (l := zs k) k (grownCap w k 0 5) _ hbase (zs_length k) (grownCap_ge w k 0 _) (grownCap_le_maxLen w k 0 _ (by unfold maxLen; simp at hbytes; omega)) rfl
        simpa [zeroCells_bc, Value.cells] using this
      · exact ⟨rfl, rfl, rfl, by simp, fun j hj _ => heap_alloc_old w.drew _ hj⟩
  · by_cases hroom : a.length + k ≤ cap
    · have hst := run_storeCells_at Try.prog g (a.length * 1) 5 (bc (zs k)) 0 cur w hg (by simp [bc_length, zs_length]; omega) (bc_one _)
      simp only [Nat.add_zero, Nat.mul_one] at hst
      refine ⟨.slice (some ⟨g, 0, none⟩) (a.length + k) cap, w.setRow g (cur.toList.take a.length ++ bc (zs k) ++ cur.toList.drop (a.length + (bc (zs k)).length)).toArray, ?_, ⟨by rw [bc_length, hall]; omega, .inr ⟨g, cap, _, rfl, hbg, setRow_heap w g cur _ _ _ hg, hroom, hcm, ?_, ?_⟩⟩, ?_, .inl rfl⟩
      · by_cases hk : k = 0
        · subst hk
          have e0 : bc (zs 0) = [] := rfl
          rw [e0] at hst ⊢
          have hst0 : (storeCells (⟨g, a.length, none⟩ : Addr) []).run Try.prog w = .ok () (w.setRow g cur) := by simpa using hst
          simp [Builtin.append_, run_underlying ht, run_underlying htn, sizeOf, typeInfo, zeroValue, hi0, hz0, hz1, hz2, asInt, asIntOf, hw0, hnc, Addr.add_lit, hst0]
        · have h48i : ¬ (281474976710656 < (k : Int)) := by omega
          simp [Builtin.append_, run_underlying ht, run_underlying htn, sizeOf, typeInfo, zeroValue, hi0, hz0, hz1, hz2, asInt, asIntOf, hw, hneg, hk, h48i, hroom, Addr.add_lit, zeroCells_bc, Value.cells, hst]
      · simp [bc_length, zs_length]; omega
      · rw [Nat.mul_one] at htk ⊢
        simp only [bc_append]
        rw [htk]
        exact List.take_left' (by simp [bc_length, zs_length])
      · exact setRow_grown w g _
    · have hk : 0 < k := by omega
      have hcells : ∀ j u, (bc a)[j]? = some u → w.drew.cell? ((⟨g, 0, none⟩ : Addr).add j) = some u := hown.cells (g := g) rfl
      have hfc := run_firstCells_some (P := Try.prog) w.drew 1 a.length ⟨g, 0, none⟩ a.length cap (bc a) (by simp [bc_length]) hcells
      have hr := Lib.run_append_grow_zeros (P := Try.prog) w 28 3 ty 5 i0 _ .i64 .i64 ht htn hi0 hz0 (some ⟨g, 0, none⟩) a.length cap (bc a) (by rw [hz1]; exact hfc) k hk (by omega) (by omega) (by omega) (by rw [hz2]; omega) (growslice_fits (by omega) (by rw [hz2]; omega))
      refine ⟨_, _, hr, ?_, ?_, .inr rfl⟩
      · have := ownsRow_new (w := w.drew) (base := base) (e := 5) (l := a ++ zs k) (a.length + k) (grownCap w (a.length + k) cap 5) _ hbase hall (grownCap_ge w _ cap _) (grownCap_le_maxLen w _ cap _ (by unfold maxLen; omega)) rfl
        simpa [zeroCells_bc, Value.cells, bc_append] using this
      · exact ⟨rfl, rfl, rfl, by simp, fun j hj _ => heap_alloc_old w.drew _ hj⟩
theorem wpList_appendZ {w : World} {ops : Array Oper} {rest : List Oper} {o : Oper} {ac : Act} {Q : Exit → Act → World → Prop} (hgd : o.guard = none) (s x : Operand)
    (ho : o.op = .call { callee := .builtin .append, args := #[s, x], argTypes := #[28, 3] })
    (base : Nat) (a : List UInt8) (k : Nat) (v : Value) (hs : ac.eval s = v) (hx : ac.eval x = .int .i64 (k : Int)) (hown : w.ownsRow base 5 1 v a.length (bc a)) (hbytes : a.length + k ≤ 140737488355328) (hbase : base ≤ w.heap.size)
    (h : ∀ v' w', Hid (w'.ownsRow base 5 1 v' (a ++ zs k).length (bc (a ++ zs k))) → w.grownBy w' v.ownBlock → (v'.ownBlock = v.ownBlock ∨ v'.ownBlock = some w.heap.size) → wpList Try.prog ops Q rest (ac.put o.dst v') w') : wpList Try.prog ops Q (o :: rest) ac w := by
  refine wpList_plain hgd fun K hK => ?_
  obtain ⟨v', w', hrun, h2, h3, h4⟩ := run_appendZ hown k hbytes hbase o.type
  unfold Oper.wp execOp
  simp only [ho, resolve, invoke, builtin, Sem.run_bind, Sem.run_pure, Result.andThen_ok, List.map_toArray, List.map_cons, List.map_nil, hs, hx, hrun]
  exact hK _ _ (h v' w' h2 h3 h4)
theorem a_nil_append {w : World} {base : Nat} {v : Value} {l : List UInt8} (h : w.ownsRow base 5 1 v ([] ++ l).length (bc ([] ++ l))) : w.ownsRow base 5 1 v l.length (bc l) := h
theorem own_shape {w : World} {base : Nat} {e : TypeId} {size n : Nat} {v : Value} {xs : List Value} (h : w.ownsRow base e size v n xs) : ∃ A c, v = .slice A n c := by
  rcases h.2 with ⟨rfl, rfl⟩ | ⟨g, cap, cur, rfl, _⟩
  · exact ⟨none, 0, rfl⟩
  · exact ⟨_, cap, rfl⟩
theorem byte_val (n : Nat) : (n : Int) % 256 = ((UInt8.ofNat n).toNat : Int) := by simp
/-- One byte in a new block. -/
theorem RdB_one {w : World} (x : UInt8) : RdB (w.alloc (.cells #[.int .u8 (x.toNat : Int)] 5)).heap.size (w.alloc (.cells #[.int .u8 (x.toNat : Int)] 5)) (.slice (some ⟨w.heap.size, 0, none⟩) 1 1) [x] :=
  RdB.of_own [x] (Blk.new w _ _) (by simp) 1 1 rfl (Nat.le_refl _) (by simp [maxLen])
/-- 's[k:]' as the walk spells it. -/
theorem cut_from {α : Type} {E : α → Value} {B : Nat} {w : World} {A : Option Addr} {n c : Nat} {l : List α} (h : Rd1 E B w (.slice A n c) l) (k : Nat) (hk : k ≤ n) :
    Rd1 E B w (.slice (if c = k then A else A.map (·.add k)) (n - k) (c - k)) (l.drop k) := by
  obtain ⟨A', c', e, h1, h2, h3, h4⟩ := h
  cases e
  refine ⟨_, c - k, by rw [List.length_drop], by rw [List.length_drop]; omega, by omega, ?_, fun hn => ?_⟩
  · intro e
    split at e
    · omega
    · have := h3 (by cases A <;> simp_all); omega
  · have hl : k < l.length := by
      rcases Nat.lt_or_ge k l.length with h | h
      · exact h
      · exact absurd (List.drop_eq_nil_of_le h) hn
    obtain ⟨g, o, rfl, hg, hc⟩ := h4 (by intro e; subst e; simp at hl)
    rw [if_neg (by omega)]
    refine ⟨g, o + k, ?_, hg, fun i x hx => ?_⟩
    · have hp : (⟨g, o, none⟩ : Addr).add k = ⟨g, o + k, none⟩ := by unfold Addr.add; split <;> simp_all
      simp [hp]
    · rw [Nat.add_assoc]; apply hc; rw [List.getElem?_drop] at hx; exact hx
/-- 's[:k]'. -/
theorem cut_to {α : Type} {E : α → Value} {B : Nat} {w : World} {A : Option Addr} {n c : Nat} {l : List α} (h : Rd1 E B w (.slice A n c) l) (k : Nat) (hk : k ≤ n) :
    Rd1 E B w (.slice A k c) (l.take k) := by
  obtain ⟨A', c', e, h1, h2, h3, h4⟩ := h
  cases e
  have hl : (l.take k).length = k := by rw [List.length_take]; omega
  refine ⟨A, c, by rw [hl], by omega, by omega, h3, fun hn => ?_⟩
  obtain ⟨g, o, e, hg, hc⟩ := h4 (by intro e; subst e; simp at hn)
  refine ⟨g, o, e, hg, fun i x hx => hc i x ?_⟩
  have hi : i < k := by
    have := (List.getElem?_eq_some_iff.1 hx).1
    omega
  rwa [List.getElem?_take_of_lt hi] at hx
end Go.Proofs.Ytiapoinobdnboaa.Mem
