/- CRC-32C in plain words: one step, its being linear, bytes, tables, matrices, bursts; no program. -/
import GoSem.Claim
namespace Go.Proofs.YtcmpaebogekdcaaDoor.Crc
def poly : Nat := 2197175160
def ff : Nat := 4294967295
/-- A step with a bit 0. -/
def S (r : Nat) : Nat := if r % 2 = 1 then (r / 2) ^^^ poly else r / 2
def Sn : Nat → Nat → Nat
  | 0, r => r
  | k + 1, r => Sn k (S r)
theorem S_xor (a b : Nat) : S (a ^^^ b) = S a ^^^ S b := by
  unfold S
  have h1 : (a ^^^ b) / 2 = a / 2 ^^^ b / 2 := Nat.xor_div_two
  have h2 : (a ^^^ b) % 2 = (a % 2 + b % 2) % 2 := by
    have := @Nat.xor_mod_two_eq_one a b
    omega
  rw [h1]
  rcases Nat.mod_two_eq_zero_or_one a with ha | ha <;> rcases Nat.mod_two_eq_zero_or_one b with hb | hb <;> rw [h2, ha, hb] <;> simp
  · rw [Nat.xor_assoc]
  · rw [Nat.xor_assoc, Nat.xor_assoc, Nat.xor_comm poly (b / 2)]
  · rw [Nat.xor_assoc, Nat.xor_comm poly (b / 2 ^^^ poly), Nat.xor_assoc, Nat.xor_self, Nat.xor_zero]
theorem S_lt {r : Nat} (h : r < 4294967296) : S r < 4294967296 := by
  unfold S; split
  · exact Nat.xor_lt_two_pow (n := 32) (by omega) (by unfold poly; omega)
  · omega
theorem S_two (x : Nat) : S (2 * x) = x := by unfold S; rw [if_neg (by omega)]; omega
theorem S_zero : S 0 = 0 := rfl
theorem Sn_xor : ∀ (k a b : Nat), Sn k (a ^^^ b) = Sn k a ^^^ Sn k b
  | 0, _, _ => rfl
  | k + 1, a, b => by rw [Sn, S_xor, Sn_xor k]; rfl
theorem Sn_zero : ∀ k, Sn k 0 = 0
  | 0 => rfl
  | k + 1 => by rw [Sn, S_zero, Sn_zero k]
theorem Sn_lt : ∀ (k : Nat) {r : Nat}, r < 4294967296 → Sn k r < 4294967296
  | 0, _, h => h
  | k + 1, _, h => Sn_lt k (S_lt h)
theorem Sn_add : ∀ (j k r : Nat), Sn (j + k) r = Sn k (Sn j r)
  | 0, k, r => by rw [Nat.zero_add]; rfl
  | j + 1, k, r => by rw [show j + 1 + k = (j + k) + 1 by omega, Sn, Sn_add j k]; rfl
/-- A step loses nothing. -/
theorem S_ne {r : Nat} (h : r < 4294967296) (h0 : r ≠ 0) : S r ≠ 0 := by
  unfold S; split
  · intro e
    have : r / 2 = poly := by
      have h2 : (r / 2 ^^^ poly) ^^^ poly = 0 ^^^ poly := by rw [e]
      rw [Nat.xor_assoc, Nat.xor_self, Nat.xor_zero, Nat.zero_xor] at h2
      exact h2
    unfold poly at this; omega
  · omega
theorem Sn_ne : ∀ (k : Nat) {r : Nat}, r < 4294967296 → r ≠ 0 → Sn k r ≠ 0
  | 0, _, _, h0 => h0
  | k + 1, _, h, h0 => Sn_ne k (S_lt h) (S_ne h h0)
/-! The table. -/
def tab : List Nat := [0, 274646895, 549293790, 820201905, 1098587580, 1361435347, 1640403810, 1905808397, 2197175160, 2460548119, 2722870694, 2987750089, 3280807620, 3553878443, 3811616794, 4084100981]
theorem tab_at : ∀ i, i < 16 → tab.getD i 0 = Sn 4 i := by decide
theorem tab_lt : ∀ i, i < 16 → tab.getD i 0 < 4294967296 := by decide
def nib (r : Nat) : Nat := r / 16 ^^^ tab.getD (r % 16) 0
theorem split16 (r : Nat) : r = 2 * (2 * (2 * (2 * (r / 16)))) ^^^ (r % 16) := by
  have h : (r / 16) <<< 4 ^^^ (r % 16) = (r / 16) <<< 4 ||| r % 16 := by
    apply Nat.eq_of_testBit_eq
    intro i
    rw [Nat.testBit_xor, Nat.testBit_or, Nat.testBit_shiftLeft]
    by_cases hi : i ≥ 4
    · have : (r % 16).testBit i = false := Nat.testBit_lt_two_pow (Nat.lt_of_lt_of_le (Nat.mod_lt r (by omega)) (show (16 : Nat) ≤ 2 ^ i from by
        calc (16 : Nat) = 2 ^ 4 := rfl
          _ ≤ 2 ^ i := Nat.pow_le_pow_right (by omega) hi))
      simp [this]
    · simp [hi]
  have h2 : (r / 16) <<< 4 ||| r % 16 = r := by
    rw [← Nat.shiftLeft_add_eq_or_of_lt (show r % 16 < 2 ^ 4 from Nat.mod_lt r (by omega)), Nat.shiftLeft_eq]
    omega
  have h3 : 2 * (2 * (2 * (2 * (r / 16)))) = (r / 16) <<< 4 := by rw [Nat.shiftLeft_eq]; omega
  rw [h3, h, h2]
theorem nib_eq (r : Nat) : nib r = Sn 4 r := by
  unfold nib
  conv => rhs; rw [split16 r]
  rw [Sn_xor, tab_at _ (Nat.mod_lt r (by omega))]
  congr 1
  simp only [Sn, S_two]
/-! Bytes. -/
def refStep (r bit : Nat) : Nat := if r % 2 ≠ bit then (r / 2) ^^^ poly else r / 2
theorem refStep_eq (r bit : Nat) (h : bit < 2) : refStep r bit = S (r ^^^ bit) := by
  unfold refStep S
  have h1 : (r ^^^ bit) / 2 = r / 2 ^^^ bit / 2 := Nat.xor_div_two
  have h2 : (r ^^^ bit) % 2 = (r % 2 + bit % 2) % 2 := by
    have := @Nat.xor_mod_two_eq_one r bit
    omega
  rw [h1, show bit / 2 = 0 by omega, Nat.xor_zero]
  by_cases e : r % 2 ≠ bit
  · rw [if_pos e, if_pos (by omega)]
  · rw [if_neg e, if_neg (by omega)]
def refBits : Nat → Nat → Nat → Nat
  | 0, r, _ => r
  | n + 1, r, c => refBits n (refStep r (c % 2)) (c / 2)
theorem split2 (c : Nat) : c = c % 2 ^^^ 2 * (c / 2) := by
  apply Nat.eq_of_testBit_eq
  intro i
  rw [Nat.testBit_xor]
  cases i with
  | zero => simp [Nat.testBit_zero]
  | succ i => simp [Nat.testBit_succ, show c % 2 / 2 = 0 by omega]
theorem refBits_eq : ∀ (n r c : Nat), c < 2 ^ n → refBits n r c = Sn n (r ^^^ c)
  | 0, r, c, h => by have : c = 0 := by simpa using h
                     subst this; simp [refBits, Sn]
  | n + 1, r, c, h => by
    rw [refBits, refBits_eq n _ _ (by rw [Nat.pow_succ] at h; omega), refStep_eq _ _ (Nat.mod_lt _ (by omega)), Sn]
    congr 1
    conv => rhs; rw [split2 c, ← Nat.xor_assoc, S_xor, S_two]
/-- A register behind bytes. -/
def reg (r : Nat) (l : List UInt8) : Nat := l.foldl (fun r c => Sn 8 (r ^^^ c.toNat)) r
theorem byte_lt (c : UInt8) : c.toNat < 4294967296 := by have := c.toNat_lt; omega
theorem xor_lt {a b : Nat} (ha : a < 4294967296) (hb : b < 4294967296) : a ^^^ b < 4294967296 := Nat.xor_lt_two_pow (n := 32) ha hb
theorem reg_lt : ∀ (l : List UInt8) {r : Nat}, r < 4294967296 → reg r l < 4294967296
  | [], _, h => h
  | c :: l, _, h => reg_lt l (Sn_lt 8 (xor_lt h (byte_lt c)))
theorem nib2_eq (r c : Nat) : nib (nib (r ^^^ c)) = Sn 8 (r ^^^ c) := by rw [nib_eq, nib_eq, ← Sn_add]
theorem reg_snoc (r : Nat) (l : List UInt8) (c : UInt8) : reg r (l ++ [c]) = Sn 8 (reg r l ^^^ c.toNat) := by simp [reg]
theorem reg_append (r : Nat) (a b : List UInt8) : reg r (a ++ b) = reg (reg r a) b := by simp [reg]
theorem reg_xor : ∀ (l : List UInt8) (r x : Nat), reg (r ^^^ x) l = reg r l ^^^ Sn (8 * l.length) x
  | [], _, _ => rfl
  | c :: l, r, x => by
    show reg (Sn 8 ((r ^^^ x) ^^^ c.toNat)) l = reg (Sn 8 (r ^^^ c.toNat)) l ^^^ _
    rw [show (r ^^^ x) ^^^ c.toNat = (r ^^^ c.toNat) ^^^ x by rw [Nat.xor_assoc, Nat.xor_comm x, Nat.xor_assoc], Sn_xor, reg_xor l, ← Sn_add, List.length_cons, show 8 + 8 * l.length = 8 * (l.length + 1) by omega]
theorem reg_zeros : ∀ (n r : Nat), reg r (List.replicate n 0) = Sn (8 * n) r
  | 0, _ => rfl
  | n + 1, r => by
    rw [List.replicate_succ]
    show reg (Sn 8 (r ^^^ (0 : UInt8).toNat)) (List.replicate n 0) = _
    rw [show (0 : UInt8).toNat = 0 from rfl, Nat.xor_zero, reg_zeros n, ← Sn_add, show 8 + 8 * n = 8 * (n + 1) by omega]
/-- A sum, gone on with bytes. -/
def on (s : Nat) (l : List UInt8) : Nat := reg (s ^^^ ff) l ^^^ ff
def sum (l : List UInt8) : Nat := on 0 l
theorem ff_lt : ff < 4294967296 := by decide
theorem on_lt (s : Nat) (l : List UInt8) (h : s < 4294967296) : on s l < 4294967296 := xor_lt (reg_lt l (xor_lt h ff_lt)) ff_lt
theorem sum_lt (l : List UInt8) : sum l < 4294967296 := on_lt 0 l (by decide)
theorem ff_ff (x : Nat) : (x ^^^ ff) ^^^ ff = x := by rw [Nat.xor_assoc, Nat.xor_self, Nat.xor_zero]
theorem cpl_eq (x : Nat) (h : x < 4294967296) : x ^^^ ff = 4294967295 - x := by
  have h2 : x ^^^ ff = (~~~ (BitVec.ofNat 32 x)).toNat := by
    rw [← BitVec.xor_allOnes, BitVec.toNat_xor, BitVec.toNat_allOnes, BitVec.toNat_ofNat, Nat.mod_eq_of_lt (by omega)]
    rfl
  rw [h2, BitVec.toNat_not, BitVec.toNat_ofNat, Nat.mod_eq_of_lt (by omega)]
theorem on_append (s : Nat) (a b : List UInt8) : on (on s a) b = on s (a ++ b) := by unfold on; rw [ff_ff, reg_append]
theorem join_eq (a b : List UInt8) : Sn (8 * b.length) (sum a) ^^^ sum b = sum (a ++ b) := by
  unfold sum on
  rw [reg_append]
  have h : reg (0 ^^^ ff) a = (0 ^^^ ff) ^^^ (reg (0 ^^^ ff) a ^^^ ff) := by
    rw [Nat.zero_xor, Nat.xor_comm ff, ff_ff]
  conv => rhs; rw [h, reg_xor]
  generalize Sn (8 * b.length) (reg (0 ^^^ ff) a ^^^ ff) = x
  generalize reg (0 ^^^ ff) b = y
  rw [Nat.xor_comm y x, Nat.xor_assoc]
/-- Gone on with n bytes 0. -/
def zeros (s n : Nat) : Nat := Sn (8 * n) (s ^^^ ff) ^^^ ff
theorem zeros_on (s n : Nat) : zeros s n = on s (List.replicate n 0) := by unfold zeros on; rw [reg_zeros]
theorem zeros_add (s a b : Nat) : zeros (zeros s a) b = zeros s (a + b) := by unfold zeros; rw [ff_ff, ← Sn_add, Nat.mul_add]
theorem zeros_zero (s : Nat) : zeros s 0 = s := by unfold zeros; show (s ^^^ ff) ^^^ ff = s; exact ff_ff s
/-! A matrix: what becomes of each bit. -/
def tm (m : Nat → Nat) : Nat → Nat → Nat → Nat
  | 0, _, _ => 0
  | k + 1, i, r => (if r % 2 = 1 then m i else 0) ^^^ tm m k (i + 1) (r / 2)
def IsMat (m : Nat → Nat) (e : Nat) : Prop := ∀ i, i < 32 → m i = Sn e (2 ^ i)
theorem tm_eq {m : Nat → Nat} {e : Nat} (hm : IsMat m e) : ∀ (k i r : Nat), i + k ≤ 32 → r < 2 ^ k → tm m k i r = Sn e (r <<< i)
  | 0, i, r, _, h => by have : r = 0 := by simpa using h
                        subst this; simp [tm, Sn_zero]
  | k + 1, i, r, hi, h => by
    rw [tm, tm_eq hm k (i + 1) (r / 2) (by omega) (by rw [Nat.pow_succ] at h; omega)]
    conv => rhs; rw [split2 r, Nat.shiftLeft_xor_distrib, Sn_xor]
    congr 1
    · rcases Nat.mod_two_eq_zero_or_one r with e2 | e2
      · rw [e2, if_neg (by omega)]; simp [Sn_zero]
      · rw [e2, if_pos rfl, hm i (by omega), Nat.shiftLeft_eq, Nat.one_mul]
theorem times_eq {m : Nat → Nat} {e r : Nat} (hm : IsMat m e) (h : r < 4294967296) : tm m 32 0 r = Sn e r := by
  rw [tm_eq hm 32 0 r (by omega) (by simpa using h), Nat.shiftLeft_zero]
theorem tm_zero (m : Nat → Nat) : ∀ (k i : Nat), tm m k i 0 = 0
  | 0, _ => rfl
  | k + 1, i => by rw [tm, if_neg (by omega), show 0 / 2 = 0 from rfl, tm_zero m k]; rfl
theorem IsMat.square {m m' : Nat → Nat} {e : Nat} (hm : IsMat m e) (h : ∀ i, i < 32 → m' i = tm m 32 0 (m i)) : IsMat m' (e + e) := by
  intro i hi
  have h32 : (2 : Nat) ^ i < 4294967296 := Nat.pow_lt_pow_right (n := 32) (by omega) hi
  rw [h i hi, hm i hi, times_eq hm (Sn_lt e h32), Sn_add]
theorem IsMat.lt {m : Nat → Nat} {e : Nat} (hm : IsMat m e) : ∀ i, i < 32 → m i < 4294967296 := fun i hi => by
  rw [hm i hi]; exact Sn_lt e (Nat.pow_lt_pow_right (n := 32) (by omega) hi)
def step1 (i : Nat) : Nat := if i = 0 then poly else 2 ^ (i - 1)
theorem step1_mat : IsMat step1 1 := by
  intro i _
  unfold step1; split
  · subst i; rfl
  · obtain ⟨j, rfl⟩ : ∃ j, i = j + 1 := ⟨i - 1, by omega⟩
    show _ = S (2 ^ (j + 1))
    rw [Nat.pow_succ, Nat.mul_comm, S_two]; simp
/-! Four bytes in a row that are others. -/
theorem split256 (c : Nat) : c = c % 256 ^^^ 2 * (2 * (2 * (2 * (2 * (2 * (2 * (2 * (c / 256)))))))) := by
  have h2 : 2 * (2 * (2 * (2 * (2 * (2 * (2 * (2 * (c / 256))))))))= (c / 256) <<< 8 := by rw [Nat.shiftLeft_eq]; omega
  rw [h2]
  apply Nat.eq_of_testBit_eq
  intro i
  rw [Nat.testBit_xor, Nat.testBit_shiftLeft, show c / 256 = c >>> 8 from (Nat.shiftRight_eq_div_pow c 8).symm, Nat.testBit_shiftRight, show (256 : Nat) = 2 ^ 8 from rfl, Nat.testBit_mod_two_pow]
  by_cases hi : i < 8
  · simp [hi, show ¬ 8 ≤ i by omega]
  · simp [hi, show 8 ≤ i by omega, show 8 + (i - 8) = i by omega]
theorem S8_in (x c : Nat) : Sn 8 (x ^^^ c) = Sn 8 (x ^^^ c % 256) ^^^ c / 256 := by
  have h : x ^^^ c = (x ^^^ c % 256) ^^^ 2 * (2 * (2 * (2 * (2 * (2 * (2 * (2 * (c / 256)))))))) := by rw [Nat.xor_assoc, ← split256 c]
  have h2 : Sn 8 (2 * (2 * (2 * (2 * (2 * (2 * (2 * (2 * (c / 256))))))))) = c / 256 := by simp only [Sn, S_two]
  rw [h, Sn_xor, h2]
theorem burst4 {o : Nat} (ho : o < 4294967296) (h0 : o ≠ 0) : Sn 8 (Sn 8 (Sn 8 (Sn 8 (o % 256) ^^^ o / 256 % 256) ^^^ o / 65536 % 256) ^^^ o / 16777216 % 256) ≠ 0 := by
  have e : Sn 32 o = Sn 8 (Sn 8 (Sn 8 (Sn 8 (o % 256) ^^^ o / 256 % 256) ^^^ o / 65536 % 256) ^^^ o / 16777216 % 256) := by
    rw [show (32 : Nat) = 8 + (8 + (8 + 8)) from rfl, Sn_add, Sn_add, Sn_add]
    have h1 := S8_in 0 o
    rw [Nat.zero_xor, Nat.zero_xor] at h1
    rw [h1, S8_in _ (o / 256), Nat.div_div_eq_div_mul, S8_in _ (o / (256 * 256)), Nat.div_div_eq_div_mul, S8_in _ (o / (256 * 256 * 256)), Nat.div_div_eq_div_mul]
    rw [show o / (256 * 256 * 256 * 256) = 0 from Nat.div_eq_of_lt (by omega), Nat.xor_zero]
  rw [← e]
  exact Sn_ne 32 ho h0
theorem reg_ne (l : List UInt8) {r x : Nat} (hx : x < 4294967296) (h0 : x ≠ 0) : reg (r ^^^ x) l ≠ reg r l := by
  rw [reg_xor]
  intro e
  have h2 : reg r l ^^^ (reg r l ^^^ Sn (8 * l.length) x) = reg r l ^^^ reg r l := by rw [e]
  rw [← Nat.xor_assoc, Nat.xor_self, Nat.zero_xor] at h2
  exact Sn_ne _ hx h0 h2
theorem xor_swap4 (r b d e : Nat) : (r ^^^ d) ^^^ (b ^^^ e) = (r ^^^ b) ^^^ (d ^^^ e) := by
  rw [Nat.xor_assoc, Nat.xor_assoc, ← Nat.xor_assoc d, Nat.xor_comm d b, Nat.xor_assoc b]
theorem S8_two (r b d e : Nat) : Sn 8 ((r ^^^ d) ^^^ (b ^^^ e)) = Sn 8 (r ^^^ b) ^^^ Sn 8 (d ^^^ e) := by rw [xor_swap4, Sn_xor]
theorem burst {o : Nat} (ho : o < 4294967296) (h0 : o ≠ 0) (r : Nat) (a c : List UInt8) (b0 b1 b2 b3 e0 e1 e2 e3 : UInt8) (h1 : e0.toNat = o % 256) (h2 : e1.toNat = o / 256 % 256) (h3 : e2.toNat = o / 65536 % 256) (h4 : e3.toNat = o / 16777216 % 256) :
    reg r (a ++ ([b0 ^^^ e0, b1 ^^^ e1, b2 ^^^ e2, b3 ^^^ e3] ++ c)) ≠ reg r (a ++ ([b0, b1, b2, b3] ++ c)) := by
  rw [reg_append r a, reg_append r a, reg_append _ [b0, b1, b2, b3] c, reg_append _ [b0 ^^^ e0, b1 ^^^ e1, b2 ^^^ e2, b3 ^^^ e3] c]
  have key : reg (reg r a) [b0 ^^^ e0, b1 ^^^ e1, b2 ^^^ e2, b3 ^^^ e3] = reg (reg r a) [b0, b1, b2, b3] ^^^ Sn 8 (Sn 8 (Sn 8 (Sn 8 (o % 256) ^^^ o / 256 % 256) ^^^ o / 65536 % 256) ^^^ o / 16777216 % 256) := by
    generalize reg r a = q
    simp only [reg, List.foldl_cons, List.foldl_nil, UInt8.toNat_xor, h1, h2, h3, h4]
    rw [← Nat.xor_assoc q, Sn_xor 8 (q ^^^ b0.toNat), S8_two, S8_two, S8_two]
  rw [key]
  have hl : ∀ x : Nat, x % 256 < 4294967296 := fun x => by omega
  exact reg_ne c (Sn_lt 8 (xor_lt (Sn_lt 8 (xor_lt (Sn_lt 8 (xor_lt (Sn_lt 8 (hl _)) (hl _))) (hl _))) (hl _))) (burst4 ho h0)
end Go.Proofs.YtcmpaebogekdcaaDoor.Crc
