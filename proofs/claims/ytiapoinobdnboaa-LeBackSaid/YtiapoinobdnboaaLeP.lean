/- Numbers as bytes, in plain words; no program. -/
import GoSem.Claim
namespace Go.Proofs.Ytiapoinobdnboaa.Le
def sizeB (n : Int) : Bool := decide (n = 1 ∨ n = 2 ∨ n = 4 ∨ n = 8)
theorem sizeB_cases {n : Int} (h : sizeB n = true) : n = 1 ∨ n = 2 ∨ n = 4 ∨ n = 8 := of_decide_eq_true h
theorem sizeB_no {n : Int} (h : sizeB n = false) : n ≠ 1 ∧ n ≠ 2 ∧ n ≠ 4 ∧ n ≠ 8 := by
  have := of_decide_eq_false h; omega
/-- The k lowest bytes of a number. -/
def leb : Nat → Nat → List UInt8
  | 0, _ => []
  | k + 1, n => UInt8.ofNat n :: leb k (n / 256)
theorem leb_length : ∀ k n, (leb k n).length = k
  | 0, _ => rfl
  | k + 1, n => by rw [leb, List.length_cons, leb_length]
theorem leb_at : ∀ (k n i : Nat), i < k → (leb k n)[i]? = some (UInt8.ofNat (n / 256 ^ i))
  | 0, _, _, h => absurd h (by omega)
  | k + 1, n, 0, _ => by simp [leb]
  | k + 1, n, i + 1, h => by
    rw [leb, List.getElem?_cons_succ, leb_at k _ i (by omega), Nat.div_div_eq_div_mul, Nat.pow_succ, Nat.mul_comm 256]
theorem leb_take {k n i : Nat} (h : i < k) : (leb k n).take (i + 1) = (leb k n).take i ++ [UInt8.ofNat (n / 256 ^ i)] := by
  have h2 := leb_at k n i h
  obtain ⟨hk, e⟩ := List.getElem?_eq_some_iff.1 h2
  rw [List.take_succ_eq_append_getElem hk, e]
/-- Does a number of so many bytes fit? -/
def putOk (room : Int) (l : List UInt8) (bad : Bool) (size : Int) : Bool := !bad && sizeB size && decide (size ≤ room - l.length)
def putL (room : Int) (l : List UInt8) (bad : Bool) (size : Int) (n : Nat) : List UInt8 := if putOk room l bad size then l ++ leb size.toNat n else l
def bytesOk (room : Int) (l : List UInt8) (bad : Bool) (b : List UInt8) : Bool := !bad && decide ((b.length : Int) ≤ room - l.length)
def bytesL (room : Int) (l : List UInt8) (bad : Bool) (b : List UInt8) : List UInt8 := if bytesOk room l bad b then l ++ b else l
/-- The number that bytes are, the lowest first. -/
def leVal : List UInt8 → Nat
  | [] => 0
  | c :: l => c.toNat + 256 * leVal l
theorem leVal_lt : ∀ l, leVal l < 256 ^ l.length
  | [] => by simp [leVal]
  | c :: l => by
    have h1 := leVal_lt l
    have h2 := c.toNat_lt
    rw [leVal, List.length_cons, Nat.pow_succ]
    have h3 : 256 * leVal l + 256 ≤ 256 * 256 ^ l.length := by
      rw [← Nat.mul_succ]; exact Nat.mul_le_mul_left 256 h1
    omega
theorem leVal_snoc : ∀ l (c : UInt8), leVal (l ++ [c]) = leVal l + c.toNat * 256 ^ l.length
  | [], c => by simp [leVal]
  | d :: l, c => by
    rw [List.cons_append, leVal, leVal_snoc l, leVal, List.length_cons, Nat.pow_succ]
    have h : c.toNat * (256 ^ l.length * 256) = 256 * (c.toNat * 256 ^ l.length) := by rw [← Nat.mul_assoc, Nat.mul_comm]
    rw [h]
    generalize c.toNat * 256 ^ l.length = z
    omega
theorem leVal_leb : ∀ k n, leVal (leb k n) = n % 256 ^ k
  | 0, n => by simp [leb, leVal, Nat.mod_one]
  | k + 1, n => by
    rw [leb, leVal, leVal_leb k, Nat.pow_succ, Nat.mul_comm (256 ^ k) 256, Nat.mod_mul]
    simp
/-- Does a reader give so many bytes? -/
def takeOk (l : List UInt8) (bad : Bool) (n : Int) : Bool := !bad && decide (0 ≤ n) && decide (n ≤ l.length)
def takeL (l : List UInt8) (bad : Bool) (n : Int) : List UInt8 := if takeOk l bad n then l.drop n.toNat else l
def takeR (l : List UInt8) (bad : Bool) (n : Int) : List UInt8 := if takeOk l bad n then l.take n.toNat else []
def getOk (l : List UInt8) (bad : Bool) (n : Int) : Bool := sizeB n && takeOk l bad n
def getL (l : List UInt8) (bad : Bool) (n : Int) : List UInt8 := if getOk l bad n then l.drop n.toNat else l
def getR (l : List UInt8) (bad : Bool) (n : Int) : Nat := if getOk l bad n then leVal (l.take n.toNat) else 0
end Go.Proofs.Ytiapoinobdnboaa.Le
