/- Ported from another seat (crc/M.lean). -/
import Derived.WalkKit
namespace Go.Proofs.Ytconmaojfkmlnaa.Crc
open Go
set_option linter.unusedVariables false
set_option linter.unusedSimpArgs false
set_option maxRecDepth 100000

def poly : Nat := 2197175160
/-- what one bit does to the register -/
def st (n : Nat) : Nat := (n / 2) ^^^ (if n % 2 = 1 then poly else 0)
def sts : Nat → Nat → Nat
  | 0, n => n
  | k + 1, n => sts k (st n)

theorem xor_half (a b : Nat) : (a ^^^ b) / 2 = (a / 2) ^^^ (b / 2) := by
  have := Nat.shiftRight_xor_distrib (a := a) (b := b) (i := 1)
  simpa [Nat.shiftRight_succ] using this
theorem xor_mod2 (a b : Nat) : (a ^^^ b) % 2 = (a + b) % 2 := by
  have h := Nat.testBit_xor a b 0
  simp only [Nat.testBit_zero] at h
  rcases Nat.mod_two_eq_zero_or_one a with ha | ha <;> rcases Nat.mod_two_eq_zero_or_one b with hb | hb <;> rcases Nat.mod_two_eq_zero_or_one (a ^^^ b) with hc | hc <;> simp [ha, hb, hc] at h <;> omega
theorem st_xor (a b : Nat) : st (a ^^^ b) = st a ^^^ st b := by
  unfold st
  rw [xor_half, xor_mod2]
  rcases Nat.mod_two_eq_zero_or_one a with ha | ha <;> rcases Nat.mod_two_eq_zero_or_one b with hb | hb
  · rw [if_neg (by omega), if_neg (by omega), if_neg (by omega)]; simp
  · rw [if_pos (by omega), if_neg (by omega), if_pos hb]; simp [Nat.xor_assoc]
  · rw [if_pos (by omega), if_pos ha, if_neg (by omega)]; simp only [Nat.xor_zero]; rw [Nat.xor_assoc, Nat.xor_comm (b / 2), ← Nat.xor_assoc]
  · rw [if_neg (by omega), if_pos ha, if_pos hb]
    rw [Nat.xor_zero, Nat.xor_assoc, Nat.xor_comm (b / 2), ← Nat.xor_assoc poly, Nat.xor_self, Nat.zero_xor]
theorem sts_xor (k : Nat) : ∀ a b : Nat, sts k (a ^^^ b) = sts k a ^^^ sts k b := by
  induction k with
  | zero => intro a b; rfl
  | succ k ih => intro a b; simp only [sts, st_xor, ih]
theorem st_lt {n : Nat} (h : n < 4294967296) : st n < 4294967296 := by
  have : (4294967296 : Nat) = 2 ^ 32 := rfl
  unfold st
  rw [this] at h ⊢
  refine Nat.xor_lt_two_pow (by omega) ?_
  split
  · decide
  · decide
theorem sts_lt (k : Nat) : ∀ {n : Nat}, n < 4294967296 → sts k n < 4294967296 := by
  induction k with
  | zero => intro n h; exact h
  | succ k ih => intro n h; exact ih (st_lt h)
theorem sts_add (a b : Nat) : ∀ n : Nat, sts (a + b) n = sts b (sts a n) := by
  induction a with
  | zero => intro n; rw [Nat.zero_add]; rfl
  | succ a ih => intro n; rw [Nat.succ_add]; exact ih (st n)
theorem st_even (m : Nat) : st (2 * m) = m := by
  unfold st
  rw [if_neg (by omega), Nat.xor_zero]
  omega
theorem sts4_16 (m : Nat) : sts 4 (16 * m) = m := by
  have h1 : 16 * m = 2 * (2 * (2 * (2 * m))) := by omega
  rw [h1]
  simp only [sts, st_even]
theorem split16 (n : Nat) : n = (16 * (n / 16)) ^^^ (n % 16) := by
  have h := Nat.two_pow_add_eq_or_of_lt (i := 4) (b := n % 16) (by omega) (n / 16)
  have h2 : 2 ^ 4 * (n / 16) + n % 16 = n := by omega
  have h3 : (16 * (n / 16)) &&& (n % 16) = 0 := by
    apply Nat.eq_of_testBit_eq
    intro i
    rw [Nat.testBit_and, Nat.zero_testBit]
    by_cases hi : i < 4
    · have : (16 * (n / 16)).testBit i = false := by
        rw [show 16 * (n / 16) = 2 ^ 4 * (n / 16) from rfl, Nat.testBit_two_pow_mul]
        simp; omega
      rw [this]; rfl
    · have : (n % 16).testBit i = false := by
        rw [show (16 : Nat) = 2 ^ 4 from rfl, Nat.testBit_mod_two_pow]
        simp; omega
      rw [this, Bool.and_false]
  have h4 : (16 * (n / 16)) ^^^ (n % 16) = (16 * (n / 16)) ||| (n % 16) := by
    apply Nat.eq_of_testBit_eq
    intro i
    have hb : ((16 * (n / 16)) &&& (n % 16)).testBit i = false := by rw [h3]; simp
    rw [Nat.testBit_and] at hb
    rw [Nat.testBit_xor, Nat.testBit_or]
    revert hb
    cases (16 * (n / 16)).testBit i <;> cases (n % 16).testBit i <;> simp
  rw [h4]
  have h5 : 2 ^ 4 * (n / 16) ||| n % 16 = n := by rw [← h, h2]
  exact h5.symm
/-- four bits by the table -/
theorem sts4 (n : Nat) : sts 4 n = (n / 16) ^^^ sts 4 (n % 16) := by
  have h := congrArg (sts 4) (split16 n)
  rw [sts_xor, sts4_16] at h
  exact h

/-- the register behind bytes -/
def reg (n : Nat) (l : List UInt8) : Nat := l.foldl (fun n x => sts 8 (n ^^^ x.toNat)) n
theorem reg_append (n : Nat) (a b : List UInt8) : reg n (a ++ b) = reg (reg n a) b := List.foldl_append ..
theorem reg_snoc (n : Nat) (l : List UInt8) (x : UInt8) : reg n (l ++ [x]) = sts 8 (reg n l ^^^ x.toNat) := by rw [reg_append]; rfl
theorem byte_lt (x : UInt8) : x.toNat < 256 := x.toNat_lt
theorem xor_lt32 {a b : Nat} (ha : a < 4294967296) (hb : b < 4294967296) : a ^^^ b < 4294967296 := Nat.xor_lt_two_pow (n := 32) ha hb
theorem reg_lt (l : List UInt8) : ∀ {n : Nat}, n < 4294967296 → reg n l < 4294967296 := by
  induction l with
  | nil => intro n h; exact h
  | cons x l ih => intro n h; exact ih (sts_lt 8 (xor_lt32 h (by have := byte_lt x; omega)))
theorem byte_step (n x : Nat) : sts 8 (n ^^^ x) = ((((n ^^^ x) / 16) ^^^ sts 4 ((n ^^^ x) % 16)) / 16) ^^^ sts 4 ((((n ^^^ x) / 16) ^^^ sts 4 ((n ^^^ x) % 16)) % 16) := by
  rw [show 8 = 4 + 4 from rfl, sts_add, sts4 (sts 4 (n ^^^ x)), sts4 (n ^^^ x)]
/-- the sum: of what had the sum s, and l behind it -/
def more (s : Nat) (l : List UInt8) : Nat := 4294967295 - reg (4294967295 - s) l
theorem more_lt (s : Nat) (l : List UInt8) : more s l < 4294967296 := by unfold more; omega
theorem more_append {s : Nat} (a b : List UInt8) : more s (a ++ b) = more (more s a) b := by
  unfold more
  rw [reg_append]
  have h := reg_lt a (n := 4294967295 - s) (by omega)
  rw [show 4294967295 - (4294967295 - reg (4294967295 - s) a) = reg (4294967295 - s) a by omega]
theorem more_nil {s : Nat} (h : s < 4294967296) : more s [] = s := by unfold more reg; simp; omega

/-- two halves that stand beside each other: bit by bit, the register and the byte apart -/
theorem st_pair (n x : Nat) : ((n / 2) ^^^ (if n % 2 = x % 2 then 0 else poly)) ^^^ (x / 2) = st (n ^^^ x) := by
  unfold st
  rw [xor_half, xor_mod2]
  by_cases h : n % 2 = x % 2
  · rw [if_pos h, if_neg (by omega)]; simp
  · rw [if_neg h, if_pos (by omega), Nat.xor_assoc, Nat.xor_comm poly, ← Nat.xor_assoc]

theorem inv_xor {n : Nat} (h : n < 4294967296) : 4294967295 ^^^ n = 4294967295 - n := by
  have h1 : (4294967295 : Nat) = 2 ^ 32 - 1 := rfl
  have h2 : 4294967295 - n = 2 ^ 32 - (n + 1) := by omega
  apply Nat.eq_of_testBit_eq
  intro i
  rw [Nat.testBit_xor, h2, Nat.testBit_two_pow_sub_succ h, h1, Nat.testBit_two_pow_sub_one]
  by_cases hi : i < 32
  · simp [hi]
  · simp [hi]
    exact Nat.testBit_lt_two_pow (Nat.lt_of_lt_of_le h (Nat.pow_le_pow_right (n := 2) (by omega) (show 32 ≤ i by omega)))

/-! the machine's numbers -/

theorem u32_ofInt (a : Nat) (ha : a < 4294967296) : (BitVec.ofInt 32 (a : Int)).toNat = a := by
  rw [BitVec.ofInt_natCast, BitVec.toNat_ofNat]; exact Nat.mod_eq_of_lt (by omega)

end Go.Proofs.Ytconmaojfkmlnaa.Crc
