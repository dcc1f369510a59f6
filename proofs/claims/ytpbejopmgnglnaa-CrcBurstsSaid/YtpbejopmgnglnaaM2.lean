/- Bursts: turned bits side by side are found. In plain numbers. -/
import Derived.Test.YtpbejopmgnglnaaS5
namespace Go.Proofs.Ytpbejopmgnglnaa
open Go
set_option linter.unusedVariables false

/-- the bits of bytes, as one number -/
def num : List UInt8 → Nat
  | [] => 0
  | x :: l => x.toNat ^^^ (2 ^ 8 * num l)
theorem mulp_xor (k a b : Nat) : 2 ^ k * (a ^^^ b) = (2 ^ k * a) ^^^ (2 ^ k * b) := by
  apply Nat.eq_of_testBit_eq
  intro j
  rw [Nat.testBit_xor, Nat.testBit_two_pow_mul, Nat.testBit_two_pow_mul, Nat.testBit_two_pow_mul, Nat.testBit_xor]
  cases decide (j ≥ k) <;> simp
theorem sts_mulp (k m : Nat) : sts k (2 ^ k * m) = m := by
  induction k with
  | zero => simp [sts]
  | succ k ih =>
    rw [Nat.pow_succ, Nat.mul_comm (2 ^ k) 2, Nat.mul_assoc]
    show sts k (st (2 * (2 ^ k * m))) = m
    rw [st_even, ih]
theorem reg_num : ∀ (l : List UInt8) (n : Nat), reg n l = sts (8 * l.length) (n ^^^ num l)
  | [], n => by simp [reg, num, sts]
  | x :: l, n => by
    show reg (sts 8 (n ^^^ x.toNat)) l = _
    rw [reg_num l, List.length_cons, show 8 * (l.length + 1) = 8 + 8 * l.length by omega, sts_add]
    show _ = sts (8 * l.length) (sts 8 (n ^^^ (x.toNat ^^^ 2 ^ 8 * num l)))
    rw [← Nat.xor_assoc, sts_xor 8 (n ^^^ x.toNat), sts_mulp]
theorem st_zero {n : Nat} (h : n < 4294967296) (h0 : st n = 0) : n = 0 := by
  unfold st at h0
  by_cases hm : n % 2 = 1
  · rw [if_pos hm] at h0
    have : n / 2 = poly := by
      have h1 : (n / 2 ^^^ poly) ^^^ poly = 0 ^^^ poly := by rw [h0]
      rwa [Nat.xor_assoc, Nat.xor_self, Nat.xor_zero, Nat.zero_xor] at h1
    unfold poly at this
    omega
  · rw [if_neg hm, Nat.xor_zero] at h0
    omega
theorem sts_zero (k : Nat) : ∀ {n : Nat}, n < 4294967296 → sts k n = 0 → n = 0 := by
  induction k with
  | zero => intro n _ h; exact h
  | succ k ih => intro n hn h; exact st_zero hn (ih (st_lt hn) h)
theorem split256 (n : Nat) : n = (n % 256) ^^^ (2 ^ 8 * (n / 256)) := by
  apply Nat.eq_of_testBit_eq
  intro j
  rw [Nat.testBit_xor, Nat.testBit_two_pow_mul, show (256 : Nat) = 2 ^ 8 from rfl, Nat.testBit_mod_two_pow, Nat.testBit_div_two_pow]
  by_cases h : j < 8
  · have h2 : ¬ 8 ≤ j := by omega
    simp [h, h2]
  · have h2 : 8 ≤ j := by omega
    simp [h, h2, Nat.sub_add_cancel h2]
theorem num_le4 {x : Nat} (h : x < 4294967296) : num (le4 x) = x := by
  have h0 := split256 x
  have h1 := split256 (x / 256)
  have h2 := split256 (x / 256 / 256)
  have h3 := split256 (x / 256 / 256 / 256)
  simp only [le4, num, ofNat_toNat]
  rw [show x / 65536 = x / 256 / 256 by omega, show x / 16777216 = x / 256 / 256 / 256 by omega]
  rw [show x / 256 / 256 / 256 / 256 = 0 by omega] at h3
  rw [← h3, ← h2, ← h1, ← h0]
theorem reg_ok (t : List UInt8) : reg 4294967295 (t ++ le4 (more 0 t)) = sts 32 4294967295 := by
  rw [reg_append, reg_num (le4 _), num_le4 (more_lt 0 t)]
  unfold more
  rw [Nat.sub_zero, ← inv_xor (reg_lt t (by omega))]
  show sts 32 _ = _
  congr 1
  rw [Nat.xor_comm 4294967295, ← Nat.xor_assoc, Nat.xor_self, Nat.zero_xor]
/-- turned bits are found -/
theorem turned (s s' : List UInt8) (t t' : List UInt8) (hs : s = t ++ le4 (more 0 t)) (hs' : s' = t' ++ le4 (more 0 t')) (hl : s'.length = s.length) (fr bits : Nat) (hb : bits < 4294967296) (hf : fr ≤ 8 * s.length)
    (hn : num s' = num s ^^^ (2 ^ fr * bits)) : bits = 0 := by
  have h1 := reg_ok t
  have h2 := reg_ok t'
  rw [← hs, reg_num] at h1
  rw [← hs', reg_num, hl, hn, ← Nat.xor_assoc, sts_xor, h1] at h2
  have h3 : sts 32 4294967295 ^^^ (sts 32 4294967295 ^^^ sts (8 * s.length) (2 ^ fr * bits)) = sts 32 4294967295 ^^^ sts 32 4294967295 := by rw [h2]
  rw [← Nat.xor_assoc, Nat.xor_self, Nat.zero_xor, show 8 * s.length = fr + (8 * s.length - fr) by omega, sts_add, sts_mulp] at h3
  exact sts_zero _ hb h3
/-- one bit turned -/
theorem num_turn : ∀ (l : List UInt8) (j r : Nat), j < l.length → num (l.set j (UInt8.ofNat ((l.getD j 0).toNat ^^^ 2 ^ r))) = num l ^^^ (2 ^ (8 * j + r)) ∨ 8 ≤ r
  | [], j, r, h => by simp at h
  | x :: l, 0, r, h => by
    by_cases hr : r < 8
    · left
      have : x.toNat ^^^ 2 ^ r < 256 := Nat.xor_lt_two_pow (n := 8) (byte_lt x) (Nat.pow_lt_pow_right (by omega) hr)
      simp only [List.set_cons_zero, List.getD_cons_zero, num, ofNat_toNat]
      rw [Nat.mod_eq_of_lt this, Nat.mul_zero, Nat.zero_add]
      ac_rfl
    · exact .inr (by omega)
  | x :: l, j + 1, r, h => by
    rcases num_turn l j r (by simpa using h) with h1 | h1
    · left
      simp only [List.set_cons_succ, List.getD_cons_succ, num]
      rw [h1, mulp_xor, ← Nat.pow_add, Nat.xor_assoc, show 8 + (8 * j + r) = 8 * (j + 1) + r by omega]
    · exact .inr h1
theorem bits_succ (bits i : Nat) : bits % 2 ^ (i + 1) = (bits % 2 ^ i) ^^^ (if bits / 2 ^ i % 2 = 1 then 2 ^ i else 0) := by
  apply Nat.eq_of_testBit_eq
  intro j
  have hb : (bits / 2 ^ i % 2 = 1) ↔ bits.testBit i = true := by
    rw [Nat.testBit_eq_decide_div_mod_eq]; simp
  rw [Nat.testBit_xor, Nat.testBit_mod_two_pow, Nat.testBit_mod_two_pow]
  by_cases hij : j = i
  · subst hij
    by_cases h : bits.testBit j = true
    · rw [if_pos (hb.2 h), Nat.testBit_two_pow_self, h]; simp
    · rw [if_neg (fun hh => h (hb.1 hh))]; simp at h; simp [h]
  · have h1 : (if bits / 2 ^ i % 2 = 1 then 2 ^ i else 0).testBit j = false := by
      split
      · exact Nat.testBit_two_pow_of_ne (fun h => hij h.symm)
      · exact Nat.zero_testBit j
    rw [h1, Bool.xor_false]
    by_cases h : j < i
    · simp [h, Nat.lt_succ_of_lt h]
    · have h2 : ¬ j < i + 1 := by omega
      simp [h, h2]

end Go.Proofs.Ytpbejopmgnglnaa
