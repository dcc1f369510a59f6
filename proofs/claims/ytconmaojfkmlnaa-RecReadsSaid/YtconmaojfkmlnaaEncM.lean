/- Ported from another seat (enc/M.lean). -/
import Derived.Test.YtconmaojfkmlnaaD
import Derived.Test.YtconmaojfkmlnaaF
import Derived.Test.YtconmaojfkmlnaaA
import Derived.Test.YtconmaojfkmlnaaV
namespace Go.Proofs.Ytconmaojfkmlnaa.Enc
open Go Go.Proofs.Ytconmaojfkmlnaa Xf Go.RowKit
set_option linter.unusedVariables false
set_option linter.unusedSimpArgs false
set_option maxRecDepth 100000

theorem w64 {a : Int} (h0 : -9223372036854775808 ≤ a) (h1 : a < 9223372036854775808) : IntKind.wrap .i64 a = a := by
  rw [IntKind.wrap_i64]; omega
theorem wrapU8 (n : Nat) : IntKind.wrap .u8 (n : Int) = ((n % 256 : Nat) : Int) := by simp [IntKind.wrap, IntKind.bits, IntKind.signed]
theorem wrapU16 (n : Nat) : IntKind.wrap .u16 (n : Int) = ((n % 65536 : Nat) : Int) := by simp [IntKind.wrap, IntKind.bits, IntKind.signed]
theorem wrapU32 (n : Nat) : IntKind.wrap .u32 (n : Int) = ((n % 4294967296 : Nat) : Int) := by simp [IntKind.wrap, IntKind.bits, IntKind.signed]
theorem wrapU64 (n : Nat) : IntKind.wrap .u64 (n : Int) = ((n % 18446744073709551616 : Nat) : Int) := by simp [IntKind.wrap, IntKind.bits, IntKind.signed]
theorem two256 (i : Nat) : 2 ^ (8 * i) = 256 ^ i := by rw [Nat.pow_mul]
theorem shrU (n i : Nat) (hi : i ≤ 8) : Int.fdiv (n : Int) (2 ^ (min (Int.toNat (8 * (i : Int))) (IntKind.bits .u64))) = ((n / 256 ^ i : Nat) : Int) := by
  rw [show Int.toNat (8 * (i : Int)) = 8 * i by omega, show IntKind.bits .u64 = 64 from rfl, Nat.min_eq_left (by omega), ← two256 i]
  rw [Int.fdiv_eq_ediv_of_nonneg _ (by exact_mod_cast Nat.zero_le _)]
  norm_cast
theorem shlU (n i : Nat) (hi : i ≤ 8) : (n : Int) * 2 ^ (min (Int.toNat (8 * (i : Int))) (IntKind.bits .u64)) = ((n * 256 ^ i : Nat) : Int) := by
  rw [show Int.toNat (8 * (i : Int)) = 8 * i by omega, show IntKind.bits .u64 = 64 from rfl, Nat.min_eq_left (by omega), ← two256 i]
  norm_cast

theorem mk_extract (l : List UInt8) (a b : Nat) : (⟨l.toArray⟩ : ByteArray).extract a b = ⟨((l.drop a).take (b - a)).toArray⟩ := by
  apply ByteArray.ext
  apply Array.ext'
  rw [ByteArray.data_extract]
  simp [List.extract_eq_take_drop]
/-- x[:hi] and x[lo:] of a string -/
theorem run_strTo {P : Program} {w : World} {t : TypeId} {l : List UInt8} {q : IntKind} {i : Int} (ht : P.underlying t = some .string) (h0 : 0 ≤ i) (h1 : i ≤ l.length) :
    (sSlice t (.string ⟨l.toArray⟩) none (some (.int q i)) none).run P w = .ok (.value (.string ⟨(l.take i.toNat).toArray⟩)) w := by
  unfold sSlice Instr.sliceAt
  rw [run_sV, Sem.run_bind, run_underlying' ht]
  have hb : i ≤ ((⟨l.toArray⟩ : ByteArray).size : Nat) := by rw [size_mk]; exact h1
  simp only [Result.andThen_ok, Instr.slice, Sem.run_bind, run_underlying' ht, Instr.sliceBounds, Sem.run_pure, sliceBound_run h0 hb, Option.isSome_none, Bool.false_eq_true, if_false, mk_extract, List.drop_zero, Nat.sub_zero]
theorem run_strFrom {P : Program} {w : World} {t : TypeId} {l : List UInt8} {q : IntKind} {i : Int} (ht : P.underlying t = some .string) (h0 : 0 ≤ i) (h1 : i ≤ l.length) :
    (sSlice t (.string ⟨l.toArray⟩) (some (.int q i)) none none).run P w = .ok (.value (.string ⟨(l.drop i.toNat).toArray⟩)) w := by
  unfold sSlice Instr.sliceAt
  rw [run_sV, Sem.run_bind, run_underlying' ht]
  have hb : i ≤ ((⟨l.toArray⟩ : ByteArray).size : Nat) := by rw [size_mk]; exact h1
  simp only [Result.andThen_ok, Instr.slice, Sem.run_bind, run_underlying' ht, Instr.sliceBounds, Sem.run_pure, sliceBound_run h0 h1, Option.isSome_none, Bool.false_eq_true, if_false, mk_extract, size_mk, Result.andThen_ok]
  rw [List.take_of_length_le (by rw [List.length_drop]; exact Nat.le_refl _)]

/-- the bytes of a number, the lowest one first -/
def leB (n k : Nat) : List UInt8 := (List.range k).map fun i => UInt8.ofNat (n / 256 ^ i)
theorem leB_len (n k : Nat) : (leB n k).length = k := by simp [leB]
theorem leB_succ (n k : Nat) : leB n (k + 1) = leB n k ++ [UInt8.ofNat (n / 256 ^ k)] := by simp [leB, List.range_succ]
def leVal : List UInt8 → Nat
  | [] => 0
  | b :: l => b.toNat + 256 * leVal l
theorem leVal_snoc (l : List UInt8) (b : UInt8) : leVal (l ++ [b]) = leVal l + b.toNat * 256 ^ l.length := by
  induction l with
  | nil => simp [leVal]
  | cons a l ih =>
    show a.toNat + 256 * leVal (l ++ [b]) = a.toNat + 256 * leVal l + b.toNat * 256 ^ (l.length + 1)
    rw [ih, Nat.pow_succ, Nat.mul_add, Nat.add_assoc]
    congr 2
    rw [Nat.mul_left_comm, Nat.mul_comm 256]
theorem leVal_lt (l : List UInt8) : leVal l < 256 ^ l.length := by
  induction l with
  | nil => simp [leVal]
  | cons a l ih =>
    show a.toNat + 256 * leVal l < 256 ^ (l.length + 1)
    have := UInt8.toNat_lt a
    rw [Nat.pow_succ]
    omega
theorem ofNat_toNat8 (n : Nat) : (UInt8.ofNat n).toNat = n % 256 := by simp
theorem leVal_leB (n : Nat) : ∀ k, leVal (leB n k) = n % 256 ^ k
  | 0 => by simp [leB, leVal, Nat.mod_one]
  | k + 1 => by
    rw [leB_succ, leVal_snoc, leVal_leB n k, leB_len, ofNat_toNat8, Nat.pow_succ]
    have := Nat.mod_mul (a := 256 ^ k) (b := 256) (x := n)
    rw [this, Nat.mul_comm (256 ^ k)]

/-- a writer: block g, with the bytes l -/
def WI (W : World) (F : List (Nat × Obj)) (g : Nat) (l : List UInt8) (w : World) : Prop :=
  ∃ (v : Value) (h : List (Nat × Obj)), RowH 5 1 v l.length (bytesV l) h ∧ Owns w (h ++ ((g, .cells #[v] 108 (0, 0)) :: F)) ∧ Upd W w [] ∧ (∀ p ∈ h, W.heap.size ≤ p.1) ∧ W.heap.size ≤ g

theorem WI.mid {W w : World} {F : List (Nat × Obj)} {g : Nat} {l : List UInt8} (h : WI W F g l w) : Upd W w [] := by obtain ⟨_, _, _, _, h, _⟩ := h; exact h
theorem WI.ext {W w w' : World} {F : List (Nat × Obj)} {g : Nat} {l : List UInt8} (h : WI W F g l w) (hU : Upd w w' []) : WI W F g l w' := by
  obtain ⟨v, hh, h1, h2, h3, h4, h5⟩ := h
  exact ⟨v, hh, h1, h2.ext hU, h3.trans hU, h4, h5⟩
/-- one block more that is kept -/
theorem WI.push {W w w' : World} {F : List (Nat × Obj)} {g : Nat} {l : List UInt8} {p : Nat × Obj} (h : WI W F g l w) (hU : Upd w w' []) (hp : w'.heap[p.1]? = some p.2) (hg : w.heap.size ≤ p.1) : WI W (p :: F) g l w' := by
  obtain ⟨v, hh, h1, h2, h3, h4, h5⟩ := h
  refine ⟨v, hh, h1, ?_, h3.trans hU, h4, h5⟩
  have hO : Owns w' (p :: (hh ++ ((g, .cells #[v] 108 (0, 0)) :: F))) := by
    refine ⟨?_, fun q hq => ?_⟩
    · simp only [List.map_cons, List.nodup_cons]
      refine ⟨fun hm => ?_, h2.1⟩
      obtain ⟨q, hq, he⟩ := List.mem_map.1 hm
      have := h2.lt hq
      omega
    · rcases List.mem_cons.1 hq with rfl | hq
      · exact hp
      · exact (h2.ext hU).2 q hq
  refine hO.perm ?_
  refine (List.perm_middle (a := p) (l₁ := hh) (l₂ := (g, Obj.cells #[v] 108 (0, 0)) :: F)).symm.trans ?_
  exact List.Perm.append_left hh (List.Perm.swap _ _ _)
theorem WI.pop {W w : World} {F : List (Nat × Obj)} {g : Nat} {l : List UInt8} {p : Nat × Obj} (h : WI W (p :: F) g l w) : WI W F g l w := by
  obtain ⟨v, hh, h1, h2, h3, h4, h5⟩ := h
  exact ⟨v, hh, h1, h2.sub (List.Sublist.append (List.Sublist.refl _) (.cons_cons _ (.cons _ (List.Sublist.refl _)))), h3, h4, h5⟩

theorem neW {x y : Operand} {a : Addr} {w : World} : (sBin .eql 76 x y (.pointer (some a)) (.pointer none)).run Try.prog w = .ok (.value (.bool false)) w := by kernel_rfl
theorem eqW {x y : Operand} {w : World} : (sBin .eql 76 x y (.pointer none) (.pointer none)).run Try.prog w = .ok (.value (.bool true)) w := by kernel_rfl
theorem neR {x y : Operand} {a : Addr} {w : World} : (sBin .eql 60 x y (.pointer (some a)) (.pointer none)).run Try.prog w = .ok (.value (.bool false)) w := by kernel_rfl
theorem eqR {x y : Operand} {w : World} : (sBin .eql 60 x y (.pointer none) (.pointer none)).run Try.prog w = .ok (.value (.bool true)) w := by kernel_rfl
theorem neR' {x y : Operand} {a : Addr} {w : World} : (sBin .neq 60 x y (.pointer (some a)) (.pointer none)).run Try.prog w = .ok (.value (.bool true)) w := by kernel_rfl
theorem eqR' {x y : Operand} {w : World} : (sBin .neq 60 x y (.pointer none) (.pointer none)).run Try.prog w = .ok (.value (.bool false)) w := by kernel_rfl
theorem NP : (∀ {x y : Operand} {a : Addr} {w : World} {K : Value → World → Prop}, (std Try.prog).step (sBin .eql 76 x y (.pointer (some a)) (.pointer none)) w K = K (.bool false) w) ∧
  (∀ {x y : Operand} {w : World} {K : Value → World → Prop}, (std Try.prog).step (sBin .eql 76 x y (.pointer none) (.pointer none)) w K = K (.bool true) w) ∧
  (∀ {x y : Operand} {a : Addr} {w : World} {K : Value → World → Prop}, (std Try.prog).step (sBin .eql 60 x y (.pointer (some a)) (.pointer none)) w K = K (.bool false) w) ∧
  (∀ {x y : Operand} {w : World} {K : Value → World → Prop}, (std Try.prog).step (sBin .eql 60 x y (.pointer none) (.pointer none)) w K = K (.bool true) w) ∧
  (∀ {x y : Operand} {a : Addr} {w : World} {K : Value → World → Prop}, (std Try.prog).step (sBin .neq 60 x y (.pointer (some a)) (.pointer none)) w K = K (.bool true) w) ∧
  (∀ {x y : Operand} {w : World} {K : Value → World → Prop}, (std Try.prog).step (sBin .neq 60 x y (.pointer none) (.pointer none)) w K = K (.bool false) w) :=
  ⟨step_run neW, step_run eqW, step_run neR, step_run eqR, step_run neR', step_run eqR'⟩
end Go.Proofs.Ytconmaojfkmlnaa.Enc
