/-
  Numbers of Go's kinds: wraps, bits.
-/
import Derived.Test.YtmilfgmkcmcicaaDnDef
namespace Go.Dn

theorem wrap_u8 (n : Int) : IntKind.u8.wrap n = n % 256 := by simp [IntKind.wrap, IntKind.signed, IntKind.bits]
theorem wrap_u32 (n : Int) : IntKind.u32.wrap n = n % 4294967296 := by simp [IntKind.wrap, IntKind.signed, IntKind.bits]
theorem wrap_u64 (n : Int) : IntKind.u64.wrap n = n % 18446744073709551616 := by simp [IntKind.wrap, IntKind.signed, IntKind.bits]
theorem wrap_i64_def (n : Int) : IntKind.i64.wrap n = if n % 18446744073709551616 ≥ 9223372036854775808 then n % 18446744073709551616 - 18446744073709551616 else n % 18446744073709551616 := by
  simp [IntKind.wrap, IntKind.signed, IntKind.bits]
theorem wrap_i64 {n : Int} (h1 : -9223372036854775808 ≤ n) (h2 : n ≤ 9223372036854775807) : IntKind.i64.wrap n = n := by
  rw [wrap_i64_def]; split <;> omega
theorem wrap_u8_id {n : Int} (h1 : 0 ≤ n) (h2 : n < 256) : IntKind.u8.wrap n = n := by rw [wrap_u8]; omega
theorem wrap_u32_id {n : Int} (h1 : 0 ≤ n) (h2 : n < 4294967296) : IntKind.u32.wrap n = n := by rw [wrap_u32]; omega
theorem wrap_u64_id {n : Int} (h1 : 0 ≤ n) (h2 : n < 18446744073709551616) : IntKind.u64.wrap n = n := by rw [wrap_u64]; omega
theorem wrap32_nat (x : BitVec 32) : IntKind.u32.wrap (x.toNat : Int) = (x.toNat : Int) := wrap_u32_id (by omega) (by have := x.isLt; omega)
theorem wrap64_nat (x : BitVec 64) : IntKind.u64.wrap (x.toNat : Int) = (x.toNat : Int) := wrap_u64_id (by omega) (by have := x.isLt; omega)
theorem wrap8_nat (x : UInt8) : IntKind.u8.wrap (x.toNat : Int) = (x.toNat : Int) := wrap_u8_id (by omega) (by have := x.toNat_lt; omega)
theorem ofInt_nat {n : Nat} (x : BitVec n) : BitVec.ofInt n (x.toNat : Int) = x := by
  rw [BitVec.ofInt_natCast, BitVec.ofNat_toNat, BitVec.setWidth_eq]
theorem ofInt_emod {n : Nat} (z : Int) : BitVec.ofInt n (z % (2 ^ n : Nat)) = BitVec.ofInt n z := by
  apply BitVec.eq_of_toInt_eq
  simp only [BitVec.toInt_ofInt]
  exact Int.emod_bmod _ _
theorem ofInt_wrap32 (z : Int) : BitVec.ofInt 32 (IntKind.u32.wrap z) = BitVec.ofInt 32 z := by
  rw [wrap_u32]; exact ofInt_emod (n := 32) z
theorem ofInt_wrap64 (z : Int) : BitVec.ofInt 64 (IntKind.u64.wrap z) = BitVec.ofInt 64 z := by
  rw [wrap_u64]; exact ofInt_emod (n := 64) z
theorem ofInt_sub0 {n : Nat} (z : Int) : BitVec.ofInt n (0 - z) = - BitVec.ofInt n z := by
  rw [Int.zero_sub]; exact BitVec.ofInt_neg
theorem fdiv_shift {n : Nat} (x : BitVec n) (k : Nat) : Int.fdiv (x.toNat : Int) (2 ^ k) = ((x >>> k).toNat : Int) := by
  rw [Int.fdiv_eq_ediv_of_nonneg _ (by exact Int.pow_nonneg (by decide))]
  rw [BitVec.toNat_ushiftRight, Nat.shiftRight_eq_div_pow]
  norm_cast
end Go.Dn
namespace Go.Dn
def Ret (Q : Value → World → Prop) : Ending → World → Prop := fun e w => ∃ v, e = .returned v ∧ Q v w
theorem IFB_dec {p : Prop} [Decidable p] {A B : Prop} (h1 : p → A) (h2 : ¬ p → B) : IFB (decide p) A B := by
  by_cases h : p
  · simp only [h, decide_true]; exact h1 h
  · simp only [h, decide_false]; exact h2 h
theorem IFB_of {b : Bool} {A B : Prop} (h1 : b = true → A) (h2 : b = false → B) : IFB b A B := by
  cases b
  · exact h2 rfl
  · exact h1 rfl
theorem IFB_eq {a b : Int} {A B : Prop} (h1 : a = b → A) (h2 : a ≠ b → B) : IFB (a == b) A B :=
  IFB_of (fun h => h1 (by simpa using h)) (fun h => h2 (by simpa using h))
theorem IFB_ne {a b : Int} {A B : Prop} (h1 : a ≠ b → A) (h2 : a = b → B) : IFB (a != b) A B :=
  IFB_of (fun h => h1 (by simpa using h)) (fun h => h2 (by simpa using h))
theorem IFB_not {b : Bool} {A B : Prop} (h : IFB b B A) : IFB (!b) A B := by cases b <;> exact h
theorem IFB_true {A B : Prop} (h : A) : IFB true A B := h
theorem IFB_false {A B : Prop} (h : B) : IFB false A B := h
theorem wrap_succ {k : Nat} (h : k < 9223372036854775807) : IntKind.i64.wrap ((k : Int) + 1) = ((k + 1 : Nat) : Int) := by
  rw [wrap_i64 (by omega) (by omega)]; omega
end Go.Dn
