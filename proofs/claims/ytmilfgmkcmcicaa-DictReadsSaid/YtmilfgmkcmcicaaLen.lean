/-
  How many bits a number needs; sizes and widths: both sides.
-/
import Derived.Test.YtmilfgmkcmcicaaWire2
namespace Go.Proofs.Ytmilfgmkcmcicaa
open Go.Dn Go.Proofs
open Go.RowKit (Below)
set_option linter.unusedVariables false
set_option maxRecDepth 20000

def IsLen (x r : Nat) : Prop := x < 2 ^ r ∧ (r = 0 ∨ 2 ^ (r - 1) ≤ x)
theorem IsLen.one {x r s : Nat} (h : IsLen x r) (h' : IsLen x s) : r = s := by
  have key : ∀ {a b : Nat}, IsLen x a → IsLen x b → a ≤ b := by
    intro a b ha hb
    rcases ha.2 with h0 | h0
    · omega
    · rcases Nat.lt_or_ge b a with hlt | hge
      · have : 2 ^ b ≤ 2 ^ (a - 1) := Nat.pow_le_pow_right (by omega) (by omega)
        have := hb.1
        omega
      · exact hge
  exact Nat.le_antisymm (key h h') (key h' h)
theorem IsLen.le {x r w : Nat} (h : IsLen x r) : r ≤ w ↔ x < 2 ^ w := by
  constructor
  · intro hle
    exact Nat.lt_of_lt_of_le h.1 (Nat.pow_le_pow_right (by omega) hle)
  · intro hlt
    rcases h.2 with h0 | h0
    · omega
    · rcases Nat.lt_or_ge w r with hlt2 | hge
      · have : 2 ^ w ≤ 2 ^ (r - 1) := Nat.pow_le_pow_right (by omega) (by omega)
        omega
      · exact hge
theorem IsLen.of_le {x r : Nat} (h : ∀ w, r ≤ w ↔ x < 2 ^ w) : IsLen x r := by
  refine ⟨(h r).1 (Nat.le_refl _), ?_⟩
  rcases Nat.eq_zero_or_pos r with h0 | h0
  · exact .inl h0
  · right
    rcases Nat.lt_or_ge x (2 ^ (r - 1)) with hlt | hge
    · have := (h (r - 1)).2 hlt
      omega
    · exact hge
theorem IsLen.shift {x r s : Nat} (h : IsLen (x / 2 ^ s) r) (hx : 2 ^ s ≤ x) : IsLen x (r + s) := by
  have hp : 0 < 2 ^ s := Nat.two_pow_pos s
  have h1 : 1 ≤ x / 2 ^ s := (Nat.le_div_iff_mul_le hp).2 (by omega)
  have hr : r ≠ 0 := by
    rintro rfl
    have := h.1
    simp at this
    omega
  refine ⟨?_, .inr ?_⟩
  · rw [Nat.pow_add]
    exact (Nat.div_lt_iff_lt_mul hp).1 h.1
  · rcases h.2 with h0 | h0
    · exact absurd h0 hr
    · rw [show r + s - 1 = (r - 1) + s by omega, Nat.pow_add]
      exact (Nat.le_div_iff_mul_le hp).1 h0

def lenT : ByteArray := ⟨#[0, 1, 2, 2, 3, 3, 3, 3, 4, 4, 4, 4, 4, 4, 4, 4, 5, 5, 5, 5, 5, 5, 5, 5, 5, 5, 5, 5, 5, 5, 5, 5, 6, 6, 6, 6, 6, 6, 6, 6, 6, 6, 6, 6, 6, 6, 6, 6, 6, 6, 6, 6, 6, 6, 6, 6, 6, 6, 6, 6, 6, 6, 6, 6, 7, 7, 7, 7, 7, 7, 7, 7, 7, 7, 7, 7, 7, 7, 7, 7, 7, 7, 7, 7, 7, 7, 7, 7, 7, 7, 7, 7, 7, 7, 7, 7, 7, 7, 7, 7, 7, 7, 7, 7, 7, 7, 7, 7, 7, 7, 7, 7, 7, 7, 7, 7, 7, 7, 7, 7, 7, 7, 7, 7, 7, 7, 7, 7, 8, 8, 8, 8, 8, 8, 8, 8, 8, 8, 8, 8, 8, 8, 8, 8, 8, 8, 8, 8, 8, 8, 8, 8, 8, 8, 8, 8, 8, 8, 8, 8, 8, 8, 8, 8, 8, 8, 8, 8, 8, 8, 8, 8, 8, 8, 8, 8, 8, 8, 8, 8, 8, 8, 8, 8, 8, 8, 8, 8, 8, 8, 8, 8, 8, 8, 8, 8, 8, 8, 8, 8, 8, 8, 8, 8, 8, 8, 8, 8, 8, 8, 8, 8, 8, 8, 8, 8, 8, 8, 8, 8, 8, 8, 8, 8, 8, 8, 8, 8, 8, 8, 8, 8, 8, 8, 8, 8, 8, 8, 8, 8, 8, 8, 8, 8, 8, 8, 8, 8, 8, 8, 8, 8, 8, 8, 8, 8]⟩
theorem lenT_size : lenT.size = 256 := by decide
theorem lenT_all : ((List.range 256).all fun i => decide (i < 2 ^ (sget lenT i).toNat) && ((sget lenT i).toNat == 0 || decide (2 ^ ((sget lenT i).toNat - 1) ≤ i)) && decide ((sget lenT i).toNat ≤ 8)) = true := by decide +kernel
theorem lenT_is {i : Nat} (h : i < 256) : IsLen i (sget lenT i).toNat ∧ (sget lenT i).toNat ≤ 8 := by
  have := List.all_eq_true.1 lenT_all i (List.mem_range.2 h)
  simp only [Bool.and_eq_true, decide_eq_true_eq, Bool.or_eq_true, beq_iff_eq] at this
  exact ⟨⟨this.1.1, this.1.2⟩, this.2⟩

theorem fdiv_pow (x s : Nat) : Int.fdiv (x : Int) (2 ^ s) = ((x / 2 ^ s : Nat) : Int) := by
  rw [Int.fdiv_eq_ediv_of_nonneg _ (Int.le_of_lt (Int.pow_pos (by omega)))]
  norm_cast
theorem Len64_ok (w : World) (x : Nat) (hx : x < 18446744073709551616) : Calls Try.prog f.math_bits_Len64 #[.int .u64 (x : Int)] w (Ret fun v w' => ∃ r : Nat, v = .int .i64 (r : Int) ∧ IsLen x r ∧ r ≤ 64 ∧ w' = w) := by
  apply R.math_bits_Len64_calls
  unfold R.math_bits_Len64
  refine ⟨fun st w1 => w1 = w ∧ ∃ y n : Nat, st = [.int .u64 (y : Int), .int .i64 (n : Int)] ∧ y < 4294967296 ∧ n ≤ 32 ∧ (∀ r, IsLen y r → r ≤ 32 → IsLen x (r + n) ∨ (n = 0 ∧ x = y)), ?_, ?_⟩
  · refine IFB_dec (fun h => ⟨rfl, x / 2 ^ 32, 32, ?_, ?_, by omega, fun r hr _ => .inl (hr.shift (by omega))⟩) (fun h => ⟨rfl, x, 0, rfl, by omega, by omega, fun r _ _ => .inr ⟨rfl, rfl⟩⟩)
    · rw [show min 32 64 = 32 from rfl, fdiv_pow]
      rfl
    · omega
  rintro _ _ w1 ⟨rfl, y, n, hst, hy, hn, hyx⟩
  cases hst
  refine ⟨fun st w2 => w2 = w1 ∧ ∃ z m : Nat, st = [.int .u64 (z : Int), .int .i64 (m : Int)] ∧ z < 65536 ∧ m ≤ 48 ∧ (∀ r, IsLen z r → r ≤ 16 → IsLen x (r + m)), ?_, ?_⟩
  · have fin : ∀ r, IsLen y r → r ≤ 32 → IsLen x (r + n) := by
      intro r hr h32
      rcases hyx r hr h32 with h | ⟨rfl, rfl⟩
      · exact h
      · exact hr
    refine IFB_dec (fun h => ⟨rfl, y / 2 ^ 16, n + 16, ?_, by omega, by omega, fun r hr h16 => ?_⟩) (fun h => ⟨rfl, y, n, rfl, by omega, by omega, fun r hr h16 => fin r hr (by omega)⟩)
    · rw [show min 16 64 = 16 from rfl, fdiv_pow, wrap_i64 (by omega) (by omega)]
      rfl
    · have := fin _ (hr.shift (s := 16) (by omega)) (by omega)
      rwa [Nat.add_assoc, Nat.add_comm 16] at this
  rintro _ _ w2 ⟨rfl, z, m, hst, hz, hm, hzx⟩
  cases hst
  have e256 : ((ByteArray.size lenT : Nat) : Int) = 256 := by rw [lenT_size]; rfl
  refine IFB_dec (fun h => ?_) (fun h => ?_)
  · rw [show min 8 64 = 8 from rfl, fdiv_pow, wrap_u8_id (by omega) (by omega)]
    have hlt : z / 2 ^ 8 < 256 := by omega
    have ht := lenT_is hlt
    refine ⟨⟨by omega, by show _ < ((ByteArray.size lenT : Nat) : Int); omega⟩, (sget lenT (z / 2 ^ 8)).toNat + 8 + m, ?_, ?_, by omega, rfl⟩
    · have hT : ∀ i, (sget lenT i).toNat < 256 := fun i => UInt8.toNat_lt _
      show Value.int .i64 (IntKind.i64.wrap (IntKind.i64.wrap ((m : Int) + 8) + IntKind.i64.wrap ((sget lenT ((z / 2 ^ 8 : Nat) : Int).toNat).toNat : Int))) = _
      rw [Int.toNat_natCast, wrap_i64 (n := (m : Int) + 8) (by omega) (by omega), wrap_i64 (n := ((sget lenT (z / 2 ^ 8)).toNat : Int)) (by omega) (by omega), wrap_i64 (by omega) (by omega)]
      congr 1
      omega
    · exact hzx _ (ht.1.shift (s := 8) (by omega)) (by omega)
  · have hlt : z < 256 := by omega
    have ht := lenT_is hlt
    rw [wrap_u8_id (by omega) (by omega)]
    refine ⟨⟨by omega, by show _ < ((ByteArray.size lenT : Nat) : Int); omega⟩, (sget lenT z).toNat + m, ?_, ?_, by omega, rfl⟩
    · show Value.int .i64 (IntKind.i64.wrap ((m : Int) + IntKind.i64.wrap ((sget lenT ((z : Nat) : Int).toNat).toNat : Int))) = _
      rw [Int.toNat_natCast, wrap_i64 (n := ((sget lenT z).toNat : Int)) (by omega) (by omega), wrap_i64 (by omega) (by omega)]
      congr 1
      omega
    · exact hzx _ ht.1 (by omega)
end Go.Proofs.Ytmilfgmkcmcicaa
