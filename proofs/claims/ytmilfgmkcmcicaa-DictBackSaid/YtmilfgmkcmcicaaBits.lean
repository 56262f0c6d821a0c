/-
  Numbers of few bits out of bytes, in plain words.
-/
import Derived.Test.YtmilfgmkcmcicaaPack3
namespace Go.Proofs.Ytmilfgmkcmcicaa
open Go.Dn Go.Proofs
open Go.RowKit (Below)
set_option linter.unusedVariables false
set_option maxRecDepth 20000

/-- the numbers behind t bits -/
def stU (f : Nat → Bool) (w : Nat) : Nat → Nat → Nat
  | 0, _ => 0
  | t + 1, j => if j = t / w ∧ f t = true then stU f w t j ||| 2 ^ (t % w) else stU f w t j
theorem stU_bit (f : Nat → Bool) {w : Nat} (hw : 0 < w) (t i k : Nat) : (stU f w t i).testBit k = (decide (k < w ∧ i * w + k < t) && f (i * w + k)) := by
  induction t with
  | zero => simp [stU]
  | succ t ih =>
    unfold stU
    have hd := Nat.div_add_mod t w
    have hm := Nat.mod_lt t hw
    rw [Nat.mul_comm] at hd
    split
    · rename_i h
      obtain ⟨rfl, hf⟩ := h
      rw [Nat.testBit_or, ih, Nat.testBit_two_pow]
      by_cases hk : t % w = k
      · subst hk
        rw [hd]
        simp [hm, hf]
      · have : ¬ (t / w * w + k = t) := by omega
        rw [Bool.eq_iff_iff]
        simp [hk]
        intro _ _
        omega
    · rename_i h
      rw [ih]
      by_cases hk : k < w ∧ i * w + k = t
      · have hi : i = t / w := by
          rw [← hk.2, Nat.mul_comm, Nat.mul_add_div hw, Nat.div_eq_of_lt hk.1]; rfl
        have hf : f t = false := by
          cases hft : f t
          · rfl
          · exact absurd ⟨hi, hft⟩ h
        rw [hk.2, hf]
        simp
      · rw [Bool.eq_iff_iff]
        simp
        intro _ _
        omega
theorem stB_eq (f : Nat → Bool) (t j : Nat) : stB f t j = stU f 8 t j := by
  induction t with
  | zero => rfl
  | succ t ih => unfold stB stU; rw [ih]
theorem stU_lt (f : Nat → Bool) {w : Nat} (hw : 0 < w) (t i : Nat) : stU f w t i < 2 ^ w := by
  apply Nat.lt_pow_two_of_testBit
  intro k hk
  rw [stU_bit f hw]
  simp
  intro h
  omega
def bitB (l : List UInt8) (t : Nat) : Bool := (l.getD (t / 8) 0).toNat.testBit (t % 8)
def unpackL (l : List UInt8) (n w : Nat) : List Nat := (List.range n).map (stU (bitB l) w (n * w))
theorem unpackL_len (l : List UInt8) (n w : Nat) : (unpackL l n w).length = n := by simp [unpackL]
theorem unpackL_lt (l : List UInt8) (n w : Nat) : ∀ x ∈ unpackL l n w, x < 2 ^ w := by
  intro x hx
  obtain ⟨i, _, rfl⟩ := List.mem_map.1 hx
  by_cases hw : 0 < w
  · exact stU_lt _ hw _ _
  · have : w = 0 := by omega
    subst this
    simp [stU]
theorem bitA_unpack (l : List UInt8) {n w t : Nat} (ht : t < n * w) : bitA (unpackL l n w) w t = bitB l t := by
  have hw : 0 < w := Nat.pos_of_ne_zero (by rintro rfl; simp at ht)
  have hi : t / w < n := (Nat.div_lt_iff_lt_mul hw).2 ht
  have hd := Nat.div_add_mod t w
  have hm := Nat.mod_lt t hw
  rw [Nat.mul_comm] at hd
  unfold bitA
  have : (unpackL l n w).getD (t / w) 0 = stU (bitB l) w (n * w) (t / w) := by simp [unpackL, hi]
  rw [this, stU_bit _ hw, hd]
  simp [hm, ht]
theorem u8_testBit {c : UInt8} {k : Nat} (hk : 8 ≤ k) : c.toNat.testBit k = false :=
  Nat.testBit_lt_two_pow (Nat.lt_of_lt_of_le c.toNat_lt (Nat.pow_le_pow_right (by omega) hk))
theorem u8_ext {c d : UInt8} (h : ∀ k, k < 8 → c.toNat.testBit k = d.toNat.testBit k) : c = d := by
  apply UInt8.toNat_inj.1
  apply Nat.eq_of_testBit_eq
  intro k
  by_cases hk : k < 8
  · exact h k hk
  · rw [u8_testBit (by omega), u8_testBit (by omega)]
theorem pack_get {xs : List Nat} {w j : Nat} (hj : j < sizeN xs.length w) : (packL xs w)[j]? = some (UInt8.ofNat (stB (bitA xs w) (xs.length * w) j)) := by
  simp [packL, hj]
theorem pack_bit {xs : List Nat} {w j k : Nat} (hk : k < 8) : (UInt8.ofNat (stB (bitA xs w) (xs.length * w) j)).toNat.testBit k = (decide (j * 8 + k < xs.length * w) && bitA xs w (j * 8 + k)) := by
  rw [ofNat_toNat8 (stB_lt _ _ _), stB_eq, stU_bit _ (by omega)]
  simp [hk]
theorem tail_iff {l : List UInt8} {n w : Nat} (hl : l.length = sizeN n w) : packL (unpackL l n w) w = l ↔ ∀ t, n * w ≤ t → bitB l t = false := by
  have hs : sizeN (unpackL l n w).length w = l.length := by rw [unpackL_len, hl]
  have hN : l.length = (n * w + 7) / 8 := hl
  constructor
  · intro h t ht
    by_cases hj : t / 8 < l.length
    · have h1 : (packL (unpackL l n w) w)[t / 8]? = l[t / 8]? := by rw [h]
      rw [pack_get (by omega), List.getElem?_eq_getElem hj] at h1
      have h2 := Option.some.inj h1
      unfold bitB
      have : l.getD (t / 8) 0 = l[t / 8] := by simp [hj]
      rw [this, ← h2, pack_bit (Nat.mod_lt _ (by omega)), unpackL_len]
      have : ¬ (t / 8 * 8 + t % 8 < n * w) := by omega
      simp [this]
    · unfold bitB
      have : l.getD (t / 8) 0 = 0 := by simp [List.getD, List.getElem?_eq_none (Nat.le_of_not_lt hj)]
      rw [this]
      simp
  · intro h
    apply List.ext_getElem?
    intro j
    by_cases hj : j < l.length
    · rw [pack_get (by omega), List.getElem?_eq_getElem hj]
      congr 1
      apply u8_ext
      intro k hk
      rw [pack_bit hk, unpackL_len]
      have hb : bitB l (j * 8 + k) = l[j].toNat.testBit k := by
        unfold bitB
        rw [show (j * 8 + k) / 8 = j by omega, show (j * 8 + k) % 8 = k by omega]
        simp [hj]
      by_cases ht : j * 8 + k < n * w
      · rw [bitA_unpack l ht, hb]
        simp [ht]
      · have := h _ (Nat.le_of_not_lt ht)
        rw [← hb, this]
        simp [ht]
    · rw [List.getElem?_eq_none (by rw [packL_len]; omega), List.getElem?_eq_none (by omega)]
theorem tail_word {l : List UInt8} {T : Nat} (hl : l.length = (T + 7) / 8) : (∀ t, T ≤ t → bitB l t = false) ↔ (0 < l.length → T % 8 ≠ 0 → (l.getD (l.length - 1) 0).toNat / 2 ^ (T % 8) = 0) := by
  constructor
  · intro h h0 h8
    apply Nat.eq_of_testBit_eq
    intro k
    rw [Nat.testBit_div_two_pow, Nat.zero_testBit]
    by_cases hk : T % 8 + k < 8
    · have := h (T + k) (by omega)
      unfold bitB at this
      rw [show (T + k) / 8 = l.length - 1 by omega, show (T + k) % 8 = T % 8 + k by omega] at this
      rw [Nat.add_comm]
      exact this
    · exact u8_testBit (by omega)
  · intro h t ht
    unfold bitB
    by_cases hj : t / 8 < l.length
    · have h8 : T % 8 ≠ 0 := by omega
      have := h (by omega) h8
      have e : t / 8 = l.length - 1 := by omega
      rw [e]
      have h2 : ((l.getD (l.length - 1) 0).toNat / 2 ^ (T % 8)).testBit (t % 8 - T % 8) = false := by rw [this, Nat.zero_testBit]
      rw [Nat.testBit_div_two_pow] at h2
      rw [show t % 8 - T % 8 + T % 8 = t % 8 by omega] at h2
      exact h2
    · have : l.getD (t / 8) 0 = 0 := by simp [List.getD, List.getElem?_eq_none (Nat.le_of_not_lt hj)]
      rw [this]
      simp

/-! ### rows of numbers -/
def rowU (f : Nat → Bool) (w m t : Nat) : Array Value := ⟨(List.range m).map fun j => .int .u64 (stU f w t j : Int)⟩
theorem rowU_size (f : Nat → Bool) (w m t : Nat) : (rowU f w m t).size = m := by simp [rowU]
theorem rowU_get {f : Nat → Bool} {w m t j : Nat} (h : j < m) : (rowU f w m t)[j]? = some (.int .u64 (stU f w t j : Int)) := by simp [rowU, h]
theorem rowU_set {f : Nat → Bool} {w m t : Nat} (v : Nat) (hv : v = stU f w (t + 1) (t / w)) : (rowU f w m t).setIfInBounds (t / w) (.int .u64 (v : Int)) = rowU f w m (t + 1) := by
  apply Array.ext'
  apply List.ext_getElem?
  intro i
  simp only [Array.toList_setIfInBounds, rowU, List.getElem?_set, List.length_map, List.length_range]
  by_cases h : t / w = i
  · subst h
    by_cases h2 : t / w < m
    · simp [h2, hv]
    · simp [h2]
  · have e : stU f w (t + 1) i = stU f w t i := by
      conv => lhs; unfold stU
      rw [if_neg (by omega)]
    by_cases h2 : i < m
    · simp [h, h2, e]
    · simp [h, h2]
theorem rowU_skip {f : Nat → Bool} {w m t : Nat} (h : f t = false) : rowU f w m (t + 1) = rowU f w m t := by
  unfold rowU
  congr 1
  apply List.map_congr_left
  intro j _
  conv => lhs; unfold stU
  rw [if_neg (by simp [h])]
theorem rowU_zero (f : Nat → Bool) (w m : Nat) : madeCells (Value.int .u64 0).cells (m * 1) = rowU f w m 0 := by
  apply Array.ext'
  rw [madeCells_one _ rfl]
  simp [rowU, stU, List.map_const']
theorem rowU_end (l : List UInt8) (n w : Nat) : (rowU (bitB l) w n (n * w)).toList = (unpackL l n w).map u64V := by
  simp [rowU, unpackL, u64V]
theorem stU_step (f : Nat → Bool) (w t : Nat) : stU f w t (t / w) ||| (f t).toNat * 2 ^ (t % w) = stU f w (t + 1) (t / w) := by
  conv => rhs; unfold stU
  cases h : f t
  · simp
  · simp
/-! ### words -/
theorem bit_prog8 {x k : Nat} (hx : x < 256) (hk : k < 8) : IntKind.u8.wrap (((BitVec.ofInt 8 (Int.fdiv (x : Int) (2 ^ (min k 8))) &&& BitVec.ofInt 8 1).toNat : Int)) = ((x.testBit k).toNat : Int) := by
  rw [show min k 8 = k by omega, fdiv_pow]
  have hle : x / 2 ^ k ≤ x := Nat.div_le_self _ _
  have e : (BitVec.ofInt 8 ((x / 2 ^ k : Nat) : Int) &&& BitVec.ofInt 8 1).toNat = x / 2 ^ k % 2 := by
    rw [BitVec.toNat_and, BitVec.ofInt_natCast, BitVec.toNat_ofNat, Nat.mod_eq_of_lt (by omega)]
    exact Nat.and_two_pow_sub_one_eq_mod _ 1
  rw [e]
  have hm : x / 2 ^ k % 2 < 2 := Nat.mod_lt _ (by omega)
  rw [Nat.testBit_eq_decide_div_mod_eq]
  generalize x / 2 ^ k % 2 = y at hm
  rw [wrap_u8_id (by omega) (by omega)]
  rcases (by omega : y = 0 ∨ y = 1) with rfl | rfl <;> rfl
theorem shl_bit64 {b : Bool} {s : Nat} (hs : s < 64) : IntKind.u64.wrap (IntKind.u64.wrap (b.toNat : Int) * 2 ^ (min s 64)) = ((b.toNat * 2 ^ s : Nat) : Int) := by
  have hp : 2 ^ s < 2 ^ 64 := Nat.pow_lt_pow_right (by omega) hs
  rw [show min s 64 = s by omega, show IntKind.u64.wrap (b.toNat : Int) = (b.toNat : Int) by cases b <;> decide]
  have e : ((b.toNat : Int) * 2 ^ s) = ((b.toNat * 2 ^ s : Nat) : Int) := by norm_cast
  rw [e]
  cases b
  · simp; decide
  · simp only [Bool.toNat_true, Nat.one_mul]
    generalize 2 ^ s = y at hp
    rw [wrap_u64_id (by omega) (by omega)]
end Go.Proofs.Ytmilfgmkcmcicaa
