/-
  Numbers stand as their texts say: the law ValueNumbers.
-/
import Derived.Test.YtpaajmaecjjfjaaDoorLaw1
namespace Go.Proofs.YtpaajmaecjjfjaaDoor
open Go.Dn Go.Proofs
open Go.RowKit (Below)
set_option linter.unusedVariables false
set_option maxRecDepth 20000

theorem less_append : ∀ (p q : List UInt8) (x y : UInt8), p.length = q.length → (Op.bytesLess (p ++ [x]) (q ++ [y]) = true ↔ Op.bytesLess p q = true ∨ (p = q ∧ x < y))
  | [], [], x, y, _ => by simp [Op.bytesLess]
  | [], _ :: _, _, _, h => by simp at h
  | _ :: _, [], _, _, h => by simp at h
  | a :: p, b :: q, x, y, h => by
    have ih := less_append p q x y (by simpa using h)
    simp only [List.cons_append, Op.bytesLess, Bool.or_eq_true, decide_eq_true_eq, Bool.and_eq_true, beq_iff_eq, ih, List.cons.injEq]
    constructor
    · rintro (h1 | ⟨h1, h2 | ⟨h2, h3⟩⟩)
      · exact .inl (.inl h1)
      · exact .inl (.inr ⟨h1, h2⟩)
      · exact .inr ⟨⟨h1, h2⟩, h3⟩
    · rintro ((h1 | ⟨h1, h2⟩) | ⟨⟨h1, h2⟩, h3⟩)
      · exact .inl h1
      · exact .inr ⟨h1, .inl h2⟩
      · exact .inr ⟨h1, .inr ⟨h2, h3⟩⟩
theorem less_irrefl : ∀ p : List UInt8, Op.bytesLess p p = false
  | [] => rfl
  | a :: p => by simp [Op.bytesLess, less_irrefl p]
theorem u8_lt {a b : Nat} (ha : a < 256) (hb : b < 256) : UInt8.ofNat a < UInt8.ofNat b ↔ a < b := by
  rw [UInt8.lt_iff_toNat_lt]
  simp
  omega
theorem nDigits_mono : ∀ (n m : Nat), m ≤ n → Lib.nDigits m ≤ Lib.nDigits n := by
  intro n
  induction n using Nat.strongRecOn with
  | _ n ih =>
    intro m h
    by_cases hm : m < 10
    · rw [Lib.nDigits_small hm]; exact Lib.nDigits_pos n
    · have hn : ¬ n < 10 := by omega
      rw [Lib.nDigits_big hm, Lib.nDigits_big hn]
      have := ih (n / 10) (by omega) (m / 10) (by omega)
      omega
theorem digits_less : ∀ (m n : Nat), Lib.nDigits m = Lib.nDigits n → (Op.bytesLess (Lib.decDigits m) (Lib.decDigits n) = true ↔ m < n) := by
  intro m
  induction m using Nat.strongRecOn with
  | _ m ih =>
    intro n h
    by_cases hm : m < 10
    · have hn : n < 10 := by
        rcases Nat.lt_or_ge n 10 with h' | h'
        · exact h'
        · rw [Lib.nDigits_small hm, Lib.nDigits_big (by omega)] at h
          have := Lib.nDigits_pos (n / 10)
          omega
      rw [Lib.decDigits_one hm, Lib.decDigits_one hn]
      simp only [Op.bytesLess, Bool.and_false, Bool.or_false, decide_eq_true_eq]
      rw [u8_lt (by omega) (by omega)]
      omega
    · have hn : ¬ n < 10 := by
        intro h'
        rw [Lib.nDigits_small h', Lib.nDigits_big hm] at h
        have := Lib.nDigits_pos (m / 10)
        omega
      have e : Lib.nDigits (m / 10) = Lib.nDigits (n / 10) := by rw [Lib.nDigits_big hm, Lib.nDigits_big hn] at h; omega
      have ihq := ih (m / 10) (by omega) (n / 10) e
      have d1 : Lib.decDigits m = Lib.decDigits (m / 10) ++ [UInt8.ofNat (48 + m % 10)] := by conv => lhs; rw [Lib.decDigits, dif_neg hm]
      have d2 : Lib.decDigits n = Lib.decDigits (n / 10) ++ [UInt8.ofNat (48 + n % 10)] := by conv => lhs; rw [Lib.decDigits, dif_neg hn]
      rw [d1, d2, less_append _ _ _ _ (by rw [Lib.decDigits_length, Lib.decDigits_length, e]), ihq, u8_lt (by omega) (by omega)]
      constructor
      · rintro (h1 | ⟨h1, h2⟩)
        · omega
        · have h3 : ¬ m / 10 < n / 10 := by
            rw [← ihq, h1, less_irrefl]
            simp
          have h4 : ¬ n / 10 < m / 10 := by
            intro h5
            have := (ih (n / 10) (by omega) (m / 10) e.symm).2 h5
            rw [h1, less_irrefl] at this
            cases this
          omega
      · intro h1
        rcases Nat.lt_or_ge (m / 10) (n / 10) with h2 | h2
        · exact .inl h2
        · have h3 : m / 10 = n / 10 := by omega
          exact .inr ⟨by rw [h3], by omega⟩
theorem numbers_less (m n : Nat) : m < n ↔ ((Lib.decDigits m).length < (Lib.decDigits n).length ∨ ((Lib.decDigits m).length = (Lib.decDigits n).length ∧ Op.bytesLess (Lib.decDigits m) (Lib.decDigits n) = true)) := by
  rw [Lib.decDigits_length, Lib.decDigits_length]
  constructor
  · intro h
    have h1 := nDigits_mono n m (by omega)
    rcases Nat.lt_or_ge (Lib.nDigits m) (Lib.nDigits n) with h2 | h2
    · exact .inl h2
    · have h3 : Lib.nDigits m = Lib.nDigits n := by omega
      exact .inr ⟨h3, (digits_less m n h3).2 h⟩
  · rintro (h | ⟨h1, h2⟩)
    · rcases Nat.lt_or_ge m n with h' | h'
      · exact h'
      · have := nDigits_mono m n h'
        omega
    · exact (digits_less m n h1).1 h2

theorem turned_ok (x : Int) (wx : (Lit.int .i64 x).wf = true) : ∃ m : Nat, m ≤ 9223372036854775807 ∧ (x < 0 → IntKind.i64.wrap (0 - IntKind.i64.wrap (x + 1)) = m) ∧ (¬ x < 0 → x = m) := by
  have hx : -9223372036854775808 ≤ x ∧ x ≤ 9223372036854775807 := by simpa [Lit.wf, IntKind.min, IntKind.max, IntKind.signed, IntKind.bits] using wx
  by_cases h : x < 0
  · refine ⟨(-(x + 1)).toNat, by omega, fun _ => ?_, fun h' => absurd h h'⟩
    rw [wrap_i64 (n := x + 1) (by omega) (by omega), wrap_i64 (by omega) (by omega)]
    omega
  · exact ⟨x.toNat, by omega, fun h' => absurd h' h, fun _ => by omega⟩
theorem show_num (m : Nat) : showV (1, (m : Int), E0) = .tuple #[.string (sof (Lib.decDigits m)), .int .i64 0] := by
  have h : rightB (1, (m : Int), E0) = true := by simp [rightB]
  unfold showV
  rw [if_pos h]
  have : showL (1, (m : Int), E0) = Lib.decDigits m := by
    unfold showL
    rw [if_neg (by simp), if_pos rfl]
    exact Lib.itoa_nonneg m
  rw [this]
theorem cmp_num (m n : Nat) : (cmpV (1, (m : Int), E0) (1, (n : Int), E0) < 0) ↔ m < n := by
  have e : cmpV (1, (m : Int), E0) (1, (n : Int), E0) = Lib.compareInt m n := by
    unfold cmpV
    have h1 : Lib.compareInt 1 1 = 0 := rfl
    have h2 : Lib.compareBytes (bl E0) (bl E0) = 0 := rfl
    simp only [h1, h2]
    rw [if_neg (by simp)]
    split
    · rfl
    · omega
  rw [e]
  unfold Lib.compareInt
  split
  · constructor <;> intro h <;> omega
  · split
    · constructor <;> intro h <;> omega
    · constructor <;> intro h <;> omega

theorem ValueNumbers_ok {w : World} (he : Env w) (x : Int) (wx : (Lit.int .i64 x).wf = true) (y : Int) (wy : (Lit.int .i64 y).wf = true) :
    Calls Tryd.prog f.law04_ValueNumbers #[.int .i64 x, .int .i64 y] w (Ret fun r w' => r = .bool true ∧ Below w.heap.size w w') := by
  obtain ⟨m, hm, m1, m2⟩ := turned_ok x wx
  obtain ⟨n, hn, n1, n2⟩ := turned_ok y wy
  apply R.law04_ValueNumbers_calls
  unfold R.law04_ValueNumbers
  refine (shown_ok he).mono ?_
  rintro _ w1 ⟨_, rfl, rfl, B1⟩
  refine ⟨_, rfl, fun s w2 => s = [.int .i64 (m : Int)] ∧ w2 = w1, ?_, ?_⟩
  · refine IFB_dec (fun h => ⟨by rw [m1 h], rfl⟩) (fun h => ⟨?_, rfl⟩)
    have := m2 h
    rw [this]
  rintro _ w2 ⟨hs, rfl⟩
  cases hs
  refine ⟨fun s w3 => s = [.int .i64 (n : Int)] ∧ w3 = w2, ?_, ?_⟩
  · refine IFB_dec (fun h => ⟨by rw [n1 h], rfl⟩) (fun h => ⟨?_, rfl⟩)
    have := n2 h
    rw [this]
  rintro _ w3 ⟨hs, rfl⟩
  cases hs
  refine ((SH.start (fun _ => False) w).grown B1).lit3 fun b9 w7 hb9 B7 S7 => S7.lit3 fun b10 w11 hb10 B11 S11 => S11.v3 1 rfl ?_
  have E11 := he.grown S11.below
  refine (value_Show_ok E11 (1, (m : Int), E0) ⟨by show -9223372036854775808 ≤ (m : Int); omega, by show (m : Int) ≤ 9223372036854775807; omega⟩).mono ?_
  rintro _ w12 ⟨_, rfl, rfl, B12⟩
  have S12 := S11.grown B12
  rw [show_num]
  refine ⟨_, _, rfl, S12.v3 0 rfl ((value_Show_ok (E11.grown B12) (1, (n : Int), E0) ⟨by show -9223372036854775808 ≤ (n : Int); omega, by show (n : Int) ≤ 9223372036854775807; omega⟩).mono ?_)⟩
  rintro _ w13 ⟨_, rfl, rfl, B13⟩
  have S13 := S12.grown B13
  rw [show_num]
  refine ⟨_, _, rfl, fun s w14 => s = [.bool (decide (m < n))] ∧ w14 = w13, ?_, ?_⟩
  · have key := numbers_less m n
    have hlt : bytesLt (sof (Lib.decDigits m)) (sof (Lib.decDigits n)) = Op.bytesLess (Lib.decDigits m) (Lib.decDigits n) := by
      unfold bytesLt
      rw [ByteArray.toList_eq, ByteArray.toList_eq]
      rfl
    rw [size_sof, size_sof, hlt]
    refine IFB_dec (fun h => ⟨?_, rfl⟩) (fun h => IFB_eq (fun h2 => ⟨?_, rfl⟩) (fun h2 => ⟨?_, rfl⟩))
    · have : m < n := key.2 (.inl (by omega))
      simp [this]
    · congr 2
      rw [Bool.eq_iff_iff, decide_eq_true_eq, key]
      constructor
      · intro h3; exact .inr ⟨by omega, h3⟩
      · rintro (h3 | h3)
        · omega
        · exact h3.2
    · have : ¬ m < n := by
        rw [key]
        rintro (h3 | ⟨h3, _⟩) <;> omega
      simp [this]
  rintro _ w14 ⟨hs, rfl⟩
  cases hs
  refine IFB_true (IFB_true (IFB_true (S13.v3 1 rfl (S13.v3 0 rfl ((value_Compare_ok w14 (1, (m : Int), E0) (1, (n : Int), E0)).mono ?_)))))
  rintro _ w15 ⟨_, rfl, rfl, B15⟩
  refine ⟨_, rfl, ?_, (S13.grown B15).below⟩
  have : (decide (cmpV (1, (m : Int), E0) (1, (n : Int), E0) < 0) == decide (m < n)) = true := by
    simp only [cmp_num m n]
    simp
  rw [this]
end Go.Proofs.YtpaajmaecjjfjaaDoor
