/-
  Signed numbers, texts and values out of bytes.
-/
import Derived.Test.YtpaajmaecjjfjaaDoorTake
import Derived.Test.YtpaajmaecjjfjaaDoorLaw1
namespace Go.Proofs.YtpaajmaecjjfjaaDoor
open Go.Dn Go.Proofs
open Go.RowKit (Below)
set_option linter.unusedVariables false
set_option maxRecDepth 20000

def unzig (n : Nat) : Int := if n % 2 = 1 then -((n / 2 : Nat) : Int) - 1 else ((n / 2 : Nat) : Int)
theorem and1_64 (n : Nat) (h : n < 18446744073709551616) : (BitVec.ofInt 64 (n : Int) &&& BitVec.ofInt 64 1).toNat = n % 2 := by
  rw [BitVec.toNat_and, BitVec.ofInt_natCast, BitVec.toNat_ofNat, Nat.mod_eq_of_lt (by omega)]
  exact Nat.and_two_pow_sub_one_eq_mod n 1
theorem unzig_prog {n : Nat} (h : n < 18446744073709551616) :
    IntKind.i64.wrap (((BitVec.ofInt 64 (IntKind.i64.wrap (Int.fdiv (n : Int) (2 ^ (min 1 64)))) ^^^ BitVec.ofInt 64 (IntKind.i64.wrap (0 - IntKind.i64.wrap (IntKind.u64.wrap (((BitVec.ofInt 64 (n : Int) &&& BitVec.ofInt 64 1).toNat : Int)))))).toNat : Int)) = unzig n := by
  have e1 : IntKind.i64.wrap (Int.fdiv (n : Int) (2 ^ (min 1 64))) = ((n / 2 : Nat) : Int) := by
    rw [Int.fdiv_eq_ediv_of_nonneg _ (by decide), show (2 : Int) ^ (min 1 64) = 2 from rfl, wrap_i64 (by omega) (by omega)]
    omega
  rw [e1, and1_64 n h, wrap_u64_id (by omega) (by omega), wrap_i64 (n := ((n % 2 : Nat) : Int)) (by omega) (by omega)]
  unfold unzig
  by_cases ho : n % 2 = 1
  · rw [ho, if_pos rfl, show IntKind.i64.wrap (0 - ((1 : Nat) : Int)) = -1 by decide, show BitVec.ofInt 64 (-1) = BitVec.allOnes 64 by decide, BitVec.xor_allOnes, BitVec.toNat_not, BitVec.ofInt_natCast, BitVec.toNat_ofNat, Nat.mod_eq_of_lt (by omega), wrap_i64_def]
    split <;> omega
  · have : n % 2 = 0 := by omega
    rw [this, if_neg (by omega), show IntKind.i64.wrap (0 - ((0 : Nat) : Int)) = 0 by decide, show BitVec.ofInt 64 0 = 0#64 by decide, BitVec.xor_zero, BitVec.ofInt_natCast, BitVec.toNat_ofNat, Nat.mod_eq_of_lt (by omega), wrap_i64 (by omega) (by omega)]
theorem unzig_range {n : Nat} (h : n < 18446744073709551616) : -9223372036854775808 ≤ unzig n ∧ unzig n ≤ 9223372036854775807 := by unfold unzig; split <;> omega

theorem takeN_bounds {l : List UInt8} {at_ : Int} {n k : Nat} (h : takeN l at_ = some (n, k)) : n < 18446744073709551616 ∧ 0 ≤ at_ ∧ at_.toNat < k ∧ k ≤ l.length ∧ k ≤ at_.toNat + 10 := by
  unfold takeN at h
  split at h
  · cases h
  · obtain ⟨⟨x1, x2⟩, hx, he⟩ := Option.map_eq_some_iff.1 h
    simp only [Prod.mk.injEq] at he
    obtain ⟨rfl, rfl⟩ := he
    obtain ⟨h1, h2, h3, h4, _⟩ := readN_bounds _ 0 0 _ _ (by simp) hx
    rw [List.length_drop] at h3
    refine ⟨h1, by omega, by omega, by omega, by omega⟩

def sgnV (o : Option (Nat × Nat)) : Value :=
  match o with
  | some x => .tuple #[.int .i64 (unzig x.1), .int .i64 (x.2 : Int), .int .i64 0]
  | none => .tuple #[.int .i64 0, .int .i64 0, .int .i64 20]
def takeT (l : List UInt8) (at_ : Int) (most : Nat) : Option (List UInt8 × Nat) :=
  match takeN l at_ with
  | some x => if 1048576 < x.1 ∨ most < x.1 ∨ l.length - x.2 < x.1 then none else some ((l.drop x.2).take x.1, x.2 + x.1)
  | none => none
def txtV (o : Option (List UInt8 × Nat)) : Value :=
  match o with
  | some x => .tuple #[.string (sof x.1), .int .i64 (x.2 : Int), .int .i64 0]
  | none => .tuple #[.string ⟨#[]⟩, .int .i64 0, .int .i64 20]
section
variable {w : World} {a : Option Addr} {c : Nat} {l : List UInt8}
theorem wire_TakeSigned_ok (hl : Rd w a (l.map byteV)) (hc : l.length ≤ c) (hs : l.length ≤ 140737488355328) (at_ : Int) : Calls Tryd.prog f.wire_TakeSigned #[.slice a l.length c, .int .i64 at_] w (Ret fun v w' => v = sgnV (takeN l at_) ∧ w' = w) := by
  apply R.wire_TakeSigned_calls
  unfold R.wire_TakeSigned
  refine (wire_TakeNumber_ok hl hc hs at_).mono ?_
  rintro _ w ⟨_, rfl, rfl, rfl⟩
  cases ho : takeN l at_ with
  | none => exact ⟨_, _, _, rfl, rfl, rfl⟩
  | some x =>
    obtain ⟨n, k⟩ := x
    refine ⟨_, _, _, rfl, ?_, rfl⟩
    rw [unzig_prog (takeN_bounds ho).1]
    rfl
theorem ref_TakeSigned_ok (hl : Rd w a (l.map byteV)) (hs : l.length ≤ 140737488355328) (at_ : Int) (hat : at_ ≤ 9223372036854775807) : Calls Tryd.prog f.ref02_TakeSigned #[.slice a l.length c, .int .i64 at_] w (Ret fun v w' => v = sgnV (takeN l at_) ∧ w' = w) := by
  apply R.ref02_TakeSigned_calls
  unfold R.ref02_TakeSigned
  refine (ref_TakeNumber_ok hl hs at_ hat).mono ?_
  rintro _ w ⟨_, rfl, rfl, rfl⟩
  cases ho : takeN l at_ with
  | none => exact ⟨_, _, _, rfl, IFB_true ⟨rfl, rfl⟩⟩
  | some x =>
    obtain ⟨n, k⟩ := x
    have hb := (takeN_bounds ho).1
    refine ⟨_, _, _, rfl, IFB_false ?_⟩
    have e1 : Int.tmod (n : Int) 2 = ((n % 2 : Nat) : Int) := by rw [Int.tmod_eq_emod_of_nonneg (by omega)]; omega
    have e2 : IntKind.u64.wrap (Int.tdiv (n : Int) 2) = ((n / 2 : Nat) : Int) := by rw [Int.tdiv_eq_ediv_of_nonneg (by omega), wrap_u64_id (by omega) (by omega)]; omega
    rw [e1, e2, wrap_i64 (n := ((n / 2 : Nat) : Int)) (by omega) (by omega)]
    refine IFB_eq (fun h => ⟨?_, rfl⟩) (fun h => ⟨?_, rfl⟩)
    · simp only [sgnV, unzig]
      rw [if_pos (by omega), wrap_i64 (n := 0 - ((n / 2 : Nat) : Int)) (by omega) (by omega), wrap_i64 (by omega) (by omega)]
      congr 4
      omega
    · simp only [sgnV, unzig]
      rw [if_neg (by omega)]

theorem wire_TakeText_ok (hl : Rd w a (l.map byteV)) (hc : l.length ≤ c) (hcm : c ≤ 9223372036854775807) (hs : l.length ≤ 140737488355328) (at_ : Int) (most : Nat) : Calls Tryd.prog f.wire_TakeText #[.slice a l.length c, .int .i64 at_, .int .i64 (most : Int)] w (Ret fun v w' => v = txtV (takeT l at_ most) ∧ w' = w) := by
  apply R.wire_TakeText_calls
  unfold R.wire_TakeText
  refine (wire_TakeNumber_ok hl hc hs at_).mono ?_
  rintro _ w ⟨_, rfl, rfl, rfl⟩
  cases ho : takeN l at_ with
  | none => exact ⟨_, _, _, rfl, IFB_true ⟨by simp only [takeT, ho]; rfl, rfl⟩⟩
  | some x =>
    obtain ⟨n, k⟩ := x
    obtain ⟨h1, h2, h3, h4, h5⟩ := takeN_bounds ho
    have no : (1048576 < n ∨ most < n ∨ l.length - k < n) → (Value.tuple #[.string ⟨#[]⟩, .int .i64 0, .int .i64 20] = txtV (takeT l at_ most) ∧ w = w) := by
      intro h
      refine ⟨?_, rfl⟩
      simp only [takeT, ho]
      rw [if_pos h]
      rfl
    refine ⟨_, _, _, rfl, IFB_false (IFB_dec (fun h => no (.inl (by omega))) (fun hn1 => ?_))⟩
    rw [wrap_i64 (n := (n : Int)) (by omega) (by omega), wrap_i64 (n := (l.length : Int) - (k : Int)) (by omega) (by omega)]
    refine IFB_dec (fun h => no (.inr (.inl (by omega)))) (fun hn2 => IFB_dec (fun h => no (.inr (.inr (by omega)))) (fun hn3 => ?_))
    have e : IntKind.i64.wrap ((k : Int) + (n : Int)) = ((k + n : Nat) : Int) := by rw [wrap_i64 (by omega) (by omega)]; omega
    rw [e]
    refine ⟨⟨by omega, by omega, by omega⟩, ?_⟩
    rw [Int.toNat_natCast, Int.toNat_natCast, Nat.add_sub_cancel_left]
    have hsl := hl.sla k (k + n) c 1 (by omega)
    rw [Nat.mul_one, Nat.mul_one, Nat.add_sub_cancel_left, ← List.map_drop, ← List.map_take] at hsl
    have hlen : ((l.drop k).take n).length = n := by rw [List.length_take, List.length_drop]; omega
    refine string_of_bytes tbytes hlen.symm hsl ⟨_, rfl, ?_, rfl⟩
    simp only [takeT, ho]
    rw [if_neg (by omega)]
    rfl
theorem ref_TakeText_ok (hl : Rd w a (l.map byteV)) (hc : l.length ≤ c) (hcm : c ≤ 9223372036854775807) (hs : l.length ≤ 140737488355328) (at_ : Int) (hat : at_ ≤ 9223372036854775807) (most : Nat) : Calls Tryd.prog f.ref02_TakeText #[.slice a l.length c, .int .i64 at_, .int .i64 (most : Int)] w (Ret fun v w' => v = txtV (takeT l at_ most) ∧ w' = w) := by
  apply R.ref02_TakeText_calls
  unfold R.ref02_TakeText
  refine (ref_TakeNumber_ok hl hs at_ hat).mono ?_
  rintro _ w ⟨_, rfl, rfl, rfl⟩
  cases ho : takeN l at_ with
  | none => exact ⟨_, _, _, rfl, IFB_true ⟨by simp only [takeT, ho]; rfl, rfl⟩⟩
  | some x =>
    obtain ⟨n, k⟩ := x
    obtain ⟨h1, h2, h3, h4, h5⟩ := takeN_bounds ho
    have no : (1048576 < n ∨ most < n ∨ l.length - k < n) → (Value.tuple #[.string ⟨#[]⟩, .int .i64 0, .int .i64 20] = txtV (takeT l at_ most) ∧ w = w) := by
      intro h
      refine ⟨?_, rfl⟩
      simp only [takeT, ho]
      rw [if_pos h]
      rfl
    refine ⟨_, _, _, rfl, IFB_false (IFB_dec (fun h => no (.inl (by omega))) (fun hn1 => ?_))⟩
    rw [wrap_i64 (n := (n : Int)) (by omega) (by omega), wrap_i64 (n := (l.length : Int) - (k : Int)) (by omega) (by omega)]
    refine IFB_dec (fun h => no (.inr (.inl (by omega)))) (fun hn2 => IFB_dec (fun h => no (.inr (.inr (by omega)))) (fun hn3 => ?_))
    have e : IntKind.i64.wrap ((k : Int) + (n : Int)) = ((k + n : Nat) : Int) := by rw [wrap_i64 (by omega) (by omega)]; omega
    rw [e]
    refine ⟨⟨by omega, by omega, by omega⟩, ?_⟩
    rw [Int.toNat_natCast, Int.toNat_natCast, Nat.add_sub_cancel_left]
    have hsl := hl.sla k (k + n) c 1 (by omega)
    rw [Nat.mul_one, Nat.mul_one, Nat.add_sub_cancel_left, ← List.map_drop, ← List.map_take] at hsl
    have hlen : ((l.drop k).take n).length = n := by rw [List.length_take, List.length_drop]; omega
    refine string_of_bytes tbytes hlen.symm hsl ⟨_, rfl, ?_, rfl⟩
    simp only [takeT, ho]
    rw [if_neg (by omega)]
    rfl

/-! ### Take -/
def takeV (l : List UInt8) (at_ : Int) : Option (Val × Nat) :=
  if at_ < 0 ∨ (l.length : Int) ≤ at_ then none else
  let k := (l.getD at_.toNat 0).toNat
  if k = 0 then some ((0, 0, E0), at_.toNat + 1)
  else if k = 1 then (takeN l (at_ + 1)).map fun x => ((1, unzig x.1, E0), x.2)
  else if k = 2 then (if at_ + 1 < l.length ∧ (l.getD (at_.toNat + 1) 0).toNat ≤ 1 then some ((2, ((l.getD (at_.toNat + 1) 0).toNat : Int), E0), at_.toNat + 2) else none)
  else if k = 3 then (takeT l (at_ + 1) 1024).map fun x => ((3, 0, sof x.1), x.2)
  else none
def takenV (o : Option (Val × Nat)) : Value :=
  match o with
  | some x => .tuple #[.agg #[.int .i64 x.1.1, .int .i64 x.1.2.1, .string x.1.2.2], .int .i64 (x.2 : Int), .int .i64 0]
  | none => .tuple #[.agg #[.int .i64 0, .int .i64 0, .string E0], .int .i64 0, .int .i64 20]

/-- a truth value: one byte -/
theorem bool_byte {l : List UInt8} {at_ : Nat} : (∃ n k, takeN l (at_ : Int) = some (n, k) ∧ (n = 0 ∨ n = 1)) ↔ (at_ < l.length ∧ (l.getD at_ 0).toNat ≤ 1) := by
  have ht : takeN l (at_ : Int) = (readN 0 0 (l.drop at_)).map fun x => (x.1, at_ + x.2) := by unfold takeN; rw [if_neg (by omega)]; rfl
  by_cases h : at_ < l.length
  · have hd : l.drop at_ = l[at_] :: l.drop (at_ + 1) := List.drop_eq_getElem_cons h
    have hg : l.getD at_ 0 = l[at_] := by simp [List.getD, h]
    rw [hg]
    generalize l[at_] = c at hd
    have e : readN 0 0 (c :: l.drop (at_ + 1)) = if c.toNat < 128 then some (c.toNat, 1) else readN 1 (c.toNat % 128) (l.drop (at_ + 1)) := by
      conv => lhs; unfold readN
      rw [if_neg (by omega)]
      by_cases hc : c.toNat < 128
      · rw [if_pos hc, if_pos hc, if_neg (by omega)]
        simp
      · rw [if_neg hc, if_neg hc]
        simp
    rw [ht, hd, e]
    by_cases hc : c.toNat < 128
    · rw [if_pos hc]
      simp only [Option.map_some, Option.some.injEq, Prod.mk.injEq]
      constructor
      · rintro ⟨n, k, ⟨rfl, _⟩, hn⟩; exact ⟨h, by omega⟩
      · rintro ⟨_, hn⟩; exact ⟨_, _, ⟨rfl, rfl⟩, by omega⟩
    · rw [if_neg hc]
      constructor
      · rintro ⟨n, k, hs, hn⟩
        obtain ⟨⟨x1, x2⟩, hx, he⟩ := Option.map_eq_some_iff.1 hs
        simp only [Prod.mk.injEq] at he
        obtain ⟨_, _, _, _, hb⟩ := readN_bounds _ 1 _ _ _ (by omega) hx
        have := hb (by omega)
        omega
      · rintro ⟨_, hn⟩; omega
  · have hd : l.drop at_ = [] := List.drop_eq_nil_of_le (by omega)
    rw [ht, hd]
    constructor
    · rintro ⟨n, k, hs, _⟩; simp [readN] at hs
    · rintro ⟨hh, _⟩; omega
theorem bool_next {l : List UInt8} {at_ n k : Nat} (h : takeN l (at_ : Int) = some (n, k)) (hn : n = 0 ∨ n = 1) : n = (l.getD at_ 0).toNat ∧ k = at_ + 1 := by
  have hb := bool_byte.1 ⟨n, k, h, hn⟩
  have ht : takeN l (at_ : Int) = (readN 0 0 (l.drop at_)).map fun x => (x.1, at_ + x.2) := by unfold takeN; rw [if_neg (by omega)]; rfl
  have hd : l.drop at_ = l[at_] :: l.drop (at_ + 1) := List.drop_eq_getElem_cons hb.1
  have hg : l.getD at_ 0 = l[at_] := by simp [List.getD, hb.1]
  rw [hg] at hb ⊢
  rw [ht, hd] at h
  unfold readN at h
  rw [if_neg (by omega), if_pos (by omega), if_neg (by omega)] at h
  simp at h
  omega
end
end Go.Proofs.YtpaajmaecjjfjaaDoor
