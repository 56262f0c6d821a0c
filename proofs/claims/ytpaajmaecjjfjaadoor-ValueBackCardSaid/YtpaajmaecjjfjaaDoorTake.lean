/-
  Numbers and texts out of bytes.
-/
import Derived.Test.YtpaajmaecjjfjaaDoorWire
namespace Go.Proofs.YtpaajmaecjjfjaaDoor
open Go.Dn Go.Proofs
open Go.RowKit (Below)
set_option linter.unusedVariables false
set_option maxRecDepth 20000

/-- a number out of bytes: it, and how many bytes it takes -/
def readN (i acc : Nat) : List UInt8 → Option (Nat × Nat)
  | [] => none
  | c :: r => if 9 < i ∨ (i = 9 ∧ c.toNat ≠ 1) then none else if c.toNat < 128 then (if c.toNat = 0 ∧ 0 < i then none else some (acc + c.toNat * 128 ^ i, i + 1)) else readN (i + 1) (acc + (c.toNat % 128) * 128 ^ i) r
def takeN (l : List UInt8) (at_ : Int) : Option (Nat × Nat) := if at_ < 0 then none else (readN 0 0 (l.drop at_.toNat)).map fun x => (x.1, at_.toNat + x.2)
def numV (o : Option (Nat × Nat)) : Value :=
  match o with
  | some x => .tuple #[.int .u64 (x.1 : Int), .int .i64 (x.2 : Int), .int .i64 0]
  | none => .tuple #[.int .u64 0, .int .i64 0, .int .i64 20]

theorem readN_bounds : ∀ (l : List UInt8) (i acc n k : Nat), acc < 128 ^ i → readN i acc l = some (n, k) → n < 18446744073709551616 ∧ i < k ∧ k ≤ i + l.length ∧ k ≤ 10 ∧ (0 < i → 128 ^ i ≤ n)
  | [], _, _, _, _, _, h => by simp [readN] at h
  | c :: r, i, acc, n, k, ha, h => by
    unfold readN at h
    split at h
    · cases h
    · rename_i hi
      split at h
      · rename_i hc
        split at h
        · cases h
        · rename_i hz
          simp only [Option.some.injEq, Prod.mk.injEq] at h
          obtain ⟨rfl, rfl⟩ := h
          refine ⟨?_, by omega, by simp, by omega, fun h0 => ?_⟩
          · by_cases h9 : i = 9
            · subst h9
              have : c.toNat = 1 := by omega
              rw [this]
              have : (128 : Nat) ^ 9 = 9223372036854775808 := by decide
              omega
            · have hp : (128 : Nat) ^ i ≤ 128 ^ 8 := Nat.pow_le_pow_right (by omega) (by omega)
              have : (128 : Nat) ^ 8 = 72057594037927936 := by decide
              have h3 : c.toNat * 128 ^ i ≤ 127 * 128 ^ i := Nat.mul_le_mul_right _ (by omega)
              omega
          · have h1 : 1 ≤ c.toNat := by omega
            have : 1 * 128 ^ i ≤ c.toNat * 128 ^ i := Nat.mul_le_mul_right _ h1
            omega
      · rename_i hc
        have hi8 : i ≤ 8 := by omega
        have hpow : (128 : Nat) ^ (i + 1) = 128 ^ i * 128 := Nat.pow_succ ..
        have h3 : (c.toNat % 128) * 128 ^ i ≤ 127 * 128 ^ i := Nat.mul_le_mul_right _ (by omega)
        obtain ⟨h1, h2, h4, h5, h6⟩ := readN_bounds r (i + 1) _ n k (by omega) h
        refine ⟨h1, by omega, by simp; omega, h5, fun _ => ?_⟩
        have := h6 (by omega)
        omega

theorem pow128 (i : Nat) : (128 : Nat) ^ i = 2 ^ (7 * i) := by rw [Nat.pow_mul]

/-- what a round adds: the program's way -/
theorem or_step {acc c i : Nat} (ha : acc < 128 ^ i) (hc : c < 128) (hi : i ≤ 9) (h9 : i = 9 → c ≤ 1) :
    acc + c * 128 ^ i < 18446744073709551616 ∧ (BitVec.ofInt 64 (acc : Int) ||| BitVec.ofInt 64 ((c * 128 ^ i : Nat) : Int)).toNat = acc + c * 128 ^ i := by
  have hb : acc + c * 128 ^ i < 18446744073709551616 := by
    by_cases h : i = 9
    · subst h
      have := h9 rfl
      have e : (128 : Nat) ^ 9 = 9223372036854775808 := by decide
      have : c * 128 ^ 9 ≤ 1 * 128 ^ 9 := Nat.mul_le_mul_right _ this
      omega
    · have hp : (128 : Nat) ^ i ≤ 128 ^ 8 := Nat.pow_le_pow_right (by omega) (by omega)
      have : (128 : Nat) ^ 8 = 72057594037927936 := by decide
      have h3 : c * 128 ^ i ≤ 127 * 128 ^ i := Nat.mul_le_mul_right _ (by omega)
      omega
  refine ⟨hb, ?_⟩
  rw [BitVec.toNat_or, BitVec.ofInt_natCast, BitVec.ofInt_natCast, BitVec.toNat_ofNat, BitVec.toNat_ofNat, Nat.mod_eq_of_lt (by omega), Nat.mod_eq_of_lt (by omega), pow128, Nat.or_comm]
  rw [pow128] at ha
  have := Nat.two_pow_add_eq_or_of_lt (i := 7 * i) (b := acc) ha c
  rw [Nat.mul_comm c, ← this]
  omega
theorem low7_8 {x : Nat} (h : x < 256) : IntKind.u8.wrap (((BitVec.ofInt 8 (x : Int) &&& BitVec.ofInt 8 127).toNat : Int)) = ((x % 128 : Nat) : Int) := by
  have : (BitVec.ofInt 8 (x : Int) &&& BitVec.ofInt 8 127).toNat = x % 128 := by
    rw [BitVec.toNat_and, BitVec.ofInt_natCast, BitVec.toNat_ofNat, Nat.mod_eq_of_lt (by omega)]
    exact Nat.and_two_pow_sub_one_eq_mod x 7
  rw [this, wrap_u8_id (by omega) (by omega)]
theorem shift_step {c i : Nat} (hc : c < 128) (hi : i ≤ 9) : IntKind.u64.wrap ((c : Int) * 2 ^ (min (IntKind.i64.wrap (7 * (i : Int))).toNat 64)) = ((c * 128 ^ i % 18446744073709551616 : Nat) : Int) := by
  have e : min (IntKind.i64.wrap (7 * (i : Int))).toNat 64 = 7 * i := by rw [wrap_i64 (by omega) (by omega)]; omega
  rw [e, wrap_u64, pow128]
  have : ((2 : Int) ^ (7 * i)) = ((2 ^ (7 * i) : Nat) : Int) := by norm_cast
  rw [this, ← Int.natCast_mul]
  omega

section
variable {w : World} {a : Option Addr} {c : Nat} {l : List UInt8}
theorem byte_at (hl : Rd w a (l.map byteV)) {i : Nat} (hi : i < l.length) : ∃ p, a = some p ∧ w.cell? (p.add (i * 1)) = some (.int .u8 (l[i].toNat : Int)) := by
  obtain ⟨p, hp, hc⟩ := hl i (byteV l[i]) (by simp [hi])
  exact ⟨p, hp, by rw [Nat.mul_one]; exact hc⟩
theorem drop_step {i : Nat} (hi : i < l.length) : l.drop i = l[i] :: l.drop (i + 1) := List.drop_eq_getElem_cons hi

theorem wire_TakeNumber_ok (hl : Rd w a (l.map byteV)) (hc : l.length ≤ c) (hs : l.length ≤ 140737488355328) (at_ : Int) : Calls Tryd.prog f.wire_TakeNumber #[.slice a l.length c, .int .i64 at_] w (Ret fun v w' => v = numV (takeN l at_) ∧ w' = w) := by
  apply R.wire_TakeNumber_calls
  unfold R.wire_TakeNumber
  refine IFB_dec (fun h => ⟨by simp [takeN, h, numV], rfl⟩) (fun h0 => IFB_dec (fun h => ⟨?_, rfl⟩) (fun h1 => ?_))
  · have : l.drop at_.toNat = [] := List.drop_eq_nil_of_le (by omega)
    simp [takeN, h0, this, readN, numV]
  obtain ⟨at_, rfl⟩ : ∃ k : Nat, at_ = k := ⟨at_.toNat, by omega⟩
  rw [Int.toNat_natCast]
  have hat : at_ ≤ l.length := by omega
  have ht : takeN l (at_ : Int) = (readN 0 0 (l.drop at_)).map fun x => (x.1, at_ + x.2) := by unfold takeN; rw [if_neg h0]; rfl
  refine ⟨⟨by omega, by omega, by omega⟩, ?_⟩
  refine ⟨fun s w1 => w1 = w ∧ ∃ i acc : Nat, s = [.int .u64 (acc : Int), .int .i64 (i : Int)] ∧ i ≤ 10 ∧ at_ + i ≤ l.length ∧ acc < 128 ^ i ∧ readN 0 0 (l.drop at_) = readN i acc (l.drop (at_ + i)),
    fun s _ => match s with
      | [_, .int _ i] => 10 - i.toNat
      | _ => 0, ⟨rfl, 0, 0, rfl, by omega, by omega, by simp, rfl⟩, ?_⟩
  rintro _ _ w1 ⟨rfl, i, acc, hs', hi, hle, hacc, hread⟩
  cases hs'
  have none_ : readN i acc (l.drop (at_ + i)) = none → (Value.tuple #[.int .u64 0, .int .i64 0, .int .i64 20] = numV (takeN l (at_ : Int)) ∧ w1 = w1) := by
    intro hn
    rw [ht, hread, hn]
    exact ⟨rfl, rfl⟩
  refine IFB_dec (fun hlt => ⟨⟨by omega, hlt⟩, ?_⟩) (fun hge => ?_)
  · have hil : at_ + i < l.length := by omega
    have hrd := (hl.sla at_ l.length c 1 hc)
    obtain ⟨p, hp, hcell⟩ := hrd i (byteV l[at_ + i]) (by
      rw [List.getElem?_take_of_lt (by omega), List.getElem?_drop, Nat.mul_one]
      simp [hil])
    rw [hp]
    refine ⟨_, by rw [Int.toNat_natCast, Nat.mul_one]; exact hcell, ?_⟩
    have hd := drop_step hil
    generalize hcc : l[at_ + i] = cc at hd
    have hc256 := cc.toNat_lt
    refine ⟨fun _ w2 => w2 = w1 ∧ ¬ (9 < i ∨ (i = 9 ∧ cc.toNat ≠ 1)), ?_, ?_⟩
    · refine IFB_dec (fun h => none_ (by rw [hd]; unfold readN; rw [if_pos (.inl (by omega))])) (fun h9 => IFB_eq (fun h => IFB_ne (fun h2 => none_ (by rw [hd]; unfold readN; rw [if_pos (.inr ⟨by omega, by omega⟩)])) (fun h2 => ⟨rfl, by omega⟩)) (fun h => ⟨rfl, by omega⟩))
    rintro w2 ⟨rfl, hno⟩
    have hi9 : i ≤ 9 := by omega
    have hm : cc.toNat % 128 < 128 := Nat.mod_lt _ (by omega)
    have h9 : i = 9 → cc.toNat % 128 ≤ 1 := by omega
    obtain ⟨hb, hor⟩ := or_step hacc hm hi9 h9
    have e1 : IntKind.u64.wrap (IntKind.u8.wrap (((BitVec.ofInt 8 (cc.toNat : Int) &&& BitVec.ofInt 8 127).toNat : Int))) = ((cc.toNat % 128 : Nat) : Int) := by rw [low7_8 hc256, wrap_u64_id (by omega) (by omega)]
    rw [e1, shift_step hm hi9, Nat.mod_eq_of_lt (by omega : cc.toNat % 128 * 128 ^ i < 18446744073709551616), hor, wrap_u64_id (by omega) (by omega)]
    refine ⟨by rw [wrap_i64 (by omega) (by omega)]; omega, ?_⟩
    have fin : cc.toNat < 128 → ¬ (cc.toNat = 0 ∧ 0 < i) → (Value.tuple #[.int .u64 ((acc + cc.toNat % 128 * 128 ^ i : Nat) : Int), .int .i64 (IntKind.i64.wrap (IntKind.i64.wrap ((at_ : Int) + (i : Int)) + 1)), .int .i64 0] = numV (takeN l (at_ : Int)) ∧ w2 = w2) := by
      intro hlt hz
      refine ⟨?_, rfl⟩
      rw [ht, hread, hd]
      unfold readN
      rw [if_neg hno, if_pos hlt, if_neg hz, Nat.mod_eq_of_lt hlt, wrap_i64 (n := (at_ : Int) + (i : Int)) (by omega) (by omega), wrap_i64 (by omega) (by omega)]
      simp only [Option.map_some, numV]
      congr 5
    refine IFB_dec (fun hlt => IFB_eq (fun hz => IFB_dec (fun h => none_ (by rw [hd]; unfold readN; rw [if_neg hno, if_pos (by omega), if_pos ⟨by omega, by omega⟩])) (fun h => fin (by omega) (by omega))) (fun hz => fin (by omega) (by omega))) (fun hge => ?_)
    rw [wrap_succ (by omega)]
    refine ⟨⟨rfl, i + 1, _, rfl, by omega, by omega, ?_, ?_⟩, ?_⟩
    · rw [Nat.pow_succ]
      have h3 : (cc.toNat % 128) * 128 ^ i ≤ 127 * 128 ^ i := Nat.mul_le_mul_right _ (by omega)
      omega
    · rw [hread, hd]
      conv => lhs; unfold readN
      rw [if_neg hno, if_neg (by omega)]
      rfl
    · simp only [Int.toNat_natCast]
      omega
  · refine none_ ?_
    rw [List.drop_eq_nil_of_le (by omega)]
    rfl

theorem ref_TakeNumber_ok (hl : Rd w a (l.map byteV)) (hs : l.length ≤ 140737488355328) (at_ : Int) (hat : at_ ≤ 9223372036854775807) : Calls Tryd.prog f.ref02_TakeNumber #[.slice a l.length c, .int .i64 at_] w (Ret fun v w' => v = numV (takeN l at_) ∧ w' = w) := by
  apply R.ref02_TakeNumber_calls
  unfold R.ref02_TakeNumber
  refine IFB_dec (fun h => ⟨by simp [takeN, h, numV], rfl⟩) (fun h0 => ?_)
  obtain ⟨at_, rfl⟩ : ∃ k : Nat, at_ = k := ⟨at_.toNat, by omega⟩
  have ht : takeN l (at_ : Int) = (readN 0 0 (l.drop at_)).map fun x => (x.1, at_ + x.2) := by unfold takeN; rw [if_neg h0]; rfl
  refine ⟨fun s w1 => w1 = w ∧ ∃ i acc : Nat, s = [.int .u64 (acc : Int), .int .i64 (i : Int)] ∧ i ≤ 10 ∧ acc < 128 ^ i ∧ readN 0 0 (l.drop at_) = readN i acc (l.drop (at_ + i)),
    fun s _ => match s with
      | [_, .int _ i] => 10 - i.toNat
      | _ => 0, ⟨rfl, 0, 0, rfl, by omega, by simp, rfl⟩, ?_⟩
  rintro _ _ w1 ⟨rfl, i, acc, hs', hi, hacc, hread⟩
  cases hs'
  have none_ : readN i acc (l.drop (at_ + i)) = none → (Value.tuple #[.int .u64 0, .int .i64 0, .int .i64 20] = numV (takeN l (at_ : Int)) ∧ w1 = w1) := by
    intro hn
    rw [ht, hread, hn]
    exact ⟨rfl, rfl⟩
  have nil_ : l.length ≤ at_ + i → readN i acc (l.drop (at_ + i)) = none := by
    intro h
    rw [List.drop_eq_nil_of_le h]
    rfl
  refine IFB_dec (fun hi10 => IFB_dec (fun hal => ?_) (fun h => none_ (nil_ (by omega)))) (fun h => none_ ?_)
  · have ew : IntKind.i64.wrap ((l.length : Int) - (at_ : Int)) = (l.length : Int) - (at_ : Int) := wrap_i64 (by omega) (by omega)
    rw [ew]
    refine IFB_dec (fun hil' => ?_) (fun h => none_ (nil_ (by omega)))
    have hil : at_ + i < l.length := by omega
    have ei : IntKind.i64.wrap ((at_ : Int) + (i : Int)) = ((at_ + i : Nat) : Int) := by rw [wrap_i64 (by omega) (by omega)]; omega
    rw [ei]
    refine ⟨⟨by omega, by omega⟩, ?_⟩
    obtain ⟨p, rfl, hcell⟩ := byte_at hl hil
    refine ⟨_, by rw [Int.toNat_natCast]; exact hcell, ?_⟩
    have hd := drop_step hil
    generalize hcc : l[at_ + i] = cc at hd
    have hc256 := cc.toNat_lt
    have hi9 : i ≤ 9 := by omega
    refine ⟨fun _ w2 => w2 = w1 ∧ ¬ (i = 9 ∧ 1 < cc.toNat), ?_, ?_⟩
    · refine IFB_eq (fun h => IFB_dec (fun h2 => none_ (by rw [hd]; unfold readN; rw [if_pos (.inr ⟨by omega, by omega⟩)])) (fun h2 => ⟨rfl, by omega⟩)) (fun h => ⟨rfl, by omega⟩)
    rintro w2 ⟨rfl, hno'⟩
    have hm : cc.toNat % 128 < 128 := Nat.mod_lt _ (by omega)
    have h9 : i = 9 → cc.toNat % 128 ≤ 1 := by omega
    obtain ⟨hb, _⟩ := or_step hacc hm hi9 h9
    have e1 : IntKind.u64.wrap (Int.tmod (cc.toNat : Int) 128) = ((cc.toNat % 128 : Nat) : Int) := by
      rw [Int.tmod_eq_emod_of_nonneg (by omega), wrap_u64_id (by omega) (by omega)]
      omega
    rw [e1, shift_step hm hi9, Nat.mod_eq_of_lt (by omega : cc.toNat % 128 * 128 ^ i < 18446744073709551616)]
    have e2 : IntKind.u64.wrap ((acc : Int) + ((cc.toNat % 128 * 128 ^ i : Nat) : Int)) = ((acc + cc.toNat % 128 * 128 ^ i : Nat) : Int) := by
      rw [wrap_u64_id (by omega) (by omega)]; omega
    rw [e2]
    refine ⟨by rw [wrap_i64 (by omega) (by omega)]; omega, ?_⟩
    have zero9 : i = 9 → cc.toNat = 0 → readN i acc (l.drop (at_ + i)) = none := by
      intro h h0
      rw [hd]
      unfold readN
      rw [if_pos (.inr ⟨h, by omega⟩)]
    have fin : cc.toNat < 128 → ¬ (cc.toNat = 0 ∧ 0 < i) → (Value.tuple #[.int .u64 ((acc + cc.toNat % 128 * 128 ^ i : Nat) : Int), .int .i64 (IntKind.i64.wrap (((at_ + i : Nat) : Int) + 1)), .int .i64 0] = numV (takeN l (at_ : Int)) ∧ w2 = w2) := by
      intro hlt hz
      refine ⟨?_, rfl⟩
      rw [ht, hread, hd]
      unfold readN
      rw [if_neg (by omega), if_pos hlt, if_neg hz, Nat.mod_eq_of_lt hlt, wrap_i64 (by omega) (by omega)]
      simp only [Option.map_some, numV]
      congr 5
    refine IFB_dec (fun hlt => IFB_eq (fun hz => IFB_dec (fun h => none_ ?_) (fun h => fin (by omega) (by omega))) (fun hz => fin (by omega) (by omega))) (fun hge => ?_)
    · by_cases hi9' : i = 9
      · exact zero9 hi9' (by omega)
      · rw [hd]; unfold readN; rw [if_neg (by omega), if_pos (by omega), if_pos ⟨by omega, by omega⟩]
    rw [wrap_succ (by omega)]
    refine ⟨⟨rfl, i + 1, _, rfl, by omega, ?_, ?_⟩, ?_⟩
    · rw [Nat.pow_succ]
      have h3 : (cc.toNat % 128) * 128 ^ i ≤ 127 * 128 ^ i := Nat.mul_le_mul_right _ (by omega)
      omega
    · rw [hread, hd]
      conv => lhs; unfold readN
      rw [if_neg (by omega), if_neg (by omega)]
      rfl
    · simp only [Int.toNat_natCast]
      omega
  · have h10 : i = 10 := by omega
    subst h10
    cases hh : l.drop (at_ + 10) with
    | nil => rfl
    | cons c r => unfold readN; rw [if_pos (.inl (by omega))]
end
end Go.Proofs.YtpaajmaecjjfjaaDoor
