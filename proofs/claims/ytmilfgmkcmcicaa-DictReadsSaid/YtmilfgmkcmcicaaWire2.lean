/-
  Numbers and texts as bytes, and out of bytes: both sides.
-/
import Derived.Test.YtmilfgmkcmcicaaWire
namespace Go.Proofs.Ytmilfgmkcmcicaa
open Go.Dn Go.Proofs
open Go.RowKit (Below)
set_option linter.unusedVariables false
set_option maxRecDepth 20000

theorem flat2 (a b : PartB) : flatB [a, b] = a.2.2 ++ b.2.2 := by simp [flatB]
theorem flat3 (a b c : PartB) : flatB [a, b, c] = a.2.2 ++ (b.2.2 ++ c.2.2) := by simp [flatB]
theorem wire_Number_ok {w : World} {a : Option Addr} {c : Nat} (l : List UInt8) (hl : Rd w a (l.map byteV)) (n : Nat) (hn : n < 18446744073709551616) (hs : l.length + 10 ≤ 140737488355328) :
    Calls Try.prog f.wire_Number #[.slice a l.length c, .int .u64 (n : Int)] w (Ret fun v w' => ∃ a c, v = .slice a (l ++ digitsL n).length c ∧ NewB w w' (l ++ digitsL n) a c) := by
  apply R.wire_Number_calls
  unfold R.wire_Number
  refine (wire_digits_ok w n hn).mono ?_
  rintro _ w1 ⟨_, rfl, a1, c1, rfl, h1⟩
  refine ⟨_, _, _, rfl, (SH.start (fun _ => False) w1).newB fun b5 w2 hb5 B2 S2 => ?_⟩
  have hd := digitsL_len10 hn
  have h2 := h1.grown B2
  refine (slices_Concat_ok [(a, c, l), (a1, c1, digitsL n)] (by have := Rd.of_block0 (S2.get 0 rfl); simpa [partV1] using this) (by
    intro p hp
    simp only [List.mem_cons, List.not_mem_nil, or_false] at hp
    rcases hp with rfl | rfl
    · exact hl.grown h2.bel
    · exact h2.rd) (by simp) (by rw [flat2]; simp; omega)).mono ?_
  rintro _ w3 ⟨_, rfl, a3, c3, rfl, h3⟩
  rw [flat2] at h3 ⊢
  exact ⟨_, _, _, rfl, a3, c3, rfl, h3.before h2.bel⟩
def textL (s : ByteArray) : List UInt8 := digitsL s.size ++ bl s
theorem wire_Text_ok {w : World} {a : Option Addr} {c : Nat} (l : List UInt8) (hl : Rd w a (l.map byteV)) (s : ByteArray) (hz : s.size ≤ 1048576) (hs : l.length + 10 + s.size ≤ 140737488355328) :
    Calls Try.prog f.wire_Text #[.slice a l.length c, .string s] w (Ret fun v w' => ∃ a c, v = .tuple #[.slice a (l ++ textL s).length c, .int .i64 0] ∧ NewB w w' (l ++ textL s) a c) := by
  apply R.wire_Text_calls
  unfold R.wire_Text
  refine IFB_dec (fun h => by omega) (fun _ => ?_)
  rw [wrap_u64_id (by omega) (by omega)]
  refine (wire_digits_ok w s.size (by omega)).mono ?_
  rintro _ w1 ⟨_, rfl, a1, c1, rfl, h1⟩
  have hd := digitsL_len10 (n := s.size) (by omega)
  refine ⟨_, _, _, rfl, bytes_of_string tbytes s w1 fun b c2 cs e w2 hb B2 hh hcs hsc htk => ⟨_, _, _, rfl, (SH.start (fun _ => False) w2).newB fun b7 w3 hb7 B3 S3 => ?_⟩⟩
  have hrd : Rd w2 (some ⟨b, 0, none⟩) ((bl s).map byteV) := by rw [← htk]; exact (Rd.of_block0 hh).take _
  have h3 := (h1.grown B2).grown B3
  have hbl := bl_length s
  refine (slices_Concat_ok [(a, c, l), (a1, c1, digitsL s.size), (some ⟨b, 0, none⟩, c2, bl s)] (by have := Rd.of_block0 (S3.get 0 rfl); simpa [partV1, hbl] using this) (by
    intro p hp
    simp only [List.mem_cons, List.not_mem_nil, or_false] at hp
    rcases hp with rfl | rfl | rfl
    · exact hl.grown h3.bel
    · exact h3.rd
    · exact hrd.grown B3) (by simp) (by rw [flat3]; simp; omega)).mono ?_
  rintro _ w4 ⟨_, rfl, a3, c3, rfl, h4⟩
  rw [flat3] at h4 ⊢
  exact ⟨_, _, _, rfl, a3, c3, rfl, h4.before h3.bel⟩
/-- a number out of bytes: it, and how many bytes it takes -/
def readN (i acc : Nat) : List UInt8 → Option (Nat × Nat)
  | [] => none
  | c :: r => if 9 < i ∨ (i = 9 ∧ c.toNat ≠ 1) then none else if c.toNat < 128 then (if c.toNat = 0 ∧ 0 < i then none else some (acc + c.toNat * 128 ^ i, i + 1)) else readN (i + 1) (acc + (c.toNat % 128) * 128 ^ i) r
def takeN (l : List UInt8) (at_ : Int) : Option (Nat × Nat) := if at_ < 0 then none else (readN 0 0 (l.drop at_.toNat)).map fun x => (x.1, at_.toNat + x.2)
def numV (o : Option (Nat × Nat)) : Value :=
  match o with
  | some x => .tuple #[.int .u64 (x.1 : Int), .int .i64 (x.2 : Int), .int .i64 0]
  | none => .tuple #[.int .u64 0, .int .i64 0, .int .i64 20]

theorem readN_bounds : ∀ (l : List UInt8) (i acc n k : Nat), acc < 128 ^ i → readN i acc l = some (n, k) → n < 18446744073709551616 ∧ i < k ∧ k ≤ i + l.length ∧ k ≤ 10 ∧ (0 < i → 128 ^ i ≤ n)
  | [], _, _, _, _, _, h => by simp [readN] at h
  | c :: r, i, acc, n, k, ha, h => by
    unfold readN at h
    split at h
    · cases h
    · rename_i hi
      split at h
      · rename_i hc
        split at h
        · cases h
        · rename_i hz
          simp only [Option.some.injEq, Prod.mk.injEq] at h
          obtain ⟨rfl, rfl⟩ := h
          refine ⟨?_, by omega, by simp, by omega, fun h0 => ?_⟩
          · by_cases h9 : i = 9
            · subst h9
              have : c.toNat = 1 := by omega
              rw [this]
              have : (128 : Nat) ^ 9 = 9223372036854775808 := by decide
              omega
            · have hp : (128 : Nat) ^ i ≤ 128 ^ 8 := Nat.pow_le_pow_right (by omega) (by omega)
              have : (128 : Nat) ^ 8 = 72057594037927936 := by decide
              have h3 : c.toNat * 128 ^ i ≤ 127 * 128 ^ i := Nat.mul_le_mul_right _ (by omega)
              omega
          · have h1 : 1 ≤ c.toNat := by omega
            have : 1 * 128 ^ i ≤ c.toNat * 128 ^ i := Nat.mul_le_mul_right _ h1
            omega
      · rename_i hc
        have hi8 : i ≤ 8 := by omega
        have hpow : (128 : Nat) ^ (i + 1) = 128 ^ i * 128 := Nat.pow_succ ..
        have h3 : (c.toNat % 128) * 128 ^ i ≤ 127 * 128 ^ i := Nat.mul_le_mul_right _ (by omega)
        obtain ⟨h1, h2, h4, h5, h6⟩ := readN_bounds r (i + 1) _ n k (by omega) h
        refine ⟨h1, by omega, by simp; omega, h5, fun _ => ?_⟩
        have := h6 (by omega)
        omega

theorem pow128 (i : Nat) : (128 : Nat) ^ i = 2 ^ (7 * i) := by rw [Nat.pow_mul]

/-- what a round adds: the program's way -/
theorem or_step {acc c i : Nat} (ha : acc < 128 ^ i) (hc : c < 128) (hi : i ≤ 9) (h9 : i = 9 → c ≤ 1) :
    acc + c * 128 ^ i < 18446744073709551616 ∧ (BitVec.ofInt 64 (acc : Int) ||| BitVec.ofInt 64 ((c * 128 ^ i : Nat) : Int)).toNat = acc + c * 128 ^ i := by
  have hb : acc + c * 128 ^ i < 18446744073709551616 := by
    by_cases h : i = 9
    · subst h
      have := h9 rfl
      have e : (128 : Nat) ^ 9 = 9223372036854775808 := by decide
      have : c * 128 ^ 9 ≤ 1 * 128 ^ 9 := Nat.mul_le_mul_right _ this
      omega
    · have hp : (128 : Nat) ^ i ≤ 128 ^ 8 := Nat.pow_le_pow_right (by omega) (by omega)
      have : (128 : Nat) ^ 8 = 72057594037927936 := by decide
      have h3 : c * 128 ^ i ≤ 127 * 128 ^ i := Nat.mul_le_mul_right _ (by omega)
      omega
  refine ⟨hb, ?_⟩
  rw [BitVec.toNat_or, BitVec.ofInt_natCast, BitVec.ofInt_natCast, BitVec.toNat_ofNat, BitVec.toNat_ofNat, Nat.mod_eq_of_lt (by omega), Nat.mod_eq_of_lt (by omega), pow128, Nat.or_comm]
  rw [pow128] at ha
  have := Nat.two_pow_add_eq_or_of_lt (i := 7 * i) (b := acc) ha c
  rw [Nat.mul_comm c, ← this]
  omega
theorem low7_8 {x : Nat} (h : x < 256) : IntKind.u8.wrap (((BitVec.ofInt 8 (x : Int) &&& BitVec.ofInt 8 127).toNat : Int)) = ((x % 128 : Nat) : Int) := by
  have : (BitVec.ofInt 8 (x : Int) &&& BitVec.ofInt 8 127).toNat = x % 128 := by
    rw [BitVec.toNat_and, BitVec.ofInt_natCast, BitVec.toNat_ofNat, Nat.mod_eq_of_lt (by omega)]
    exact Nat.and_two_pow_sub_one_eq_mod x 7
  rw [this, wrap_u8_id (by omega) (by omega)]
theorem shift_step {c i : Nat} (hc : c < 128) (hi : i ≤ 9) : IntKind.u64.wrap ((c : Int) * 2 ^ (min (IntKind.i64.wrap (7 * (i : Int))).toNat 64)) = ((c * 128 ^ i % 18446744073709551616 : Nat) : Int) := by
  have e : min (IntKind.i64.wrap (7 * (i : Int))).toNat 64 = 7 * i := by rw [wrap_i64 (by omega) (by omega)]; omega
  rw [e, wrap_u64, pow128]
  have : ((2 : Int) ^ (7 * i)) = ((2 ^ (7 * i) : Nat) : Int) := by norm_cast
  rw [this, ← Int.natCast_mul]
  omega

section
variable {w : World} {a : Option Addr} {c : Nat} {l : List UInt8}
theorem byte_at (hl : Rd w a (l.map byteV)) {i : Nat} (hi : i < l.length) : ∃ p, a = some p ∧ w.cell? (p.add (i * 1)) = some (.int .u8 (l[i].toNat : Int)) := by
  obtain ⟨p, hp, hc⟩ := hl i (byteV l[i]) (by simp [hi])
  exact ⟨p, hp, by rw [Nat.mul_one]; exact hc⟩
theorem drop_step {i : Nat} (hi : i < l.length) : l.drop i = l[i] :: l.drop (i + 1) := List.drop_eq_getElem_cons hi

theorem wire_TakeNumber_ok (hl : Rd w a (l.map byteV)) (hc : l.length ≤ c) (hs : l.length ≤ 9223372036854775807) (at_ : Int) : Calls Try.prog f.wire_TakeNumber #[.slice a l.length c, .int .i64 at_] w (Ret fun v w' => v = numV (takeN l at_) ∧ w' = w) := by
  apply R.wire_TakeNumber_calls
  unfold R.wire_TakeNumber
  refine IFB_dec (fun h => ⟨by simp [takeN, h, numV], rfl⟩) (fun h0 => IFB_dec (fun h => ⟨?_, rfl⟩) (fun h1 => ?_))
  · have : l.drop at_.toNat = [] := List.drop_eq_nil_of_le (by omega)
    simp [takeN, h0, this, readN, numV]
  obtain ⟨at_, rfl⟩ : ∃ k : Nat, at_ = k := ⟨at_.toNat, by omega⟩
  rw [Int.toNat_natCast]
  have hat : at_ ≤ l.length := by omega
  have ht : takeN l (at_ : Int) = (readN 0 0 (l.drop at_)).map fun x => (x.1, at_ + x.2) := by unfold takeN; rw [if_neg h0]; rfl
  refine ⟨⟨by omega, by omega, by omega⟩, ?_⟩
  refine ⟨fun s w1 => w1 = w ∧ ∃ i acc : Nat, s = [.int .u64 (acc : Int), .int .i64 (i : Int)] ∧ i ≤ 10 ∧ at_ + i ≤ l.length ∧ acc < 128 ^ i ∧ readN 0 0 (l.drop at_) = readN i acc (l.drop (at_ + i)),
    fun s _ => match s with
      | [_, .int _ i] => 10 - i.toNat
      | _ => 0, ⟨rfl, 0, 0, rfl, by omega, by omega, by simp, rfl⟩, ?_⟩
  rintro _ _ w1 ⟨rfl, i, acc, hs', hi, hle, hacc, hread⟩
  cases hs'
  have none_ : readN i acc (l.drop (at_ + i)) = none → (Value.tuple #[.int .u64 0, .int .i64 0, .int .i64 20] = numV (takeN l (at_ : Int)) ∧ w1 = w1) := by
    intro hn
    rw [ht, hread, hn]
    exact ⟨rfl, rfl⟩
  refine IFB_dec (fun hlt => ⟨⟨by omega, hlt⟩, ?_⟩) (fun hge => ?_)
  · have hil : at_ + i < l.length := by omega
    have hrd := (hl.sla at_ l.length c 1 hc)
    obtain ⟨p, hp, hcell⟩ := hrd i (byteV l[at_ + i]) (by
      rw [List.getElem?_take_of_lt (by omega), List.getElem?_drop, Nat.mul_one]
      simp [hil])
    rw [hp]
    refine ⟨_, by rw [Int.toNat_natCast, Nat.mul_one]; exact hcell, ?_⟩
    have hd := drop_step hil
    generalize hcc : l[at_ + i] = cc at hd
    have hc256 := cc.toNat_lt
    refine ⟨fun _ w2 => w2 = w1 ∧ ¬ (9 < i ∨ (i = 9 ∧ cc.toNat ≠ 1)), ?_, ?_⟩
    · refine IFB_dec (fun h => none_ (by rw [hd]; unfold readN; rw [if_pos (.inl (by omega))])) (fun h9 => IFB_eq (fun h => IFB_ne (fun h2 => none_ (by rw [hd]; unfold readN; rw [if_pos (.inr ⟨by omega, by omega⟩)])) (fun h2 => ⟨rfl, by omega⟩)) (fun h => ⟨rfl, by omega⟩))
    rintro w2 ⟨rfl, hno⟩
    have hi9 : i ≤ 9 := by omega
    have hm : cc.toNat % 128 < 128 := Nat.mod_lt _ (by omega)
    have h9 : i = 9 → cc.toNat % 128 ≤ 1 := by omega
    obtain ⟨hb, hor⟩ := or_step hacc hm hi9 h9
    have e1 : IntKind.u64.wrap (IntKind.u8.wrap (((BitVec.ofInt 8 (cc.toNat : Int) &&& BitVec.ofInt 8 127).toNat : Int))) = ((cc.toNat % 128 : Nat) : Int) := by rw [low7_8 hc256, wrap_u64_id (by omega) (by omega)]
    rw [e1, shift_step hm hi9, Nat.mod_eq_of_lt (by omega : cc.toNat % 128 * 128 ^ i < 18446744073709551616), hor, wrap_u64_id (by omega) (by omega)]
    refine ⟨by rw [wrap_i64 (by omega) (by omega)]; omega, ?_⟩
    have fin : cc.toNat < 128 → ¬ (cc.toNat = 0 ∧ 0 < i) → (Value.tuple #[.int .u64 ((acc + cc.toNat % 128 * 128 ^ i : Nat) : Int), .int .i64 (IntKind.i64.wrap (IntKind.i64.wrap ((at_ : Int) + (i : Int)) + 1)), .int .i64 0] = numV (takeN l (at_ : Int)) ∧ w2 = w2) := by
      intro hlt hz
      refine ⟨?_, rfl⟩
      rw [ht, hread, hd]
      unfold readN
      rw [if_neg hno, if_pos hlt, if_neg hz, Nat.mod_eq_of_lt hlt, wrap_i64 (n := (at_ : Int) + (i : Int)) (by omega) (by omega), wrap_i64 (by omega) (by omega)]
      simp only [Option.map_some, numV]
      congr 5
    refine IFB_dec (fun hlt => IFB_eq (fun hz => IFB_dec (fun h => none_ (by rw [hd]; unfold readN; rw [if_neg hno, if_pos (by omega), if_pos ⟨by omega, by omega⟩])) (fun h => fin (by omega) (by omega))) (fun hz => fin (by omega) (by omega))) (fun hge => ?_)
    rw [wrap_succ (by omega)]
    refine ⟨⟨rfl, i + 1, _, rfl, by omega, by omega, ?_, ?_⟩, ?_⟩
    · rw [Nat.pow_succ]
      have h3 : (cc.toNat % 128) * 128 ^ i ≤ 127 * 128 ^ i := Nat.mul_le_mul_right _ (by omega)
      omega
    · rw [hread, hd]
      conv => lhs; unfold readN
      rw [if_neg hno, if_neg (by omega)]
      rfl
    · simp only [Int.toNat_natCast]
      omega
  · refine none_ ?_
    rw [List.drop_eq_nil_of_le (by omega)]
    rfl

theorem ref_TakeNumber_ok (hl : Rd w a (l.map byteV)) (hs : l.length ≤ 9223372036854775807) (at_ : Int) (hat : at_ ≤ 9223372036854775807) : Calls Try.prog f.ref02_TakeNumber #[.slice a l.length c, .int .i64 at_] w (Ret fun v w' => v = numV (takeN l at_) ∧ w' = w) := by
  apply R.ref02_TakeNumber_calls
  unfold R.ref02_TakeNumber
  refine IFB_dec (fun h => ⟨by simp [takeN, h, numV], rfl⟩) (fun h0 => ?_)
  obtain ⟨at_, rfl⟩ : ∃ k : Nat, at_ = k := ⟨at_.toNat, by omega⟩
  have ht : takeN l (at_ : Int) = (readN 0 0 (l.drop at_)).map fun x => (x.1, at_ + x.2) := by unfold takeN; rw [if_neg h0]; rfl
  refine ⟨fun s w1 => w1 = w ∧ ∃ i acc : Nat, s = [.int .u64 (acc : Int), .int .i64 (i : Int)] ∧ i ≤ 10 ∧ acc < 128 ^ i ∧ readN 0 0 (l.drop at_) = readN i acc (l.drop (at_ + i)),
    fun s _ => match s with
      | [_, .int _ i] => 10 - i.toNat
      | _ => 0, ⟨rfl, 0, 0, rfl, by omega, by simp, rfl⟩, ?_⟩
  rintro _ _ w1 ⟨rfl, i, acc, hs', hi, hacc, hread⟩
  cases hs'
  have none_ : readN i acc (l.drop (at_ + i)) = none → (Value.tuple #[.int .u64 0, .int .i64 0, .int .i64 20] = numV (takeN l (at_ : Int)) ∧ w1 = w1) := by
    intro hn
    rw [ht, hread, hn]
    exact ⟨rfl, rfl⟩
  have nil_ : l.length ≤ at_ + i → readN i acc (l.drop (at_ + i)) = none := by
    intro h
    rw [List.drop_eq_nil_of_le h]
    rfl
  refine IFB_dec (fun hi10 => IFB_dec (fun hal => ?_) (fun h => none_ (nil_ (by omega)))) (fun h => none_ ?_)
  · have ew : IntKind.i64.wrap ((l.length : Int) - (at_ : Int)) = (l.length : Int) - (at_ : Int) := wrap_i64 (by omega) (by omega)
    rw [ew]
    refine IFB_dec (fun hil' => ?_) (fun h => none_ (nil_ (by omega)))
    have hil : at_ + i < l.length := by omega
    have ei : IntKind.i64.wrap ((at_ : Int) + (i : Int)) = ((at_ + i : Nat) : Int) := by rw [wrap_i64 (by omega) (by omega)]; omega
    rw [ei]
    refine ⟨⟨by omega, by omega⟩, ?_⟩
    obtain ⟨p, rfl, hcell⟩ := byte_at hl hil
    refine ⟨_, by rw [Int.toNat_natCast]; exact hcell, ?_⟩
    have hd := drop_step hil
    generalize hcc : l[at_ + i] = cc at hd
    have hc256 := cc.toNat_lt
    have hi9 : i ≤ 9 := by omega
    refine ⟨fun _ w2 => w2 = w1 ∧ ¬ (i = 9 ∧ 1 < cc.toNat), ?_, ?_⟩
    · refine IFB_eq (fun h => IFB_dec (fun h2 => none_ (by rw [hd]; unfold readN; rw [if_pos (.inr ⟨by omega, by omega⟩)])) (fun h2 => ⟨rfl, by omega⟩)) (fun h => ⟨rfl, by omega⟩)
    rintro w2 ⟨rfl, hno'⟩
    have hm : cc.toNat % 128 < 128 := Nat.mod_lt _ (by omega)
    have h9 : i = 9 → cc.toNat % 128 ≤ 1 := by omega
    obtain ⟨hb, _⟩ := or_step hacc hm hi9 h9
    have e1 : IntKind.u64.wrap (Int.tmod (cc.toNat : Int) 128) = ((cc.toNat % 128 : Nat) : Int) := by
      rw [Int.tmod_eq_emod_of_nonneg (by omega), wrap_u64_id (by omega) (by omega)]
      omega
    rw [e1, shift_step hm hi9, Nat.mod_eq_of_lt (by omega : cc.toNat % 128 * 128 ^ i < 18446744073709551616)]
    have e2 : IntKind.u64.wrap ((acc : Int) + ((cc.toNat % 128 * 128 ^ i : Nat) : Int)) = ((acc + cc.toNat % 128 * 128 ^ i : Nat) : Int) := by
      rw [wrap_u64_id (by omega) (by omega)]; omega
    rw [e2]
    refine ⟨by rw [wrap_i64 (by omega) (by omega)]; omega, ?_⟩
    have zero9 : i = 9 → cc.toNat = 0 → readN i acc (l.drop (at_ + i)) = none := by
      intro h h0
      rw [hd]
      unfold readN
      rw [if_pos (.inr ⟨h, by omega⟩)]
    have fin : cc.toNat < 128 → ¬ (cc.toNat = 0 ∧ 0 < i) → (Value.tuple #[.int .u64 ((acc + cc.toNat % 128 * 128 ^ i : Nat) : Int), .int .i64 (IntKind.i64.wrap (((at_ + i : Nat) : Int) + 1)), .int .i64 0] = numV (takeN l (at_ : Int)) ∧ w2 = w2) := by
      intro hlt hz
      refine ⟨?_, rfl⟩
      rw [ht, hread, hd]
      unfold readN
      rw [if_neg (by omega), if_pos hlt, if_neg hz, Nat.mod_eq_of_lt hlt, wrap_i64 (by omega) (by omega)]
      simp only [Option.map_some, numV]
      congr 5
    refine IFB_dec (fun hlt => IFB_eq (fun hz => IFB_dec (fun h => none_ ?_) (fun h => fin (by omega) (by omega))) (fun hz => fin (by omega) (by omega))) (fun hge => ?_)
    · by_cases hi9' : i = 9
      · exact zero9 hi9' (by omega)
      · rw [hd]; unfold readN; rw [if_neg (by omega), if_pos (by omega), if_pos ⟨by omega, by omega⟩]
    rw [wrap_succ (by omega)]
    refine ⟨⟨rfl, i + 1, _, rfl, by omega, ?_, ?_⟩, ?_⟩
    · rw [Nat.pow_succ]
      have h3 : (cc.toNat % 128) * 128 ^ i ≤ 127 * 128 ^ i := Nat.mul_le_mul_right _ (by omega)
      omega
    · rw [hread, hd]
      conv => lhs; unfold readN
      rw [if_neg (by omega), if_neg (by omega)]
      rfl
    · simp only [Int.toNat_natCast]
      omega
  · have h10 : i = 10 := by omega
    subst h10
    cases hh : l.drop (at_ + 10) with
    | nil => rfl
    | cons c r => unfold readN; rw [if_pos (.inl (by omega))]
end
theorem takeN_bounds {l : List UInt8} {at_ : Int} {n k : Nat} (h : takeN l at_ = some (n, k)) : n < 18446744073709551616 ∧ 0 ≤ at_ ∧ at_.toNat < k ∧ k ≤ l.length ∧ k ≤ at_.toNat + 10 := by
  unfold takeN at h
  split at h
  · cases h
  · obtain ⟨⟨x1, x2⟩, hx, he⟩ := Option.map_eq_some_iff.1 h
    simp only [Prod.mk.injEq] at he
    obtain ⟨rfl, rfl⟩ := he
    obtain ⟨h1, h2, h3, h4, _⟩ := readN_bounds _ 0 0 _ _ (by simp) hx
    rw [List.length_drop] at h3
    refine ⟨h1, by omega, by omega, by omega, by omega⟩
def takeT (l : List UInt8) (at_ : Int) (most : Nat) : Option (List UInt8 × Nat) :=
  match takeN l at_ with
  | some x => if 1048576 < x.1 ∨ most < x.1 ∨ l.length - x.2 < x.1 then none else some ((l.drop x.2).take x.1, x.2 + x.1)
  | none => none
def txtV (o : Option (List UInt8 × Nat)) : Value :=
  match o with
  | some x => .tuple #[.string (sof x.1), .int .i64 (x.2 : Int), .int .i64 0]
  | none => .tuple #[.string ⟨#[]⟩, .int .i64 0, .int .i64 20]
section
variable {w : World} {a : Option Addr} {c : Nat} {l : List UInt8}
theorem wire_TakeText_any (hl : Rd w a (l.map byteV)) (hc : l.length ≤ c) (hs : l.length ≤ 9223372036854775807) (at_ : Int) (most : Nat) : Calls Try.prog f.wire_TakeText #[.slice a l.length c, .int .i64 at_, .int .i64 (most : Int)] w (Ret fun v w' => v = txtV (takeT l at_ most) ∧ w' = w) := by
  apply R.wire_TakeText_calls
  unfold R.wire_TakeText
  refine (wire_TakeNumber_ok hl hc hs at_).mono ?_
  rintro _ w ⟨_, rfl, rfl, rfl⟩
  cases ho : takeN l at_ with
  | none => exact ⟨_, _, _, rfl, IFB_true ⟨by simp only [takeT, ho]; rfl, rfl⟩⟩
  | some x =>
    obtain ⟨n, k⟩ := x
    obtain ⟨h1, h2, h3, h4, h5⟩ := takeN_bounds ho
    have no : (1048576 < n ∨ most < n ∨ l.length - k < n) → (Value.tuple #[.string ⟨#[]⟩, .int .i64 0, .int .i64 20] = txtV (takeT l at_ most) ∧ w = w) := by
      intro h
      refine ⟨?_, rfl⟩
      simp only [takeT, ho]
      rw [if_pos h]
      rfl
    refine ⟨_, _, _, rfl, IFB_false (IFB_dec (fun h => no (.inl (by omega))) (fun hn1 => ?_))⟩
    rw [wrap_i64 (n := (n : Int)) (by omega) (by omega), wrap_i64 (n := (l.length : Int) - (k : Int)) (by omega) (by omega)]
    refine IFB_dec (fun h => no (.inr (.inl (by omega)))) (fun hn2 => IFB_dec (fun h => no (.inr (.inr (by omega)))) (fun hn3 => ?_))
    have e : IntKind.i64.wrap ((k : Int) + (n : Int)) = ((k + n : Nat) : Int) := by rw [wrap_i64 (by omega) (by omega)]; omega
    rw [e]
    refine ⟨⟨by omega, by omega, by omega⟩, ?_⟩
    rw [Int.toNat_natCast, Int.toNat_natCast, Nat.add_sub_cancel_left]
    have hsl := hl.sla k (k + n) c 1 (by omega)
    rw [Nat.mul_one, Nat.mul_one, Nat.add_sub_cancel_left, ← List.map_drop, ← List.map_take] at hsl
    have hlen : ((l.drop k).take n).length = n := by rw [List.length_take, List.length_drop]; omega
    refine string_of_bytes tbytes hlen.symm hsl ⟨_, rfl, ?_, rfl⟩
    simp only [takeT, ho]
    rw [if_neg (by omega)]
    rfl
theorem ref_TakeText_ok (hl : Rd w a (l.map byteV)) (hc : l.length ≤ c) (hs : l.length ≤ 9223372036854775807) (at_ : Int) (hat : at_ ≤ 9223372036854775807) (most : Nat) : Calls Try.prog f.ref02_TakeText #[.slice a l.length c, .int .i64 at_, .int .i64 (most : Int)] w (Ret fun v w' => v = txtV (takeT l at_ most) ∧ w' = w) := by
  apply R.ref02_TakeText_calls
  unfold R.ref02_TakeText
  refine (ref_TakeNumber_ok hl hs at_ hat).mono ?_
  rintro _ w ⟨_, rfl, rfl, rfl⟩
  cases ho : takeN l at_ with
  | none => exact ⟨_, _, _, rfl, IFB_true ⟨by simp only [takeT, ho]; rfl, rfl⟩⟩
  | some x =>
    obtain ⟨n, k⟩ := x
    obtain ⟨h1, h2, h3, h4, h5⟩ := takeN_bounds ho
    have no : (1048576 < n ∨ most < n ∨ l.length - k < n) → (Value.tuple #[.string ⟨#[]⟩, .int .i64 0, .int .i64 20] = txtV (takeT l at_ most) ∧ w = w) := by
      intro h
      refine ⟨?_, rfl⟩
      simp only [takeT, ho]
      rw [if_pos h]
      rfl
    refine ⟨_, _, _, rfl, IFB_false (IFB_dec (fun h => no (.inl (by omega))) (fun hn1 => ?_))⟩
    rw [wrap_i64 (n := (n : Int)) (by omega) (by omega), wrap_i64 (n := (l.length : Int) - (k : Int)) (by omega) (by omega)]
    refine IFB_dec (fun h => no (.inr (.inl (by omega)))) (fun hn2 => IFB_dec (fun h => no (.inr (.inr (by omega)))) (fun hn3 => ?_))
    have e : IntKind.i64.wrap ((k : Int) + (n : Int)) = ((k + n : Nat) : Int) := by rw [wrap_i64 (by omega) (by omega)]; omega
    rw [e]
    refine ⟨⟨by omega, by omega, by omega⟩, ?_⟩
    rw [Int.toNat_natCast, Int.toNat_natCast, Nat.add_sub_cancel_left]
    have hsl := hl.sla k (k + n) c 1 (by omega)
    rw [Nat.mul_one, Nat.mul_one, Nat.add_sub_cancel_left, ← List.map_drop, ← List.map_take] at hsl
    have hlen : ((l.drop k).take n).length = n := by rw [List.length_take, List.length_drop]; omega
    refine string_of_bytes tbytes hlen.symm hsl ⟨_, rfl, ?_, rfl⟩
    simp only [takeT, ho]
    rw [if_neg (by omega)]
    rfl
end
theorem NewB.appended {w w1 w2 w3 : World} {l m : List UInt8} {a a' : Option Addr} {c c' : Nat} (h : NewB w w1 l a c) (hb : Below w1.heap.size w1 w2) (R : Row w3 ty.uint8 1 a' m.length c' (m.map byteV)) (K : Keeps (fun k => rowB a = some k) w2 w3) (N : ∀ k, rowB a' = some k → rowB a = some k ∨ w2.heap.size ≤ k) : NewB w w3 m a' c' := by
  have h2 := h.grown hb
  refine ⟨R, fun k hk => ?_, h2.bel.trans (K.below h2.bel.size fun k hk he => by have := h2.new k he; omega)⟩
  rcases N k hk with hh | hh
  · exact h2.new k hh
  · exact Nat.le_trans h2.bel.size hh
section
variable {w : World} {a : Option Addr} {c : Nat}
theorem ref_Number_ok (l : List UInt8) (hl : Rd w a (l.map byteV)) (n : Nat) (hn : n < 18446744073709551616) (hs : l.length + 10 ≤ 140737488355328) :
    Calls Try.prog f.ref02_Number #[.slice a l.length c, .int .u64 (n : Int)] w (Ret fun v w' => ∃ a c, v = .slice a (l ++ digitsL n).length c ∧ NewB w w' (l ++ digitsL n) a c) := by
  apply R.ref02_Number_calls
  unfold R.ref02_Number
  have e : IntKind.i64.wrap ((l.length : Int) + 10) = ((l.length + 10 : Nat) : Int) := by rw [wrap_i64 (by omega) (by omega)]; omega
  rw [e]
  refine make_row0 tB (by omega) (by omega) fun b w1 hb B1 R1 => ⟨_, _, _, rfl, ?_⟩
  refine append_bytes (l := []) R1 (hl.grown B1) (by simp; omega) fun a2 c2 w2 R2 K2 N2 => ⟨_, _, _, rfl, ?_⟩
  have h1 : NewB w w1 [] (some ⟨b, 0, none⟩) (l.length + 10) := ⟨R1, fun k hk => by simp [rowB] at hk; omega, B1⟩
  have h2 : NewB w w2 l a2 c2 := h1.appended (.refl _ _) R2 K2 N2
  refine ⟨fun s w3 => ∃ (m : Nat) (a : Option Addr) (c : Nat) (l' : List UInt8), s = [.int .u64 (m : Int), .slice a l'.length c] ∧ m < 18446744073709551616 ∧ l' ++ digitsL m = l ++ digitsL n ∧ NewB w w3 l' a c,
    fun s _ => match s with
      | [.int _ i, _] => i.toNat
      | _ => 0, ⟨n, a2, c2, l, rfl, hn, rfl, h2⟩, ?_⟩
  rintro _ a3 _ c3 w3 ⟨m, _, _, l', hs', hm, hl', h3⟩
  cases hs'
  have hlen : l'.length + 1 ≤ 140737488355328 := by
    have h4 := digitsL_len10 hn
    have h5 := congrArg List.length hl'
    have h6 := digitsL_pos m
    have h7 : 0 < (digitsL m).length := List.length_pos_iff.2 h6
    simp only [List.length_append] at h5
    omega
  refine IFB_dec (fun h => ?_) (fun h => ?_)
  · have e1 : IntKind.u8.wrap (IntKind.u8.wrap (Int.tmod (m : Int) 128) + 128) = ((m % 128 + 128 : Nat) : Int) := by
      rw [Int.tmod_eq_emod_of_nonneg (by omega), wrap_u8_id (n := (m : Int) % 128) (by omega) (by omega), wrap_u8_id (by omega) (by omega)]
      omega
    have e2 : IntKind.u64.wrap (Int.tdiv (m : Int) 128) = ((m / 128 : Nat) : Int) := by rw [Int.tdiv_eq_ediv_of_nonneg (by omega), wrap_u64_id (by omega) (by omega)]; omega
    rw [e1, e2]
    refine (SH.start (fun _ => False) w3).newB fun b13 w6 hb13 B6 S6 => ?_
    refine append_byte (h3.grown B6).row hlen (x := UInt8.ofNat (m % 128 + 128)) (byteV_of (by omega)) (S6.get 0 rfl) fun a7 c7 w7 R7 K7 N7 => ⟨_, _, _, rfl, ⟨m / 128, a7, c7, _, rfl, by omega, ?_, h3.appended B6 R7 K7 N7⟩, ?_⟩
    · rw [← hl']
      conv => rhs; rhs; unfold digitsL; rw [dif_neg (by omega)]
      simp
    · simp only [Int.toNat_natCast]
      omega
  · have hm0 : m < 128 := by omega
    rw [wrap_u8_id (n := (m : Int)) (by omega) (by omega)]
    refine (SH.start (fun _ => False) w3).newB fun b13 w6 hb13 B6 S6 => ?_
    refine append_byte (h3.grown B6).row hlen (x := UInt8.ofNat m) (byteV_of (by omega)) (S6.get 0 rfl) fun a7 c7 w7 R7 K7 N7 => ⟨_, _, _, rfl, ?_⟩
    have e : l' ++ [UInt8.ofNat m] = l ++ digitsL n := by rw [← hl']; conv => rhs; rhs; unfold digitsL; rw [dif_pos hm0]
    have h7 := h3.appended B6 R7 K7 N7
    rw [e] at h7 ⊢
    exact ⟨a7, c7, rfl, h7⟩
theorem ref_Text_ok (l : List UInt8) (hl : Rd w a (l.map byteV)) (s : ByteArray) (hz : s.size ≤ 1048576) (hs : l.length + 10 + s.size ≤ 140737488355328) :
    Calls Try.prog f.ref02_Text #[.slice a l.length c, .string s] w (Ret fun v w' => ∃ a c, v = .tuple #[.slice a (l ++ textL s).length c, .int .i64 0] ∧ NewB w w' (l ++ textL s) a c) := by
  apply R.ref02_Text_calls
  unfold R.ref02_Text
  refine IFB_dec (fun h => by omega) (fun _ => ?_)
  rw [wrap_u64_id (by omega) (by omega)]
  refine (ref_Number_ok l hl s.size (by omega) (by omega)).mono ?_
  rintro _ w1 ⟨_, rfl, a1, c1, rfl, h1⟩
  have hd := digitsL_len10 (n := s.size) (by omega)
  refine ⟨_, _, _, rfl, append_text h1.row s (by simp only [List.length_append]; omega) fun a2 c2 w2 R2 K2 N2 => ⟨_, _, _, rfl, ?_⟩⟩
  have h2 := h1.appended (.refl _ _) R2 K2 N2
  have e : l ++ digitsL s.size ++ bl s = l ++ textL s := by rw [textL, List.append_assoc]
  rw [e] at h2 ⊢
  exact ⟨a2, c2, rfl, h2⟩
end
theorem ofNat_toNat8 {n : Nat} (h : n < 256) : (UInt8.ofNat n).toNat = n := by simp; omega
theorem digitsL_small {n : Nat} (h : n < 128) : digitsL n = [UInt8.ofNat n] := by unfold digitsL; rw [dif_pos h]
theorem digitsL_big {n : Nat} (h : ¬ n < 128) : digitsL n = UInt8.ofNat (n % 128 + 128) :: digitsL (n / 128) := by conv => lhs; unfold digitsL; rw [dif_neg h]
theorem readN_digits (n : Nat) : ∀ (i acc : Nat) (r : List UInt8), n * 128 ^ i < 18446744073709551616 → i ≤ 9 → (n = 0 → i = 0) → readN i acc (digitsL n ++ r) = some (acc + n * 128 ^ i, i + (digitsL n).length) := by
  induction n using Nat.strongRecOn with
  | _ n ih =>
    intro i acc r hn hi h0
    by_cases h : n < 128
    · rw [digitsL_small h]
      simp only [List.singleton_append, readN]
      rw [ofNat_toNat8 (by omega)]
      have e9 : i = 9 → n = 1 := by
        intro h9
        subst h9
        have : (128 : Nat) ^ 9 = 9223372036854775808 := by decide
        rw [this] at hn
        have : n ≠ 0 := fun h => by have := h0 h; omega
        omega
      rw [if_neg (by omega), if_pos h, if_neg (by omega)]
      rfl
    · rw [digitsL_big h]
      simp only [List.cons_append, readN]
      rw [ofNat_toNat8 (by omega)]
      have h8 : i ≤ 8 := by
        by_cases h9 : i = 9
        · subst h9
          have : (128 : Nat) ^ 9 = 9223372036854775808 := by decide
          rw [this] at hn
          omega
        · omega
      have ep : (128 : Nat) ^ (i + 1) = 128 * 128 ^ i := by rw [Nat.pow_succ, Nat.mul_comm]
      have key : n / 128 * 128 ^ (i + 1) + n % 128 * 128 ^ i = n * 128 ^ i := by
        rw [ep, ← Nat.mul_assoc, ← Nat.add_mul]
        congr 1
        omega
      rw [if_neg (by omega), if_neg (by omega), ih (n / 128) (by omega) (i + 1) _ r (by omega) (by omega) (by omega)]
      simp only [List.length_cons]
      have : (n % 128 + 128) % 128 = n % 128 := by omega
      rw [this]
      congr 2
      · omega
      · omega
theorem readN_conv : ∀ (l : List UInt8) (i acc n k : Nat), readN i acc l = some (n, k) → ∃ m, n = acc + m * 128 ^ i ∧ k = i + (digitsL m).length ∧ l = digitsL m ++ l.drop (digitsL m).length ∧ (0 < i → m ≠ 0)
  | [], _, _, _, _, h => by simp [readN] at h
  | c :: r, i, acc, n, k, h => by
    have hc := c.toNat_lt
    unfold readN at h
    split at h
    · cases h
    · split at h
      · rename_i hlt
        split at h
        · cases h
        · rename_i hz
          simp only [Option.some.injEq, Prod.mk.injEq] at h
          obtain ⟨rfl, rfl⟩ := h
          refine ⟨c.toNat, rfl, ?_, ?_, fun hi hh => hz ⟨hh, hi⟩⟩
          · rw [digitsL_small hlt]; rfl
          · rw [digitsL_small hlt]; simp
      · rename_i hge
        obtain ⟨m, e1, e2, e3, e4⟩ := readN_conv r (i + 1) _ n k h
        have hm := e4 (by omega)
        have hb : ¬ (c.toNat % 128 + 128 * m) < 128 := by omega
        have ed : digitsL (c.toNat % 128 + 128 * m) = c :: digitsL m := by
          rw [digitsL_big hb]
          have h1 : (c.toNat % 128 + 128 * m) % 128 + 128 = c.toNat := by omega
          have h2 : (c.toNat % 128 + 128 * m) / 128 = m := by omega
          rw [h1, h2]
          simp
        refine ⟨c.toNat % 128 + 128 * m, ?_, ?_, ?_, fun _ => by omega⟩
        · rw [e1, Nat.pow_succ, Nat.add_mul, Nat.add_assoc]
          congr 2
          rw [Nat.mul_comm (128 ^ i) 128, ← Nat.mul_assoc, Nat.mul_comm m 128]
        · rw [e2, ed]
          simp only [List.length_cons]
          omega
        · rw [ed]
          simp only [List.length_cons, List.drop_succ_cons, List.cons_append]
          rw [← e3]
end Go.Proofs.Ytmilfgmkcmcicaa
