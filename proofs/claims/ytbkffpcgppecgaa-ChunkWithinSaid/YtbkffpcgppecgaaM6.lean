/-
  Texts of this claim, laid one behind the other by a program of mine (install.py): C.Ch4, C.Ch5, C.Shelf, C.Cmp, C.CmpL, C.Ch6, C.Ch7, C.Ch8, C.Ch9.
-/
import Derived.Test.YtbkffpcgppecgaaM5
import Derived.Shelf.Small.Strs
import Derived.Test.YtbkffpcgppecgaaProg
/-
  A column's values as bytes: both sides; the law ChunkWords.
-/
namespace Go.Proofs.Ytbkffpcgppecgaa
open Go.Dn Go.Proofs
open Go.RowKit (Below)
set_option linter.unusedVariables false
set_option maxRecDepth 20000

def headL (kind : Int) (ls : List Val) : List UInt8 := [UInt8.ofNat kind.toNat] ++ digitsL ls.length ++ digitsL (nullsN ls)
def maskL (ls : List Val) : List UInt8 := if 0 < nullsN ls ∧ nullsN ls < ls.length then packL (bitsN ls) 1 else []
structure ChIs (kind : Int) (ls : List Val) (b : List UInt8) : Prop where
  ex : ∃ o, (nullsN ls < ls.length → OthIs kind ls o) ∧ (¬ nullsN ls < ls.length → o = []) ∧ b = (headL kind ls ++ maskL ls ++ o) ++ sum4 (crc (headL kind ls ++ maskL ls ++ o))
theorem ChIs.one {kind : Int} {ls : List Val} {b c : List UInt8} (h : ChIs kind ls b) (h' : ChIs kind ls c) : b = c := by
  obtain ⟨o, h1, h2, rfl⟩ := h.ex
  obtain ⟨o', k1, k2, rfl⟩ := h'.ex
  have : o = o' := by
    by_cases hn : nullsN ls < ls.length
    · exact (h1 hn).one (k1 hn)
    · rw [h2 hn, k2 hn]
  rw [this]
/-- what Encode hands back -/
def ChV (kind : Int) (ls : List Val) (w w' : World) (r : Value) : Prop :=
  (rightL kind ls = false ∧ r = .tuple #[.slice none 0 0, .int .i64 2] ∧ Below w.heap.size w w') ∨ (rightL kind ls = true ∧ ∃ b a c, ChIs kind ls b ∧ r = .tuple #[.slice a b.length c, .int .i64 0] ∧ NewB w w' b a c)
theorem headL_len {kind : Int} {ls : List Val} (hg : Good1 kind ls) : (headL kind ls).length ≤ 21 := by
  have h1 := digitsL_len10 (n := ls.length) (by have := hg.len; omega)
  have h2 := digitsL_len10 (n := nullsN ls) (by have := hg.len; have := nullsN_le ls; omega)
  simp only [headL, List.length_append, List.length_cons, List.length_nil]
  omega
theorem maskL_len {kind : Int} {ls : List Val} (hg : Good1 kind ls) : (maskL ls).length ≤ 200 := by
  have := hg.len
  unfold maskL
  split
  · rw [packL_len]
    unfold sizeN
    have : (bitsN ls).length = ls.length := by simp [bitsN]
    rw [this]
    omega
  · simp
theorem bits_lt (ls : List Val) : ∀ x ∈ bitsN ls, x < 2 ^ 1 := by
  intro x hx
  obtain ⟨v, _, rfl⟩ := List.mem_map.1 hx
  split <;> omega
section
variable {w : World} {a : Option Addr} {c : Nat} {ls : List Val}
theorem chunk_Encode_ok (kind : Int) (hl : Rd w a (valsL ls)) (hn : ls.length ≤ 9223372036854775807) (hv : ∀ v ∈ ls, ValOk v) :
    Calls Try.prog f.chunk_Encode #[.int .i64 kind, .slice a ls.length c] w (Ret fun v w' => ChV kind ls w w' v) := by
  apply R.chunk_Encode_calls
  unfold R.chunk_Encode
  refine (chunk_right_ok kind hl hn).mono ?_
  rintro _ w1 ⟨_, rfl, rfl, B1⟩
  refine ⟨_, rfl, IFB_not (IFB_of (fun hr => ?_) (fun hr => .inl ⟨hr, rfl, B1⟩))⟩
  have hg : Good1 kind ls := ⟨hr, hv⟩
  have hlen := hg.len
  have hk := hg.kind
  have hnl := nullsN_le ls
  refine ⟨fun s w2 => ∃ (i : Nat) (ba : Option Addr) (bc : Nat), s = [.slice ba (bitsN (ls.take i)).length bc, .int .i64 (nullsN (ls.take i) : Int), .int .i64 (i : Int)] ∧ i ≤ ls.length ∧ NewU w1 w2 (bitsN (ls.take i)) ba bc, fun s _ => match s with
      | [_, _, .int _ i] => ls.length - i.toNat
      | _ => 0, ⟨0, none, 0, rfl, by omega, NewU.nil w1⟩, ?_⟩
  rintro ba _ bc _ _ w2 ⟨i, _, _, hst, hi, h2⟩
  cases hst
  have C2 := below_trans B1 h2.bel
  refine IFB_dec (fun hlt => ⟨⟨by omega, hlt⟩, ?_⟩) (fun hge => ?_)
  · have hil : i < ls.length := by omega
    obtain ⟨p, rfl, c0, c1, c2⟩ := val_at (hl.grown C2) hil
    have hbl : (bitsN (ls.take i)).length ≤ 1024 := by simp [bitsN]; omega
    have hnl2 := nullsN_le (ls.take i)
    rw [List.length_take] at hnl2
    have mes : ls.length - ((i + 1 : Nat) : Int).toNat < ls.length - ((i : Nat) : Int).toNat := by
      simp only [Int.toNat_natCast]
      omega
    refine ⟨_, by rw [Int.toNat_natCast]; exact c0, _, by rw [Int.toNat_natCast]; exact c1, _, by rw [Int.toNat_natCast]; exact c2, (SH.start (fun _ => False) w2).lit3 fun b13 w6 hb13 B6 S6 => ⟨_, S6.cell 0 rfl rfl, ?_⟩⟩
    rw [wrap_succ (by omega), wrap_succ (by omega)]
    refine IFB_eq (fun hz => ?_) (fun hz => ?_)
    · refine S6.newB fun b15 w7 hb15 B7 S7 => append_u64 ((h2.grown B6).grown B7) (by omega) (x := 1) rfl (S7.get 0 rfl) fun a8 c8 w8 h8 => ⟨_, _, _, rfl, ⟨i + 1, a8, c8, ?_, by omega, ?_⟩, mes⟩
      · rw [nullsN_take hil, bitsN_take hil, if_pos hz]
      · rw [bitsN_take hil, if_pos hz]; exact h8
    · refine S6.newB fun b15 w7 hb15 B7 S7 => append_u64 ((h2.grown B6).grown B7) (by omega) (x := 0) rfl (S7.get 0 rfl) fun a8 c8 w8 h8 => ⟨_, _, _, rfl, ⟨i + 1, a8, c8, ?_, by omega, ?_⟩, mes⟩
      · rw [nullsN_take hil, bitsN_take hil, if_neg hz]; rfl
      · rw [bitsN_take hil, if_neg hz]; exact h8
  have hie : ls.take i = ls := List.take_of_length_le (by omega)
  rw [hie] at h2 ⊢
  have hbl : (bitsN ls).length = ls.length := by simp [bitsN]
  rw [wrap_u8_id (by omega) (by omega)]
  refine (SH.start (fun _ => False) w2).newB fun b21 w11 hb21 B11 S11 => ?_
  have C11 := below_trans C2 B11
  have hN11 : Rd w11 (some ⟨b21, 0, none⟩) ([UInt8.ofNat kind.toNat].map byteV) := by
    have := Rd.of_block0 (S11.get 0 rfl)
    have e : Value.int .u8 kind = byteV (UInt8.ofNat kind.toNat) := by
      have := byteV_of (x := kind.toNat) (by omega)
      rw [← this]
      congr 1
      omega
    simpa [e] using this
  rw [wrap_u64_id (by omega) (by omega)]
  refine (wire_Number_ok (c := 1) [UInt8.ofNat kind.toNat] hN11 ls.length (by omega) (by simp)).mono ?_
  rintro _ w12 ⟨_, rfl, a12, c12, rfl, h12⟩
  have d1 := digitsL_len10 (n := ls.length) (by omega)
  rw [wrap_u64_id (by omega) (by omega)]
  refine ⟨_, _, _, rfl, (wire_Number_ok _ h12.rd (nullsN ls) (by omega) (by simp; omega)).mono ?_⟩
  rintro _ w13 ⟨_, rfl, a13, c13, rfl, h13⟩
  have C12 := below_trans C11 h12.bel
  have h13' := h13.before C12
  have hhead : [UInt8.ofNat kind.toNat] ++ digitsL ls.length ++ digitsL (nullsN ls) = headL kind ls := rfl
  rw [hhead] at h13' ⊢
  have hhl := headL_len hg
  have hml := maskL_len hg
  refine ⟨_, _, _, rfl, fun s w17 => ∃ (b : List UInt8) (ab : Option Addr) (cb : Nat), s = [.slice ab b.length cb] ∧ b = headL kind ls ++ maskL ls ∧ NewB w w17 b ab cb, ?_, ?_⟩
  · refine ⟨fun s w14 => ∃ t : Bool, s = [.bool t] ∧ w14 = w13 ∧ (t = true ↔ 0 < nullsN ls ∧ nullsN ls < ls.length), ?_, ?_⟩
    · refine IFB_dec (fun h => ⟨_, rfl, rfl, by simp; omega⟩) (fun h => ⟨_, rfl, rfl, by simp; omega⟩)
    rintro _ w14 ⟨t, hst, rfl, ht⟩
    cases hst
    refine IFB_of (fun h => ?_) (fun h => ?_)
    · have hcond := ht.1 h
      have hrd : Rd w14 ba ((bitsN ls).map u64V) := ((h2.row.rd.grown B11).grown h12.bel).grown h13.bel
      refine (pack_Pack_ok (wd := 1) hrd (by omega) (by omega) (bits_lt ls)).mono ?_
      rintro _ w15 ⟨_, rfl, a15, c15, rfl, h15⟩
      have hpl : (packL (bitsN ls) 1).length ≤ 200 := by
        have := maskL_len hg
        unfold maskL at this
        rwa [if_pos hcond] at this
      refine ⟨_, _, _, _, rfl, append_bytes (h13'.grown h15.bel).row h15.rd (by omega) fun a16 c16 w16 R16 K16 N16 => ⟨_, _, _, rfl, _, a16, c16, rfl, ?_, h13'.appended h15.bel R16 K16 N16⟩⟩
      unfold maskL
      rw [if_pos hcond]
    · have hcond : ¬ (0 < nullsN ls ∧ nullsN ls < ls.length) := fun hh => by rw [ht.2 hh] at h; cases h
      refine ⟨_, a13, c13, rfl, ?_, h13'⟩
      unfold maskL
      rw [if_neg hcond, List.append_nil]
  rintro ab _ cb w17 ⟨b, _, _, hst, hb, h17⟩
  cases hst
  have hbl2 : b.length ≤ 221 := by rw [hb, List.length_append]; omega
  refine ⟨fun s w20 => ∃ (o b2 : List UInt8) (ab : Option Addr) (cb : Nat), s = [.slice ab b2.length cb] ∧ b2 = b ++ o ∧ o.length ≤ 2000000 ∧ (nullsN ls < ls.length → OthIs kind ls o) ∧ (¬ nullsN ls < ls.length → o = []) ∧ NewB w w20 b2 ab cb, ?_, ?_⟩
  · refine IFB_dec (fun h => ?_) (fun h => ⟨[], b, ab, cb, rfl, by simp, by simp, fun hh => absurd hh (by omega), fun _ => rfl, h17⟩)
    refine (chunk_encoded_ok hg (hl.grown h17.bel)).mono ?_
    rintro _ w18 ⟨_, rfl, o, a18, c18, rfl, hO, h18⟩
    have hol := hO.len hg
    refine ⟨_, _, _, rfl, append_bytes (h17.grown h18.bel).row h18.rd (by omega) fun a19 c19 w19 R19 K19 N19 => ⟨_, _, _, rfl, o, _, a19, c19, rfl, rfl, hol, fun _ => hO, fun hh => absurd (by omega) hh, h17.appended h18.bel R19 K19 N19⟩⟩
  rintro ab2 _ cb2 w20 ⟨o, b2, _, _, hst, hb2, hol, ho1, ho2, h20⟩
  cases hst
  have hb2l : b2.length ≤ 2000221 := by rw [hb2, List.length_append]; omega
  refine (SH.start (fun _ => False) w20).newB fun b41 w21 hb41 B21 S21 => ?_
  have hS := wire_Sum_ok (w := w21) (a := some ⟨b41, 0, none⟩) (c := 1) [(ab2, cb2, b2)] (by
    have := Rd.of_block0 (S21.get 0 rfl)
    simpa [partV1] using this) (by
    intro p hp
    rw [List.mem_singleton.1 hp]
    exact h20.rd.grown B21) (by simp) (by
    intro p hp
    rw [List.mem_singleton.1 hp]
    simp only
    omega)
  refine hS.mono ?_
  rintro _ w22 ⟨_, rfl, rfl, rfl⟩
  have ef : ([(ab2, cb2, b2)] : List PartB).flatMap (·.2.2) = b2 := by simp
  rw [ef]
  refine ⟨_, rfl, (SH.start (fun _ => False) w22).newB fun b44 w23 hb44 B23 S23 => ?_⟩
  have hR := sealed_bytes (crc b2) w23 b44 _ (S23.get 0 rfl)
  have h23 := (h20.grown B21).grown B23
  refine append_bytes (m := sum4 (crc b2)) h23.row hR (by simp [sum4]; omega) fun a24 c24 w24 R24 K24 N24 => ⟨_, _, _, rfl, .inr ⟨hr, _, a24, c24, ⟨o, ho1, ho2, ?_⟩, rfl, h20.appended (below_trans B21 B23) R24 K24 N24⟩⟩
  rw [hb2, hb]
theorem ref08_Encode_ok (kind : Int) (hl : Rd w a (valsL ls)) (hn : ls.length ≤ 9223372036854775807) (hv : ∀ v ∈ ls, ValOk v) :
    Calls Try.prog f.ref08_Encode #[.int .i64 kind, .slice a ls.length c] w (Ret fun v w' => ChV kind ls w w' v) := by
  apply R.ref08_Encode_calls
  unfold R.ref08_Encode
  refine (ref08_Right_ok kind hl hn).mono ?_
  rintro _ w1 ⟨_, rfl, rfl, B1⟩
  refine ⟨_, rfl, IFB_not (IFB_of (fun hr => ?_) (fun hr => .inl ⟨hr, rfl, B1⟩))⟩
  have hg : Good1 kind ls := ⟨hr, hv⟩
  have hlen := hg.len
  have hk := hg.kind
  have hnl := nullsN_le ls
  refine (ref08_nulls_ok (hl.grown B1) (by omega)).mono ?_
  rintro _ w2 ⟨_, rfl, rfl, rfl⟩
  have hbl : (bitsN ls).length = ls.length := by simp [bitsN]
  rw [wrap_u8_id (by omega) (by omega)]
  refine ⟨_, rfl, (SH.start (fun _ => False) w2).newB fun b21 w11 hb21 B11 S11 => ?_⟩
  have C11 := below_trans B1 B11
  have hN11 : Rd w11 (some ⟨b21, 0, none⟩) ([UInt8.ofNat kind.toNat].map byteV) := by
    have := Rd.of_block0 (S11.get 0 rfl)
    have e : Value.int .u8 kind = byteV (UInt8.ofNat kind.toNat) := by
      have := byteV_of (x := kind.toNat) (by omega)
      rw [← this]
      congr 1
      omega
    simpa [e] using this
  rw [wrap_u64_id (by omega) (by omega)]
  refine (ref_Number_ok (c := 1) [UInt8.ofNat kind.toNat] hN11 ls.length (by omega) (by simp)).mono ?_
  rintro _ w12 ⟨_, rfl, a12, c12, rfl, h12⟩
  have d1 := digitsL_len10 (n := ls.length) (by omega)
  rw [wrap_u64_id (by omega) (by omega)]
  refine ⟨_, _, _, rfl, (ref_Number_ok _ h12.rd (nullsN ls) (by omega) (by simp; omega)).mono ?_⟩
  rintro _ w13 ⟨_, rfl, a13, c13, rfl, h13⟩
  have C12 := below_trans C11 h12.bel
  have h13' := h13.before C12
  have hhead : [UInt8.ofNat kind.toNat] ++ digitsL ls.length ++ digitsL (nullsN ls) = headL kind ls := rfl
  rw [hhead] at h13' ⊢
  have hhl := headL_len hg
  have hml := maskL_len hg
  refine ⟨_, _, _, rfl, fun s w17 => ∃ (b : List UInt8) (ab : Option Addr) (cb : Nat), s = [.slice ab b.length cb] ∧ b = headL kind ls ++ maskL ls ∧ NewB w w17 b ab cb, ?_, ?_⟩
  · refine ⟨fun s w14 => ∃ t : Bool, s = [.bool t] ∧ w14 = w13 ∧ (t = true ↔ 0 < nullsN ls ∧ nullsN ls < ls.length), ?_, ?_⟩
    · refine IFB_dec (fun h => ⟨_, rfl, rfl, by simp; omega⟩) (fun h => ⟨_, rfl, rfl, by simp; omega⟩)
    rintro _ w14 ⟨t, hst, rfl, ht⟩
    cases hst
    refine IFB_of (fun h => ?_) (fun h => ?_)
    · have hcond := ht.1 h
      have hpl : (packL (bitsN ls) 1).length ≤ 200 := by
        have := maskL_len hg
        unfold maskL at this
        rwa [if_pos hcond] at this
      refine ⟨fun s w2 => ∃ (i : Nat) (ba : Option Addr) (bc : Nat), s = [.slice ba (bitsN (ls.take i)).length bc, .int .i64 (i : Int)] ∧ i ≤ ls.length ∧ NewU w14 w2 (bitsN (ls.take i)) ba bc, fun s _ => match s with
          | [_, .int _ i] => ls.length - i.toNat
          | _ => 0, ⟨0, none, 0, rfl, by omega, NewU.nil w14⟩, ?_⟩
      rintro ba _ bc _ w7 ⟨i, _, _, hst, hi, h2⟩
      cases hst
      have C2 := below_trans h13'.bel h2.bel
      refine IFB_dec (fun hlt => ⟨⟨by omega, hlt⟩, ?_⟩) (fun hge => ?_)
      · have hil : i < ls.length := by omega
        obtain ⟨p, rfl, c0, c1, c2⟩ := val_at (hl.grown C2) hil
        have hbl : (bitsN (ls.take i)).length ≤ 1024 := by simp [bitsN]; omega
        have mes : ls.length - ((i + 1 : Nat) : Int).toNat < ls.length - ((i : Nat) : Int).toNat := by
          simp only [Int.toNat_natCast]
          omega
        refine ⟨_, by rw [Int.toNat_natCast]; exact c0, ?_⟩
        rw [wrap_succ (by omega)]
        refine IFB_eq (fun hz => ?_) (fun hz => ?_)
        · refine (SH.start (fun _ => False) w7).newB fun b15 w8 hb15 B7 S7 => append_u64 (h2.grown B7) (by omega) (x := 1) rfl (S7.get 0 rfl) fun a8 c8 w8 h8 => ⟨_, _, _, rfl, ⟨i + 1, a8, c8, ?_, by omega, ?_⟩, mes⟩
          · rw [bitsN_take hil, if_pos hz]
          · rw [bitsN_take hil, if_pos hz]; exact h8
        · refine (SH.start (fun _ => False) w7).newB fun b15 w8 hb15 B7 S7 => append_u64 (h2.grown B7) (by omega) (x := 0) rfl (S7.get 0 rfl) fun a8 c8 w8 h8 => ⟨_, _, _, rfl, ⟨i + 1, a8, c8, ?_, by omega, ?_⟩, mes⟩
          · rw [bitsN_take hil, if_neg hz]
          · rw [bitsN_take hil, if_neg hz]; exact h8
      have hie : ls.take i = ls := List.take_of_length_le (by omega)
      rw [hie] at h2 ⊢
      refine (ref_Pack_ok (wd := 1) h2.row.rd (by omega) (by omega) (bits_lt ls)).mono ?_
      rintro _ w15 ⟨_, rfl, a15, c15, rfl, h15⟩
      refine ⟨_, _, _, _, rfl, append_bytes (h13'.grown (below_trans h2.bel h15.bel)).row h15.rd (by omega) fun a16 c16 w16 R16 K16 N16 => ⟨_, _, _, rfl, _, a16, c16, rfl, ?_, h13'.appended (below_trans h2.bel h15.bel) R16 K16 N16⟩⟩
      unfold maskL
      rw [if_pos hcond]
    · have hcond : ¬ (0 < nullsN ls ∧ nullsN ls < ls.length) := fun hh => by rw [ht.2 hh] at h; cases h
      refine ⟨_, a13, c13, rfl, ?_, h13'⟩
      unfold maskL
      rw [if_neg hcond, List.append_nil]
  rintro ab _ cb w17 ⟨b, _, _, hst, hb, h17⟩
  cases hst
  have hbl2 : b.length ≤ 221 := by rw [hb, List.length_append]; omega
  refine ⟨fun s w20 => ∃ (o b2 : List UInt8) (ab : Option Addr) (cb : Nat), s = [.slice ab b2.length cb] ∧ b2 = b ++ o ∧ o.length ≤ 2000000 ∧ (nullsN ls < ls.length → OthIs kind ls o) ∧ (¬ nullsN ls < ls.length → o = []) ∧ NewB w w20 b2 ab cb, ?_, ?_⟩
  · refine IFB_dec (fun h => ?_) (fun h => ⟨[], b, ab, cb, rfl, by simp, by simp, fun hh => absurd hh (by omega), fun _ => rfl, h17⟩)
    refine (ref08_others_ok hg (hl.grown h17.bel)).mono ?_
    rintro _ w18 ⟨_, rfl, o, a18, c18, rfl, hO, h18⟩
    have hol := hO.len hg
    refine ⟨_, _, _, rfl, append_bytes (h17.grown h18.bel).row h18.rd (by omega) fun a19 c19 w19 R19 K19 N19 => ⟨_, _, _, rfl, o, _, a19, c19, rfl, rfl, hol, fun _ => hO, fun hh => absurd (by omega) hh, h17.appended h18.bel R19 K19 N19⟩⟩
  rintro ab2 _ cb2 w20 ⟨o, b2, _, _, hst, hb2, hol, ho1, ho2, h20⟩
  cases hst
  have hb2l : b2.length ≤ 2000221 := by rw [hb2, List.length_append]; omega
  refine (ref02_Sum_ok b2 h20.rd (by omega)).mono ?_
  rintro _ w22 ⟨_, rfl, rfl, rfl⟩
  refine ⟨_, rfl, (SH.start (fun _ => False) w22).newB fun b44 w23 hb44 B23 S23 => ?_⟩
  have hR := sealed_bytes (crc b2) w23 b44 _ (S23.get 0 rfl)
  have h23 := h20.grown B23
  refine append_bytes (m := sum4 (crc b2)) h23.row hR (by simp [sum4]; omega) fun a24 c24 w24 R24 K24 N24 => ⟨_, _, _, rfl, .inr ⟨hr, _, a24, c24, ⟨o, ho1, ho2, ?_⟩, rfl, h20.appended B23 R24 K24 N24⟩⟩
  rw [hb2, hb]
end
end Go.Proofs.Ytbkffpcgppecgaa

/-
  The law ChunkWords.
-/
namespace Go.Proofs.Ytbkffpcgppecgaa
open Go.Dn Go.Proofs
open Go.RowKit (Below)
set_option linter.unusedVariables false
set_option maxRecDepth 20000
theorem best_zero {s : Nat → Nat} (h1 : s 0 ≤ s 1) (h2 : s 0 ≤ s 2) (h3 : s 0 ≤ s 3) : bestTo s 4 = 0 := by
  obtain ⟨q1, q2, q3⟩ := bestTo_spec s 4 (by omega)
  rcases (by omega : bestTo s 4 = 0 ∨ bestTo s 4 = 1 ∨ bestTo s 4 = 2 ∨ bestTo s 4 = 3) with e | e | e | e
  · exact e
  · have := q3 0 (by omega); rw [e] at this; omega
  · have := q3 0 (by omega); rw [e] at this; omega
  · have := q3 0 (by omega); rw [e] at this; omega
def showVals : List Val := [(2, 1, E0), (0, 0, E0)]
theorem sig1 : sigL 1 = [2] := by
  have : zigN 1 = 2 := by decide
  unfold sigL
  rw [this, digitsL_small (by decide)]
  rfl
theorem show_ints : intsL (bestN [1]) [1] = [0, 2] := by
  have s0 : intsL 0 [1] = [0, 2] := by simp [intsL, sig1]
  have hb : bestN [1] = 0 := by
    refine best_zero ?_ ?_ ?_
    · have : sizeI [1] 1 = (runsL [1]).length + 1 := rfl
      rw [this]
      have hd := List.length_pos_iff.2 (digitsL_pos (0 + 1))
      have : 1 ≤ (runsL [1]).length := by
        unfold runsL
        simp only [List.takeWhile_nil, List.length_nil, List.length_append]
        omega
      unfold sizeI
      rw [s0]
      simp only [List.length_cons, List.length_nil]
      omega
    · unfold sizeI
      rw [s0]
      simp [intsL, packedL]
      omega
    · unfold sizeI
      rw [s0]
      simp [intsL, packedL]
      omega
  rw [hb, s0]
theorem show_body : ∃ r, r.length = 4 ∧ ChIs 2 showVals ([2, 2, 1, 2, 0, 2] ++ r) := by
  refine ⟨sum4 (crc [2, 2, 1, 2, 0, 2]), rfl, ⟨[0, 2], fun _ => ?_, fun h => absurd (by decide) h, ?_⟩⟩
  · have := OthIs.num (kind := 2) (ls := showVals) (by decide)
    have e : numsL showVals = [1] := by decide
    rw [e, show_ints] at this
    exact this
  · have h1 : headL 2 showVals = [2, 2, 1] := by
      have e1 : showVals.length = 2 := rfl
      have e2 : nullsN showVals = 1 := by decide
      unfold headL
      rw [e1, e2, digitsL_small (by decide), digitsL_small (by decide)]
      rfl
    have h2 : maskL showVals = [2] := by decide
    rw [h1, h2]
    rfl
theorem valok_small {v : Val} (h1 : -10 ≤ v.2.1) (h2 : v.2.1 ≤ 10) : ValOk v := ⟨by omega, by omega⟩
theorem shown_ok (w : World) : Calls Try.prog f.law08_shown #[] w (Ret fun r w' => r = .bool true ∧ Below w.heap.size w w') := by
  apply R.law08_shown_calls
  unfold R.law08_shown
  refine (SH.start (fun _ => False) w).newB fun b1 w1 hb B1 S1 => ?_
  have hl : Rd w1 (some ⟨b1, 0, none⟩) (valsL showVals) := by
    have := Rd.of_block0 (S1.get 0 rfl)
    simpa [showVals, valC] using this
  refine (chunk_Encode_ok (c := 2) 2 hl (by decide) (by
    intro v hv
    simp only [showVals, List.mem_cons, List.not_mem_nil, or_false] at hv
    rcases hv with rfl | rfl <;> exact valok_small (by decide) (by decide))).mono ?_
  rintro _ w2 ⟨_, rfl, h2⟩
  rcases h2 with ⟨hr, _⟩ | ⟨hr, bs, a2, c2, hI, rfl, h2⟩
  · exact absurd hr (by decide)
  obtain ⟨r, hr4, hI'⟩ := show_body
  obtain rfl := hI.one hI'
  have hlen : ([2, 2, 1, 2, 0, 2] ++ r).length = 10 := by simp [hr4]
  have hc10 : 10 ≤ c2 := by have := h2.row.le; omega
  refine ⟨_, _, _, _, rfl, IFB_eq (fun _ => IFB_eq (fun _ => ⟨⟨by omega, by omega, by omega⟩, ?_⟩) (fun h => absurd (by rw [hlen]; rfl) h)) (fun h => absurd rfl h)⟩
  have hsl : Rd w2 (SLA a2 0 c2 1) (([2, 2, 1, 2, 0, 2] : List UInt8).map byteV) := by
    have := h2.rd.sla 0 6 c2 1 (by omega)
    simpa using this
  refine string_of_bytes tbytes rfl hsl ⟨_, rfl, ?_, below_trans B1 h2.bel⟩
  rw [bytesEq_iff]
  congr 1
theorem ChV.open {kind : Int} {ls : List Val} {w w' : World} {r : Value} (h : ChV kind ls w w' r) : ∃ (bs : List UInt8) (a : Option Addr) (c : Nat) (e : Int), r = .tuple #[.slice a bs.length c, .int .i64 e] ∧ Rd w' a (bs.map byteV) ∧ Below w.heap.size w w' ∧ ((rightL kind ls = true ∧ ChIs kind ls bs ∧ e = 0) ∨ (rightL kind ls = false ∧ bs = [] ∧ e = 2)) := by
  rcases h with ⟨h1, rfl, hb⟩ | ⟨h1, b, a, c, h2, rfl, h3⟩
  · exact ⟨[], none, 0, 2, rfl, Rd.nil _ _, hb, .inr ⟨h1, rfl, rfl⟩⟩
  · exact ⟨b, a, c, 0, rfl, h3.rd, h3.bel, .inl ⟨h1, h2, rfl⟩⟩
theorem ChunkWords_core {w : World} {a : Option Addr} {c : Nat} {ls : List Val} (kind : Int) (hl : Rd w a (valsL ls)) (hn : ls.length ≤ 9223372036854775807) (hv : ∀ v ∈ ls, ValOk v) :
    Calls Try.prog f.law08_ChunkWords #[.int .i64 kind, .slice a ls.length c] w (Ret fun r w' => r = .bool true ∧ Below w.heap.size w w') := by
  apply R.law08_ChunkWords_calls
  unfold R.law08_ChunkWords
  refine (shown_ok w).mono ?_
  rintro _ w1 ⟨_, rfl, rfl, B1⟩
  refine ⟨_, rfl, (chunk_Encode_ok kind (hl.grown B1) hn hv).mono ?_⟩
  rintro _ w2 ⟨_, rfl, h2⟩
  obtain ⟨b2, a2, c2, e2, rfl, R2, B2, q2⟩ := h2.open
  have C2 := below_trans B1 B2
  refine ⟨_, _, _, _, rfl, (ref08_Encode_ok kind (hl.grown C2) hn hv).mono ?_⟩
  rintro _ w3 ⟨_, rfl, h3⟩
  obtain ⟨b3, a3, c3, e3, rfl, R3, B3, q3⟩ := h3.open
  have C3 := below_trans C2 B3
  have hone : b2 = b3 ∧ e2 = e3 := by
    rcases q2 with ⟨h1, u2, rfl⟩ | ⟨h1, rfl, rfl⟩ <;> rcases q3 with ⟨g1, g2, rfl⟩ | ⟨g1, rfl, rfl⟩
    · exact ⟨u2.one g2, rfl⟩
    · rw [h1] at g1; cases g1
    · rw [h1] at g1; cases g1
    · exact ⟨rfl, rfl⟩
  obtain ⟨rfl, rfl⟩ := hone
  refine ⟨_, _, _, _, rfl, IFB_true (string_of_bytes tbytes rfl (R2.grown B3) ⟨_, rfl, string_of_bytes tbytes rfl R3 ⟨_, rfl, ?_⟩⟩)⟩
  rw [bytesEq_iff]
  exact IFB_dec (fun _ => ⟨by simp, C3⟩) (fun h => absurd rfl h)
theorem vals_arg {w : World} {a : Option Addr} {xs : List Val} {c : Nat} (g : GL w valC valQ a xs c) : Rd w a (valsL xs) ∧ xs.length ≤ 9223372036854775807 ∧ ∀ v ∈ xs, ValOk v :=
  ⟨g.2.2.2.1, Nat.le_trans (Nat.le_trans g.1 g.2.1) (by decide), fun v hv => (g.2.2.2.2 v hv).1⟩
theorem ChunkWords_ok (w : World) (kind : Int) (a : Option Addr) (xs : List Val) (c : Nat) (g : GL w valC valQ a xs c) :
    Calls Try.prog f.law08_ChunkWords #[.int .i64 kind, .slice a xs.length c] w (Ret fun r w' => r = .bool true ∧ Below w.heap.size w w') := by
  obtain ⟨h1, h2, h3⟩ := vals_arg g
  exact ChunkWords_core kind h1 h2 h3
end Go.Proofs.Ytbkffpcgppecgaa

/-
  DERIVED: THE SHELF's CONTRACTS AT THIS DUMP, IN PLAIN WORDS (tools/lay-plain.mjs out of 'YtbkffpcgppecgaaLayTmp.lean', which tools/lay-shelf.mjs wrote): THE SAME DECLARATIONS UNDER THE SAME NAMES: 'import', 'namespace', 'open', 'def', 'theorem' AND NOTHING ELSE: no command of the shelf's: FOR A HAND-IN. Each laying: the table of numbers ('.._ren') and one theorem, a field a fact of the dump's own or the kernel's comparison; each contract: ONE APPLICATION.
-/
namespace Go.Proofs
open Go.Shelf
def Try.lays106_ren : Go.Shelf.Ren := ⟨fun | 106 => 53 | 213 => 84 | 265 => 97 | n => n, fun | 9 => 9 | 3 => 3 | n => n, fun | n => n⟩
theorem Try.lays106 : Go.Proofs.Lays.n106 Try.prog Try.lays106_ren := {
  mixed := by kernel_rfl
  f106 := Try.func53.trans (congrArg some (by kernel_rfl))
  f213 := Try.func84.trans (congrArg some (by kernel_rfl))
  f265 := Try.func97.trans (congrArg some (by kernel_rfl))
  t3 := Try.underlying3
  a3 := Try.isAgg3
  z3 := Try.sizeOf3
  v3 := Try.zeroValue3
  t9 := Try.underlying9
  a9 := Try.isAgg9
  z9 := Try.sizeOf9
  v9 := Try.zeroValue9 }
open Go.RowKit in
theorem Try.strings_Compare (a b : ByteArray) (w : World) :
    Calls Try.prog 53 #[.string a, .string b] w fun e w' => e = .returned (.int .i64 (Lib.compareBytes a.data.toList b.data.toList)) ∧ w' = w := Any.strings_Compare Try.lays106 a b w
end Go.Proofs

/-
  Values: which may be, how two stand, which text one is.
-/
namespace Go.Proofs.Ytbkffpcgppecgaa
open Go.Dn Go.Proofs
open Go.RowKit (Below)
set_option linter.unusedVariables false
set_option maxRecDepth 20000

/-! ### the order -/
def compI (x y : Int) : Int := if x < y then -1 else if x > y then 1 else 0
def cmpV (a b : Val) : Int :=
  if compI a.1 b.1 ≠ 0 then compI a.1 b.1 else if compI a.2.1 b.2.1 ≠ 0 then compI a.2.1 b.2.1 else Lib.compareBytes (bl a.2.2) (bl b.2.2)

theorem cmp_isNaN64 (w : World) (x : Int) : Calls Try.prog f.cmp_isNaN_int64 #[.int .i64 x] w (Ret fun r w' => r = .bool false ∧ w' = w) := by
  apply R.cmp_isNaN_int64_calls
  exact ⟨by simp, rfl⟩
theorem cmp_Compare64 (w : World) (x y : Int) : Calls Try.prog f.cmp_Compare_int64 #[.int .i64 x, .int .i64 y] w (Ret fun r w' => r = .int .i64 (compI x y) ∧ w' = w) := by
  apply R.cmp_Compare_int64_calls
  unfold R.cmp_Compare_int64
  refine (cmp_isNaN64 w x).mono ?_
  rintro _ w ⟨_, rfl, rfl, rfl⟩
  refine ⟨_, rfl, (cmp_isNaN64 w y).mono ?_⟩
  rintro _ w ⟨_, rfl, rfl, rfl⟩
  refine ⟨_, rfl, IFB_false (IFB_false (IFB_dec (fun h => ⟨?_, rfl⟩) (fun h => IFB_dec (fun h2 => ⟨?_, rfl⟩) (fun h2 => ⟨?_, rfl⟩))))⟩
  · simp [compI, h]
  · simp [compI, h, h2]
  · simp [compI, h, h2]
theorem cmp_isNaNI (w : World) (x : Int) : Calls Try.prog f.cmp_isNaN_int #[.int .i64 x] w (Ret fun r w' => r = .bool false ∧ w' = w) := by
  apply R.cmp_isNaN_int_calls
  unfold R.cmp_isNaN_int
  exact ⟨by simp, rfl⟩
theorem cmpInt (x y : Int) (w : World) : Calls Try.prog f.cmp_Compare_int #[.int .i64 x, .int .i64 y] w fun e w' => e = .returned (.int .i64 (compI x y)) ∧ w' = w := by
  have h : Calls Try.prog f.cmp_Compare_int #[.int .i64 x, .int .i64 y] w (Ret fun r w' => r = .int .i64 (compI x y) ∧ w' = w) := by
    apply R.cmp_Compare_int_calls
    unfold R.cmp_Compare_int
    refine (cmp_isNaNI w x).mono ?_
    rintro _ w ⟨_, rfl, rfl, rfl⟩
    refine ⟨_, rfl, (cmp_isNaNI w y).mono ?_⟩
    rintro _ w ⟨_, rfl, rfl, rfl⟩
    refine ⟨_, rfl, IFB_false (IFB_false (IFB_dec (fun h => ⟨?_, rfl⟩) (fun h => IFB_dec (fun h2 => ⟨?_, rfl⟩) (fun h2 => ⟨?_, rfl⟩))))⟩
    · simp [compI, h]
    · simp [compI, h, h2]
    · simp [compI, h, h2]
  refine h.mono ?_
  rintro _ _ ⟨_, rfl, rfl, rfl⟩
  exact ⟨rfl, rfl⟩
theorem cmp_Or3 {w : World} {b : Nat} {t : TypeId} (x y z : Int) (hb : w.heap[b]? = some (.cells #[.int .i64 x, .int .i64 y, .int .i64 z] t (0, 0))) :
    Calls Try.prog f.cmp_Or_int #[.slice (some ⟨b, 0, none⟩) 3 3] w (Ret fun r w' => r = .int .i64 (if x ≠ 0 then x else if y ≠ 0 then y else z) ∧ w' = w) := by
  apply R.cmp_Or_int_calls
  unfold R.cmp_Or_int
  have cell : ∀ (k : Nat) (v : Value), [Value.int .i64 x, .int .i64 y, .int .i64 z][k]? = some v → w.cell? ((⟨b, 0, none⟩ : Addr).add ((k : Int).toNat * 1)) = some v := by
    intro k v hv
    rw [Int.toNat_natCast, Nat.mul_one, addr_add_blk, Nat.zero_add]
    simp only [World.cell?, hb]
    simpa using hv
  refine ⟨fun s w1 => w1 = w ∧ (s = [.int .i64 ((0 : Nat) : Int)] ∨ (s = [.int .i64 ((1 : Nat) : Int)] ∧ x = 0) ∨ (s = [.int .i64 ((2 : Nat) : Int)] ∧ x = 0 ∧ y = 0) ∨ (s = [.int .i64 ((3 : Nat) : Int)] ∧ x = 0 ∧ y = 0 ∧ z = 0)),
    fun s _ => match s with
      | [.int _ i] => 3 - i.toNat
      | _ => 0, ⟨rfl, .inl rfl⟩, ?_⟩
  rintro i w1 ⟨rfl, hs⟩
  rcases hs with hs | ⟨hs, h0⟩ | ⟨hs, h0, h1⟩ | ⟨hs, h0, h1, h2⟩
  · cases hs
    refine IFB_true ⟨by decide, _, cell 0 _ rfl, IFB_ne (fun h => ⟨by rw [if_pos h], rfl⟩) (fun h => ?_)⟩
    rw [wrap_succ (by omega)]
    exact ⟨⟨rfl, .inr (.inl ⟨rfl, h⟩)⟩, show 2 < 3 by decide⟩
  · cases hs
    refine IFB_true ⟨by decide, _, cell 1 _ rfl, IFB_ne (fun h => ⟨by rw [if_neg (by omega), if_pos h], rfl⟩) (fun h => ?_)⟩
    rw [wrap_succ (by omega)]
    exact ⟨⟨rfl, .inr (.inr (.inl ⟨rfl, h0, h⟩))⟩, show 1 < 2 by decide⟩
  · cases hs
    refine IFB_true ⟨by decide, _, cell 2 _ rfl, IFB_ne (fun h => ⟨by rw [if_neg (by omega), if_neg (by omega)], rfl⟩) (fun h => ?_)⟩
    rw [wrap_succ (by omega)]
    exact ⟨⟨rfl, .inr (.inr (.inr ⟨rfl, h0, h1, h⟩))⟩, show 0 < 1 by decide⟩
  · cases hs
    exact IFB_false ⟨by rw [if_neg (by omega), if_neg (by omega), h2], rfl⟩

theorem value_Compare_ok (w : World) (a b : Val) : Calls Try.prog f.value_Compare #[valV a, valV b] w (Ret fun r w' => r = .int .i64 (cmpV a b) ∧ Below w.heap.size w w') := by
  apply R.value_Compare_calls
  unfold R.value_Compare
  refine (SH.start (fun _ => False) w).newB fun b7 w1 hb7 B1 S1 => S1.newB fun b8 w2 hb8 B2 S2 => S2.drawB fun w3 B3 S3 => ?_
  refine ⟨_, S3.cell 1 rfl rfl, _, S3.cell 0 rfl rfl, _, S3.cell 1 rfl rfl, _, S3.cell 0 rfl rfl, _, S3.cell 1 rfl rfl, _, S3.cell 0 rfl rfl, (cmpInt _ _ w3).mono ?_⟩
  rintro _ w3 ⟨rfl, rfl⟩
  refine ⟨_, rfl, S3.cell 0 rfl rfl, S3.cell 1 rfl rfl, S3.cell 0 rfl rfl, S3.cell 1 rfl rfl, (cmp_Compare64 w3 _ _).mono ?_⟩
  rintro _ w3 ⟨_, rfl, rfl, rfl⟩
  refine ⟨_, rfl, S3.cell 0 rfl rfl, S3.cell 1 rfl rfl, (Try.strings_Compare _ _ w3).mono ?_⟩
  rintro _ w3 ⟨rfl, rfl⟩
  refine ⟨_, rfl, S3.newB fun b21 w7 hb21 B7 S7 => (cmp_Or3 _ _ _ (S7.get 0 rfl)).mono ?_⟩
  rintro _ w7 ⟨_, rfl, rfl, rfl⟩
  exact ⟨_, rfl, rfl, S7.below⟩

def lessV (a b : Val) : Bool := if a.1 ≠ b.1 then decide (a.1 < b.1) else if a.1 = 3 then bytesLt a.2.2 b.2.2 else decide (a.2.1 < b.2.1)
theorem ref_less_ok (w : World) (a b : Val) : Calls Try.prog f.ref04_less #[valV a, valV b] w (Ret fun r w' => r = .bool (lessV a b) ∧ Below w.heap.size w w') := by
  apply R.ref04_less_calls
  unfold R.ref04_less
  refine (SH.start (fun _ => False) w).newB fun b7 w1 hb7 B1 S1 => S1.newB fun b8 w2 hb8 B2 S2 => ?_
  refine ⟨_, S2.cell 1 rfl rfl, _, S2.cell 0 rfl rfl, IFB_ne (fun h => ⟨_, S2.cell 1 rfl rfl, _, S2.cell 0 rfl rfl, by simp [lessV, h], S2.below⟩) (fun h => ⟨_, S2.cell 1 rfl rfl, IFB_eq (fun h3 => ⟨_, S2.cell 1 rfl rfl, _, S2.cell 0 rfl rfl, ?_, S2.below⟩) (fun h3 => ⟨_, S2.cell 1 rfl rfl, _, S2.cell 0 rfl rfl, ?_, S2.below⟩)⟩)⟩
  · simp only [lessV]; rw [if_neg (by simp [h]), if_pos h3]
  · simp only [lessV]; rw [if_neg (by simp [h]), if_neg h3]
def rcmpV (a b : Val) : Int := if lessV a b = true then -1 else if lessV b a = true then 1 else 0
theorem ref_Compare_ok (w : World) (a b : Val) : Calls Try.prog f.ref04_Compare #[valV a, valV b] w (Ret fun r w' => r = .int .i64 (rcmpV a b) ∧ Below w.heap.size w w') := by
  apply R.ref04_Compare_calls
  unfold R.ref04_Compare
  refine (SH.start (fun _ => False) w).newB fun b7 w1 hb7 B1 S1 => S1.newB fun b8 w2 hb8 B2 S2 => ?_
  refine ⟨_, S2.cell 1 rfl rfl, _, S2.cell 1 rfl rfl, _, S2.cell 1 rfl rfl, _, S2.cell 0 rfl rfl, _, S2.cell 0 rfl rfl, _, S2.cell 0 rfl rfl, (ref_less_ok w2 a b).mono ?_⟩
  rintro _ w3 ⟨_, rfl, rfl, B3⟩
  have S3 := S2.grown B3
  refine ⟨_, rfl, _, S3.cell 0 rfl rfl, _, S3.cell 0 rfl rfl, _, S3.cell 0 rfl rfl, _, S3.cell 1 rfl rfl, _, S3.cell 1 rfl rfl, _, S3.cell 1 rfl rfl, (ref_less_ok w3 b a).mono ?_⟩
  rintro _ w4 ⟨_, rfl, rfl, B4⟩
  refine ⟨_, rfl, IFB_of (fun h => ⟨by simp [rcmpV, h], (S3.grown B4).below⟩) (fun h => IFB_of (fun h2 => ⟨by simp [rcmpV, h, h2], (S3.grown B4).below⟩) (fun h2 => ⟨by simp [rcmpV, h, h2], (S3.grown B4).below⟩))⟩
end Go.Proofs.Ytbkffpcgppecgaa

/-
  The order of values: the laws ValueOrders, ValueOne, ValueNumbers.
-/
namespace Go.Dn
end Go.Dn
namespace Go.Proofs.Ytbkffpcgppecgaa
open Go.Dn Go.Proofs
open Go.RowKit (Below)
set_option linter.unusedVariables false
set_option maxRecDepth 20000

/-! ### orders -/
structure IsOrd {α : Type} (f : α → α → Int) : Prop where
  neg : ∀ x y, f y x = - f x y
  zero : ∀ x y, f x y = 0 ↔ x = y
  trans : ∀ x y z, f x y ≤ 0 → f y z ≤ 0 → f x z ≤ 0
theorem IsOrd.strict {α : Type} {f : α → α → Int} (h : IsOrd f) (x y z : α) (h1 : f x y < 0) (h2 : f y z ≤ 0) : f x z < 0 := by
  have h3 := h.trans x y z (by omega) h2
  rcases Int.lt_or_eq_of_le h3 with h4 | h4
  · exact h4
  · have := (h.zero x z).1 h4
    subst this
    have := h.neg x y
    omega
theorem ord_int : IsOrd compI := by
  refine ⟨fun x y => ?_, fun x y => ?_, fun x y z => ?_⟩
  · unfold compI
    split <;> split <;> (try split) <;> (try split) <;> omega
  · unfold compI
    split
    · constructor <;> intro h <;> omega
    · split
      · constructor <;> intro h <;> omega
      · constructor <;> intro h <;> omega
  · unfold compI
    intro h1 h2
    split at h1 <;> split at h2 <;> split <;> (try split at h1) <;> (try split at h2) <;> (try split) <;> omega
theorem cb_neg : ∀ x y : List UInt8, Lib.compareBytes y x = - Lib.compareBytes x y
  | [], [] => rfl
  | [], _ :: _ => rfl
  | _ :: _, [] => rfl
  | a :: x, b :: y => by
    simp only [Lib.compareBytes]
    by_cases h1 : a < b
    · have h2 : ¬ b < a := fun h => absurd (UInt8.lt_trans h1 h) (UInt8.lt_irrefl a)
      simp [h1, h2]
    · by_cases h2 : b < a
      · simp [h1, h2]
      · simp [h1, h2, cb_neg x y]
theorem u8_eq {a b : UInt8} (h1 : ¬ a < b) (h2 : ¬ b < a) : a = b := UInt8.le_antisymm (UInt8.not_lt.1 h2) (UInt8.not_lt.1 h1)
theorem cb_zero : ∀ x y : List UInt8, Lib.compareBytes x y = 0 ↔ x = y
  | [], [] => by simp [Lib.compareBytes]
  | [], _ :: _ => by simp [Lib.compareBytes]
  | _ :: _, [] => by simp [Lib.compareBytes]
  | a :: x, b :: y => by
    simp only [Lib.compareBytes]
    by_cases h1 : a < b
    · rw [if_pos h1]
      constructor
      · intro h; cases h
      · intro h; cases h; exact absurd h1 (UInt8.lt_irrefl a)
    · rw [if_neg h1]
      by_cases h2 : b < a
      · rw [if_pos h2]
        constructor
        · intro h; cases h
        · intro h; cases h; exact absurd h2 (UInt8.lt_irrefl a)
      · rw [if_neg h2, cb_zero x y, u8_eq h1 h2]
        simp
theorem cb_trans : ∀ x y z : List UInt8, Lib.compareBytes x y ≤ 0 → Lib.compareBytes y z ≤ 0 → Lib.compareBytes x z ≤ 0
  | [], _, [], _, _ => by simp [Lib.compareBytes]
  | [], _, _ :: _, _, _ => by simp [Lib.compareBytes]
  | _ :: _, [], _, h, _ => by simp [Lib.compareBytes] at h
  | _ :: _, _ :: _, [], _, h => by simp [Lib.compareBytes] at h
  | a :: x, b :: y, c :: z, h1, h2 => by
    simp only [Lib.compareBytes] at h1 h2 ⊢
    by_cases e1 : a < b
    · by_cases e2 : b < c
      · rw [if_pos (UInt8.lt_trans e1 e2)]; decide
      · rw [if_neg e2] at h2
        by_cases e3 : c < b
        · rw [if_pos e3] at h2; omega
        · have := u8_eq e2 e3; subst this
          rw [if_pos e1]; decide
    · rw [if_neg e1] at h1
      by_cases e2 : b < a
      · rw [if_pos e2] at h1; omega
      · have := u8_eq e1 e2
        subst this
        rw [if_neg e2] at h1
        by_cases e3 : a < c
        · rw [if_pos e3]; decide
        · rw [if_neg e3] at h2 ⊢
          by_cases e4 : c < a
          · rw [if_pos e4] at h2; omega
          · rw [if_neg e4] at h2 ⊢
            exact cb_trans x y z h1 h2
theorem ord_bytes : IsOrd Lib.compareBytes := ⟨cb_neg, cb_zero, cb_trans⟩
def lexF {α β : Type} (f : α → α → Int) (g : β → β → Int) (x y : α × β) : Int := if f x.1 y.1 ≠ 0 then f x.1 y.1 else g x.2 y.2
theorem IsOrd.lex {α β : Type} {f : α → α → Int} {g : β → β → Int} (hf : IsOrd f) (hg : IsOrd g) : IsOrd (lexF f g) := by
  refine ⟨fun x y => ?_, fun x y => ?_, fun x y z => ?_⟩
  · have h1 := hf.neg x.1 y.1
    have h2 := hg.neg x.2 y.2
    unfold lexF
    split <;> split <;> omega
  · have h1 := hf.zero x.1 y.1
    have h2 := hg.zero x.2 y.2
    unfold lexF
    split
    · rename_i h
      constructor
      · intro e; exact absurd e h
      · intro e; rw [e] at h; exact absurd ((hf.zero _ _).2 rfl) h
    · rename_i h
      have e1 : x.1 = y.1 := h1.1 (by omega)
      rw [h2]
      constructor
      · intro e; exact Prod.ext e1 e
      · intro e; rw [e]
  · unfold lexF
    intro a b
    by_cases h1 : f x.1 y.1 = 0
    · have e1 := (hf.zero _ _).1 h1
      rw [if_neg (by omega)] at a
      rw [← e1] at b
      by_cases h2 : f x.1 z.1 = 0
      · rw [if_neg (by omega)] at b ⊢
        exact hg.trans _ _ _ a b
      · rw [if_pos h2] at b ⊢
        exact b
    · rw [if_pos h1] at a
      by_cases h2 : f y.1 z.1 = 0
      · have e2 := (hf.zero _ _).1 h2
        rw [← e2, if_pos h1]
        exact a
      · rw [if_pos h2] at b
        have := hf.strict x.1 y.1 z.1 (by omega) b
        rw [if_pos (by omega)]
        omega
def cmpT (a b : Val) : Int := lexF compI (lexF compI (fun s t => Lib.compareBytes (bl s) (bl t))) a b
theorem cmpV_eq (a b : Val) : cmpV a b = cmpT a b := by
  simp only [cmpV, cmpT, lexF]
theorem ord_str : IsOrd (fun s t : ByteArray => Lib.compareBytes (bl s) (bl t)) :=
  ⟨fun x y => cb_neg _ _, fun x y => (cb_zero _ _).trans ⟨fun h => bl_inj h, fun h => by rw [h]⟩, fun x y z => cb_trans _ _ _⟩
theorem ord_val : IsOrd cmpV := by
  have : cmpV = cmpT := by funext a b; exact cmpV_eq a b
  rw [this]
  exact ord_int.lex (ord_int.lex ord_str)
theorem cmpV_small (a b : Val) : -1 ≤ cmpV a b ∧ cmpV a b ≤ 1 := by
  have h1 : ∀ x y, -1 ≤ compI x y ∧ compI x y ≤ 1 := by intro x y; unfold compI; split <;> (try split) <;> decide
  have h2 : ∀ x y, -1 ≤ Lib.compareBytes x y ∧ Lib.compareBytes x y ≤ 1 := by
    intro x
    induction x with
    | nil => intro y; cases y <;> simp [Lib.compareBytes]
    | cons a x ih =>
      intro y
      cases y with
      | nil => simp [Lib.compareBytes]
      | cons b y => simp only [Lib.compareBytes]; split; decide; split; decide; exact ih y
  unfold cmpV
  split
  · exact h1 _ _
  · split
    · exact h1 _ _
    · exact h2 _ _

theorem bytesLess_iff : ∀ x y : List UInt8, Op.bytesLess x y = true ↔ Lib.compareBytes x y < 0
  | [], [] => by simp [Op.bytesLess, Lib.compareBytes]
  | [], _ :: _ => by simp [Op.bytesLess, Lib.compareBytes]
  | _ :: _, [] => by simp [Op.bytesLess, Lib.compareBytes]
  | a :: x, b :: y => by
    simp only [Op.bytesLess, Lib.compareBytes, Bool.or_eq_true, decide_eq_true_eq, Bool.and_eq_true, beq_iff_eq, bytesLess_iff x y]
    by_cases h1 : a < b
    · simp [h1]
    · by_cases h2 : b < a
      · have : a ≠ b := fun e => by subst e; exact UInt8.lt_irrefl a h2
        simp [h1, h2, this]
      · have := u8_eq h1 h2
        simp [this]
theorem bytesLt_iff (s t : ByteArray) : bytesLt s t = true ↔ Lib.compareBytes (bl s) (bl t) < 0 := by
  unfold bytesLt
  rw [ByteArray.toList_eq, ByteArray.toList_eq]
  exact bytesLess_iff _ _

theorem right_empty {v : Val} (h : rightB v = true) (h3 : ¬ v.1 = 3) : v.2.2 = E0 := by
  unfold rightB at h
  split at h
  · simp at h; exact h.2
  · split at h
    · simpa using h
    · split at h
      · simp at h; exact h.2
      · cases h
theorem cmp_ref {a b : Val} (ha : rightB a = true) (hb : rightB b = true) : cmpV a b = rcmpV a b := by
  have hs := cmpV_small a b
  have hneg := ord_val.neg a b
  have key : ∀ x y : Val, rightB x = true → rightB y = true → (lessV x y = true ↔ cmpV x y < 0) := by
    intro x y hx hy
    by_cases h1 : x.1 = y.1
    · have e0 : compI x.1 y.1 = 0 := (ord_int.zero _ _).2 h1
      have c0 : cmpV x y = if compI x.2.1 y.2.1 ≠ 0 then compI x.2.1 y.2.1 else Lib.compareBytes (bl x.2.2) (bl y.2.2) := by unfold cmpV; rw [if_neg (by omega)]
      have l0 : lessV x y = if x.1 = 3 then bytesLt x.2.2 y.2.2 else decide (x.2.1 < y.2.1) := by unfold lessV; rw [if_neg (by omega)]
      rw [c0, l0]
      by_cases h3 : x.1 = 3
      · have h3' : y.1 = 3 := h1 ▸ h3
        rw [if_pos h3]
        unfold rightB at hx hy
        simp [h3] at hx
        simp [h3'] at hy
        have e1 : compI x.2.1 y.2.1 = 0 := (ord_int.zero _ _).2 (by rw [hx.1, hy.1])
        rw [if_neg (by omega)]
        exact bytesLt_iff _ _
      · rw [if_neg h3]
        have e2 : x.2.2 = E0 ∧ y.2.2 = E0 := ⟨right_empty hx h3, right_empty hy (h1 ▸ h3)⟩
        rw [e2.1, e2.2]
        have e3 : Lib.compareBytes (bl E0) (bl E0) = 0 := rfl
        rw [e3]
        unfold compI
        split
        · simp; omega
        · split
          · simp; omega
          · simp; omega
    · have e0 : compI x.1 y.1 ≠ 0 := fun h => h1 ((ord_int.zero _ _).1 h)
      have c0 : cmpV x y = compI x.1 y.1 := by unfold cmpV; rw [if_pos e0]
      have l0 : lessV x y = decide (x.1 < y.1) := by unfold lessV; rw [if_pos h1]
      rw [c0, l0]
      unfold compI at *
      split
      · simp; omega
      · split
        · simp; omega
        · rename_i n1 n2; omega
  unfold rcmpV
  by_cases h1 : lessV a b = true
  · rw [if_pos h1]
    have := (key a b ha hb).1 h1
    omega
  · rw [if_neg h1]
    have n1 : ¬ cmpV a b < 0 := fun h => h1 ((key a b ha hb).2 h)
    by_cases h2 : lessV b a = true
    · rw [if_pos h2]
      have := (key b a hb ha).1 h2
      omega
    · rw [if_neg h2]
      have n2 : ¬ cmpV b a < 0 := fun h => h2 ((key b a hb ha).2 h)
      omega

/-! ### the laws -/
end Go.Proofs.Ytbkffpcgppecgaa

/-
  What a column's values lie between: both sides.
-/
namespace Go.Dn
open Go.RowKit (Below)
section
variable {F : Nat → Prop} {w0 w : World} {H : List Ent}
theorem SH.chg (S : SH F w0 w H) (n : Nat) {b : Nat} {cs cs' : Array Value} {t : TypeId} (hn : H[n]? = some (b, cs, t)) {i : Nat} {v : Value} {k : World → Prop} (hi : i < cs.size) (hc : cs.setIfInBounds i v = cs')
    (hk : ∀ w', Keeps (· = b) w w' → SH F w0 w' (H.set n (b, cs', t)) → k w') : STO ⟨b, i, none⟩ v k w := by
  subst hc
  exact S.stoK n hn hi hk
theorem SH.sto7 (S : SH F w0 w H) (n : Nat) {b : Nat} {x0 x1 x2 x3 x4 x5 x6 v0 v1 v2 v3 v4 v5 v6 : Value} {t : TypeId} (hn : H[n]? = some (b, #[x0, x1, x2, x3, x4, x5, x6], t)) {k : World → Prop}
    (hk : ∀ w', Keeps (· = b) w w' → SH F w0 w' (H.set n (b, #[v0, v1, v2, v3, v4, v5, v6], t)) → k w') :
    STO ⟨b, 0, none⟩ v0 (fun w => STO ⟨b, 1, none⟩ v1 (fun w => STO ⟨b, 2, none⟩ v2 (fun w => STO ⟨b, 3, none⟩ v3 (fun w => STO ⟨b, 4, none⟩ v4 (fun w => STO ⟨b, 5, none⟩ v5 (fun w => STO ⟨b, 6, none⟩ v6 k w) w) w) w) w) w) w := by
  have hlt := (List.getElem?_eq_some_iff.1 hn).1
  have tr : ∀ {a c d : World}, Keeps (· = b) a c → Keeps (· = b) c d → Keeps (· = b) a d := fun h h' => h.trans h' (fun _ _ h => h)
  refine S.chg n hn (cs' := #[v0, x1, x2, x3, x4, x5, x6]) (by simp) rfl fun w1 K1 S1 => ?_
  refine S1.chg n (List.getElem?_set_self hlt) (cs' := #[v0, v1, x2, x3, x4, x5, x6]) (by simp) rfl fun w2 K2 S2 => ?_
  rw [List.set_set] at S2
  refine S2.chg n (List.getElem?_set_self hlt) (cs' := #[v0, v1, v2, x3, x4, x5, x6]) (by simp) rfl fun w3 K3 S3 => ?_
  rw [List.set_set] at S3
  refine S3.chg n (List.getElem?_set_self hlt) (cs' := #[v0, v1, v2, v3, x4, x5, x6]) (by simp) rfl fun w4 K4 S4 => ?_
  rw [List.set_set] at S4
  refine S4.chg n (List.getElem?_set_self hlt) (cs' := #[v0, v1, v2, v3, v4, x5, x6]) (by simp) rfl fun w5 K5 S5 => ?_
  rw [List.set_set] at S5
  refine S5.chg n (List.getElem?_set_self hlt) (cs' := #[v0, v1, v2, v3, v4, v5, x6]) (by simp) rfl fun w6 K6 S6 => ?_
  rw [List.set_set] at S6
  refine S6.chg n (List.getElem?_set_self hlt) (cs' := #[v0, v1, v2, v3, v4, v5, v6]) (by simp) rfl fun w7 K7 S7 => ?_
  rw [List.set_set] at S7
  exact hk w7 (tr (tr (tr (tr (tr (tr K1 K2) K3) K4) K5) K6) K7) S7
theorem SH.stoMin (S : SH F w0 w H) (n : Nat) {b : Nat} {x0 x1 x2 x3 x4 x5 x6 v1 v2 v3 : Value} {t : TypeId} (hn : H[n]? = some (b, #[x0, x1, x2, x3, x4, x5, x6], t)) {k : World → Prop}
    (hk : ∀ w', Keeps (· = b) w w' → SH F w0 w' (H.set n (b, #[x0, v1, v2, v3, x4, x5, x6], t)) → k w') : STO ⟨b, 1, none⟩ v1 (fun w => STO ⟨b, 2, none⟩ v2 (fun w => STO ⟨b, 3, none⟩ v3 k w) w) w := by
  have hlt := (List.getElem?_eq_some_iff.1 hn).1
  have tr : ∀ {a c d : World}, Keeps (· = b) a c → Keeps (· = b) c d → Keeps (· = b) a d := fun h h' => h.trans h' (fun _ _ h => h)
  refine S.chg n hn (cs' := #[x0, v1, x2, x3, x4, x5, x6]) (by simp) rfl fun w1 K1 S1 => ?_
  refine S1.chg n (List.getElem?_set_self hlt) (cs' := #[x0, v1, v2, x3, x4, x5, x6]) (by simp) rfl fun w2 K2 S2 => ?_
  rw [List.set_set] at S2
  refine S2.chg n (List.getElem?_set_self hlt) (cs' := #[x0, v1, v2, v3, x4, x5, x6]) (by simp) rfl fun w3 K3 S3 => ?_
  rw [List.set_set] at S3
  exact hk w3 (tr (tr K1 K2) K3) S3
theorem SH.stoMax (S : SH F w0 w H) (n : Nat) {b : Nat} {x0 x1 x2 x3 x4 x5 x6 v4 v5 v6 : Value} {t : TypeId} (hn : H[n]? = some (b, #[x0, x1, x2, x3, x4, x5, x6], t)) {k : World → Prop}
    (hk : ∀ w', Keeps (· = b) w w' → SH F w0 w' (H.set n (b, #[x0, x1, x2, x3, v4, v5, v6], t)) → k w') : STO ⟨b, 4, none⟩ v4 (fun w => STO ⟨b, 5, none⟩ v5 (fun w => STO ⟨b, 6, none⟩ v6 k w) w) w := by
  have hlt := (List.getElem?_eq_some_iff.1 hn).1
  have tr : ∀ {a c d : World}, Keeps (· = b) a c → Keeps (· = b) c d → Keeps (· = b) a d := fun h h' => h.trans h' (fun _ _ h => h)
  refine S.chg n hn (cs' := #[x0, x1, x2, x3, v4, x5, x6]) (by simp) rfl fun w1 K1 S1 => ?_
  refine S1.chg n (List.getElem?_set_self hlt) (cs' := #[x0, x1, x2, x3, v4, v5, x6]) (by simp) rfl fun w2 K2 S2 => ?_
  rw [List.set_set] at S2
  refine S2.chg n (List.getElem?_set_self hlt) (cs' := #[x0, x1, x2, x3, v4, v5, v6]) (by simp) rfl fun w3 K3 S3 => ?_
  rw [List.set_set] at S3
  exact hk w3 (tr (tr K1 K2) K3) S3
end
end Go.Dn
namespace Go.Proofs.Ytbkffpcgppecgaa
open Go.Dn Go.Proofs
open Go.RowKit (Below)
set_option linter.unusedVariables false
set_option maxRecDepth 20000

abbrev Z0 : Val := (0, 0, E0)
def zstep (z : Option (Val × Val)) (v : Val) : Option (Val × Val) :=
  if v.1 = 0 then z else match z with
  | none => some (v, v)
  | some p => some (if cmpV v p.1 < 0 then v else p.1, if 0 < cmpV v p.2 then v else p.2)
def zoneS (ls : List Val) : Option (Val × Val) := ls.foldl zstep none
def zmm (ls : List Val) : Val × Val := (zoneS ls).getD (Z0, Z0)
/-- a zone's seven cells -/
def zC (n : Int) (p : Val × Val) : Array Value := #[.int .i64 n, .int .i64 p.1.1, .int .i64 p.1.2.1, .string p.1.2.2, .int .i64 p.2.1, .int .i64 p.2.2.1, .string p.2.2.2]
def zV (n : Int) (p : Val × Val) (e : Int) : Value := .tuple #[.agg (zC n p), .int .i64 e]
theorem zoneS_take {ls : List Val} {i : Nat} (hi : i < ls.length) : zoneS (ls.take (i + 1)) = zstep (zoneS (ls.take i)) ls[i] := by
  unfold zoneS
  rw [List.take_succ_eq_append_getElem hi, List.foldl_append]
  rfl
theorem zone_none {ls : List Val} : ∀ i, i ≤ ls.length → ((zoneS (ls.take i)).isNone = true ↔ (fullL (ls.take i)).length = 0)
  | 0, _ => by simp [zoneS, fullL]
  | i + 1, h => by
    have ih := zone_none (ls := ls) i (by omega)
    have hi : i < ls.length := by omega
    rw [zoneS_take hi, fullL_take hi]
    unfold zstep
    by_cases h0 : ls[i].1 = 0
    · rw [if_pos h0, if_pos h0, List.append_nil]
      exact ih
    · rw [if_neg h0, if_neg h0]
      cases zoneS (ls.take i) <;> simp
theorem zmm_step {ls : List Val} {i : Nat} (hi : i < ls.length) (h0 : ls[i].1 ≠ 0) : zmm (ls.take (i + 1)) = (if (fullL (ls.take i)).length = 0 ∨ cmpV ls[i] (zmm (ls.take i)).1 < 0 then ls[i] else (zmm (ls.take i)).1, if (fullL (ls.take i)).length = 0 ∨ 0 < cmpV ls[i] (zmm (ls.take i)).2 then ls[i] else (zmm (ls.take i)).2) := by
  have hn := zone_none (ls := ls) i (by omega)
  unfold zmm
  rw [zoneS_take hi]
  unfold zstep
  rw [if_neg h0]
  cases hz : zoneS (ls.take i) with
  | none =>
    rw [hz] at hn
    have : (fullL (ls.take i)).length = 0 := hn.1 rfl
    simp [this]
  | some p =>
    rw [hz] at hn
    have : ¬ (fullL (ls.take i)).length = 0 := fun h => by simpa using hn.2 h
    simp [this]
theorem zmm_skip {ls : List Val} {i : Nat} (hi : i < ls.length) (h0 : ls[i].1 = 0) : zmm (ls.take (i + 1)) = zmm (ls.take i) := by
  unfold zmm
  rw [zoneS_take hi]
  unfold zstep
  rw [if_pos h0]
theorem nulls_full (ls : List Val) : nullsN ls + (fullL ls).length = ls.length := by
  induction ls with
  | nil => rfl
  | cons v ls ih =>
    unfold nullsN fullL at ih ⊢
    by_cases h : v.1 = 0
    · simp [h]; omega
    · simp [h]; omega
def zoneOk (ls : List Val) : Prop := ls.length ≤ 1024 ∧ ∀ v ∈ ls, rightB v = true
/-- what Zone hands back -/
def ZoneV (ls : List Val) (r : Value) : Prop := (zoneOk ls ∧ r = zV (nullsN ls : Int) (zmm ls) 0) ∨ (¬ zoneOk ls ∧ r = zV 0 (Z0, Z0) 2)
theorem ZoneV.one {ls : List Val} {r s : Value} (h : ZoneV ls r) (h' : ZoneV ls s) : r = s := by
  rcases h with ⟨h, rfl⟩ | ⟨h, rfl⟩ <;> rcases h' with ⟨k, rfl⟩ | ⟨k, rfl⟩
  · rfl
  · exact absurd h k
  · exact absurd k h
  · rfl
section
variable {w : World} {a : Option Addr} {c : Nat} {ls : List Val}
theorem zone_bad {H : List Ent} {wx : World} {b2 n : Nat} {x : Int} {p : Val × Val} (S : SH (fun _ => False) w wx H) (hn : H[n]? = some (b2, zC x p, ty.api_Zone)) (hno : ¬ zoneOk ls) :
    STO ⟨b2, 0, none⟩ (.int .i64 0) (fun w2 => STO ⟨b2, 1, none⟩ (.int .i64 0) (fun w3 => STO ⟨b2, 2, none⟩ (.int .i64 0) (fun w4 => STO ⟨b2, 3, none⟩ (.string ⟨#[]⟩) (fun w5 => STO ⟨b2, 4, none⟩ (.int .i64 0) (fun w6 => STO ⟨b2, 5, none⟩ (.int .i64 0) (fun w7 => STO ⟨b2, 6, none⟩ (.string ⟨#[]⟩) (fun w8 =>
      ∃ r0 : Int, w8.cell? ⟨b2, 0, none⟩ = some (.int .i64 r0) ∧ ∃ r1 : Int, w8.cell? ⟨b2, 1, none⟩ = some (.int .i64 r1) ∧ ∃ r2 : Int, w8.cell? ⟨b2, 2, none⟩ = some (.int .i64 r2) ∧ ∃ r3 : ByteArray, w8.cell? ⟨b2, 3, none⟩ = some (.string r3) ∧ ∃ r4 : Int, w8.cell? ⟨b2, 4, none⟩ = some (.int .i64 r4) ∧ ∃ r5 : Int, w8.cell? ⟨b2, 5, none⟩ = some (.int .i64 r5) ∧ ∃ r6 : ByteArray, w8.cell? ⟨b2, 6, none⟩ = some (.string r6) ∧
      (fun v w' => ZoneV ls v ∧ Below w.heap.size w w') (.tuple #[.agg #[.int .i64 r0, .int .i64 r1, .int .i64 r2, .string r3, .int .i64 r4, .int .i64 r5, .string r6], .int .i64 2]) w8) w7) w6) w5) w4) w3) w2) wx := by
  have hlt := (List.getElem?_eq_some_iff.1 hn).1
  refine S.sto7 n hn fun w8 K8 S8 => ?_
  have hn8 := List.getElem?_set_self (l := H) (a := (b2, (#[Value.int .i64 0, .int .i64 0, .int .i64 0, .string ⟨#[]⟩, .int .i64 0, .int .i64 0, .string ⟨#[]⟩] : Array Value), ty.api_Zone)) hlt
  exact ⟨_, S8.cell n hn8 rfl, _, S8.cell n hn8 rfl, _, S8.cell n hn8 rfl, _, S8.cell n hn8 rfl, _, S8.cell n hn8 rfl, _, S8.cell n hn8 rfl, _, S8.cell n hn8 rfl, .inr ⟨hno, rfl⟩, S8.below⟩
end
end Go.Proofs.Ytbkffpcgppecgaa

/-
  What a column's values lie between: the program's way.
-/
namespace Go.Proofs.Ytbkffpcgppecgaa
open Go.Dn Go.Proofs
open Go.RowKit (Below)
set_option linter.unusedVariables false
set_option maxRecDepth 20000
theorem if_left {α : Type} {p q : Prop} [Decidable p] [Decidable (p ∨ q)] (h : p) (x y : α) : (if p ∨ q then x else y) = x := if_pos (.inl h)
section
variable {w : World} {a : Option Addr} {c : Nat} {ls : List Val}
theorem chunk_Zone_ok (hl : Rd w a (valsL ls)) : Calls Try.prog f.chunk_Zone #[.slice a ls.length c] w (Ret fun v w' => ZoneV ls v ∧ Below w.heap.size w w') := by
  apply R.chunk_Zone_calls
  unfold R.chunk_Zone
  refine (SH.start (fun _ => False) w).newB fun b2 w1 hb2 B1 S1 => IFB_dec (fun hbig => ?_) (fun hle => ?_)
  · exact zone_bad (p := (Z0, Z0)) (x := 0) S1 (n := 0) rfl (fun h => by have := h.1; omega)
  have hlen : ls.length ≤ 1024 := by omega
  refine S1.newB fun b10 w9 hb10 B9 S9 => S9.sto7 0 rfl fun w16 K16 S16 => ?_
  refine ⟨fun s w17 => ∃ i : Nat, i ≤ ls.length ∧ s = [.int .i64 (i : Int)] ∧ SH (fun _ => False) w w17 [(b10, zC 0 (Z0, Z0), ty.api_Zone), (b2, zC 0 (Z0, Z0), ty.api_Zone)] ∧ ∀ v ∈ ls.take i, rightB v = true, fun s _ => match s with
      | [.int _ i] => ls.length - i.toNat
      | _ => 0, ⟨0, by omega, rfl, S16, by simp⟩, ?_⟩
  rintro _ w17 ⟨i, hi, hst, S17, hall⟩
  cases hst
  refine IFB_dec (fun hlt => ⟨⟨by omega, hlt⟩, ?_⟩) (fun hge => ?_)
  · have hil : i < ls.length := by omega
    obtain ⟨p, rfl, c0, c1, c2⟩ := val_at (hl.grown S17.below) hil
    refine ⟨_, by rw [Int.toNat_natCast]; exact c0, _, by rw [Int.toNat_natCast]; exact c1, _, by rw [Int.toNat_natCast]; exact c2, S17.lit3 fun b17 w21 hb17 B21 S21 => ?_⟩
    refine ⟨_, S21.cell 0 rfl rfl, _, S21.cell 0 rfl rfl, _, S21.cell 0 rfl rfl, (value_Right_ok w21 ls[i]).mono ?_⟩
    rintro _ w22 ⟨_, rfl, rfl, B22⟩
    have S22 := S21.grown B22
    refine ⟨_, rfl, IFB_not (IFB_of (fun hr => ?_) (fun hr => ?_))⟩
    · rw [wrap_succ (by omega)]
      refine ⟨⟨i + 1, by omega, rfl, S22.drop 1, fun v hv => ?_⟩, ?_⟩
      · rw [List.take_succ_eq_append_getElem hil] at hv
        rcases List.mem_append.1 hv with h | h
        · exact hall v h
        · rw [List.mem_singleton.1 h]; exact hr
      · simp only [Int.toNat_natCast]
        omega
    · exact zone_bad (p := (Z0, Z0)) (x := 0) S22 (n := 2) rfl (fun h => by have := h.2 _ (List.getElem_mem hil); rw [this] at hr; cases hr)
  have hie : ls.take i = ls := List.take_of_length_le (by omega)
  rw [hie] at hall
  have hok : zoneOk ls := ⟨hlen, hall⟩
  refine S17.newB fun b30 w30 hb30 B30 S30 => S30.chg 0 rfl (cs' := #[.int .i64 0]) (show 0 < 1 by decide) rfl fun w31 K31 S31 => chunk_full_ok.mono ?_
  rintro _ w32 ⟨_, rfl, bI, rfl, P32⟩
  have S32 : SH (fun _ => False) w w32 [(b30, #[.int .i64 0], ty.int), (b10, zC 0 (Z0, Z0), ty.api_Zone), (b2, zC 0 (Z0, Z0), ty.api_Zone)] := S31.grown P32.below
  refine ⟨_, _, _, rfl, by kernel_rfl, fun rr hst hpe hy => ?_⟩
  obtain ⟨W1, hW1⟩ : ∃ W1, W1 = (w32.alloc (.deferred (some []))).alloc (.loop rr) := ⟨_, rfl⟩
  rw [← hW1]
  have B91 : Below w32.heap.size w32 W1 := by rw [hW1]; exact (((Below.refl _ w32).alloc (Nat.le_refl _) _).alloc (by simp) _)
  have sz1 : W1.heap.size = w32.heap.size + 2 := by rw [hW1]; simp
  have hL1 : W1.heap[w32.heap.size + 1]? = some (.loop rr) := by
    rw [hW1]; have := World.alloc_heap_new (w32.alloc (.deferred (some []))) (.loop rr); rwa [World.size_alloc] at this
  have hD1 : W1.heap[w32.heap.size]? = some (.deferred (some [])) := by
    rw [hW1]; exact (Below.heap_alloc _ _ _ (by simp)).trans (World.alloc_heap_new w32 _)
  obtain ⟨L, hLd⟩ : ∃ L, L = w32.heap.size + 1 := ⟨_, rfl⟩
  rw [← hLd] at hL1 hy ⊢
  have l30 := S32.lt (x := (b30, _, _)) (List.mem_cons_self ..)
  have l10 := S32.lt (x := (b10, _, _)) (List.mem_cons_of_mem _ (List.mem_cons_self ..))
  have l2 := S32.lt (x := (b2, _, _)) (List.mem_cons_of_mem _ (List.mem_cons_of_mem _ (List.mem_cons_self ..)))
  have w0le := S32.below.size
  let H : Nat → List Ent := fun q => [(b30, #[.int .i64 ((fullL (ls.take q)).length : Int)], ty.int), (b10, zC 0 (zmm (ls.take q)), ty.api_Zone), (b2, zC 0 (Z0, Z0), ty.api_Zone)]
  let J : Nat → World → Prop := fun q wx => SH (fun _ => False) w wx (H q) ∧ wx.heap[L]? = some (.loop rr) ∧ wx.heap[w32.heap.size]? = some (.deferred (some []))
  have hI : W1.cell? ⟨bI, 0, none⟩ = some (.slice a ls.length c) := cell0 ((Keeps.of_below (F := fun _ => False) B91).at (P32.get 0 rfl) (by simp))
  have hcall := full_c1_ok (w := W1) (L := L) (b := bI) (by omega) J (fun q wx hj => hl.grown hj.1.below) (fun q wx wy hj B => by
      have K := Keeps.of_below (F := fun _ => False) B
      exact ⟨hj.1.grown B, K.at hj.2.1 (by simp), K.at hj.2.2 (by simp)⟩) (fun q wx hq hz hj => by
      have e1 : H (q + 1) = H q := by
        have := fullL_take hq
        rw [if_pos hz, List.append_nil] at this
        show [(b30, #[Value.int .i64 ((fullL (ls.take (q + 1))).length : Int)], ty.int), (b10, zC 0 (zmm (ls.take (q + 1))), ty.api_Zone), (b2, zC 0 (Z0, Z0), ty.api_Zone)] = _
        rw [this, zmm_skip hq hz]
      exact ⟨by rw [e1]; exact hj.1, hj.2⟩) (by
    rintro q wx hq hne ⟨SJ, hL, hD⟩
    have hfl : (fullL (ls.take q)).length ≤ 1024 := by
      have : (fullL (ls.take q)).length ≤ (ls.take q).length := List.length_filter_le ..
      rw [List.length_take] at this
      omega
    have hnext : H (q + 1) = [(b30, #[.int .i64 (((fullL (ls.take q)).length + 1 : Nat) : Int)], ty.int), (b10, zC 0 (if (fullL (ls.take q)).length = 0 ∨ cmpV ls[q] (zmm (ls.take q)).1 < 0 then ls[q] else (zmm (ls.take q)).1, if (fullL (ls.take q)).length = 0 ∨ 0 < cmpV ls[q] (zmm (ls.take q)).2 then ls[q] else (zmm (ls.take q)).2), ty.api_Zone), (b2, zC 0 (Z0, Z0), ty.api_Zone)] := by
      have e1 := fullL_take hq
      rw [if_neg hne] at e1
      show [(b30, #[Value.int .i64 ((fullL (ls.take (q + 1))).length : Int)], ty.int), (b10, zC 0 (zmm (ls.take (q + 1))), ty.api_Zone), (b2, zC 0 (Z0, Z0), ty.api_Zone)] = _
      rw [zmm_step hq hne, e1, List.length_append]
      rfl
    obtain ⟨n, hnd⟩ : ∃ n, n = (fullL (ls.take q)).length := ⟨_, rfl⟩
    obtain ⟨mm, hmm⟩ : ∃ mm, mm = zmm (ls.take q) := ⟨_, rfl⟩
    have SJ' : SH (fun _ => False) w wx [(b30, #[.int .i64 (n : Int)], ty.int), (b10, zC 0 mm, ty.api_Zone), (b2, zC 0 (Z0, Z0), ty.api_Zone)] := by rw [hnd, hmm]; exact SJ
    rw [← hnd, ← hmm] at hnext
    rw [← hnd] at hfl
    obtain ⟨v, hvd⟩ : ∃ v, v = ls[q] := ⟨_, rfl⟩
    rw [← hvd] at hnext ⊢
    refine hy _ _ _ _ wx hL ?_
    refine SJ'.lit3 fun b37 w37 hb37 B37 S37 => ?_
    have K37 := Keeps.of_below (F := fun _ => False) B37
    have hL37 := K37.at hL (by simp)
    have hD37 := K37.at hD (by simp)
    refine ⟨hL37, ?_⟩
    obtain ⟨wB, hwB⟩ : ∃ wB, wB = w37.putObj L (.loop { rr with state := .busy }) := ⟨_, rfl⟩
    rw [← hwB]
    have hLlt : L < w37.heap.size := (Array.getElem?_eq_some_iff.1 hL37).1
    have hLx : L < wx.heap.size := (Array.getElem?_eq_some_iff.1 hL).1
    have KB : Keeps (fun k => k = L) w37 wB := by rw [hwB]; exact keeps_putObj _ _ _
    have hLB : wB.heap[L]? = some (.loop { rr with state := .busy }) := by rw [hwB]; exact World.putObj_heap_same hLlt
    have hDB := KB.at hD37 (show ¬ w32.heap.size = L by omega)
    have SB : SH (fun _ => False) w wB [(b37, #[.int .i64 v.1, .int .i64 v.2.1, .string v.2.2], ty.api_Value), (b30, #[.int .i64 (n : Int)], ty.int), (b10, zC 0 mm, ty.api_Zone), (b2, zC 0 (Z0, Z0), ty.api_Zone)] := S37.kept KB (by
      intro y hy
      simp only [List.mem_cons, List.not_mem_nil, or_false] at hy
      rcases hy with rfl | rfl | rfl | rfl <;> simp only <;> omega) (fun k hk h => by omega)
    -- what holds at any time of the round
    let G : World → Val → Val → Int → Prop := fun wy mn mx m => SH (fun _ => False) w wy [(b37, #[.int .i64 v.1, .int .i64 v.2.1, .string v.2.2], ty.api_Value), (b30, #[.int .i64 m], ty.int), (b10, zC 0 (mn, mx), ty.api_Zone), (b2, zC 0 (Z0, Z0), ty.api_Zone)] ∧ wy.heap[L]? = some (.loop { rr with state := .busy }) ∧ wy.heap[w32.heap.size]? = some (.deferred (some []))
    have keepG : ∀ {wy wz : World} {b : Nat}, Keeps (· = b) wy wz → b ≠ L → b ≠ w32.heap.size → wy.heap[L]? = some (.loop { rr with state := .busy }) ∧ wy.heap[w32.heap.size]? = some (.deferred (some [])) → wz.heap[L]? = some (.loop { rr with state := .busy }) ∧ wz.heap[w32.heap.size]? = some (.deferred (some [])) :=
      fun K h1 h2 h => ⟨K.at h.1 (fun e => h1 e.symm), K.at h.2 (fun e => h2 e.symm)⟩
    have growG : ∀ {wy wz : World} {mn mx : Val} {m : Int}, G wy mn mx m → Below wy.heap.size wy wz → G wz mn mx m := fun h B => by
      have K := Keeps.of_below (F := fun _ => False) B
      exact ⟨h.1.grown B, K.at h.2.1 (by simp), K.at h.2.2 (by simp)⟩
    have fin : ∀ {wy : World} {mn mx : Val}, G wy mn mx (n : Int) → mn = (if n = 0 ∨ cmpV v mm.1 < 0 then v else mm.1) → mx = (if n = 0 ∨ 0 < cmpV v mm.2 then v else mm.2) →
        ∃ t50 : Int, wy.cell? ⟨b30, 0, none⟩ = some (.int .i64 t50) ∧ STO ⟨b30, 0, none⟩ (.int .i64 (IntKind.i64.wrap (t50 + 1))) (fun w50 => ENDR rr L (fun y w' => y = true ∧ (SH (fun _ => False) w w' (H (q + 1)) ∧ w'.heap[L]? = some (.loop rr) ∧ w'.heap[w32.heap.size]? = some (.deferred (some [])))) none w50) wy := by
      rintro wy mn mx ⟨Sy, Ly⟩ rfl rfl
      refine ⟨_, Sy.cell 1 rfl rfl, ?_⟩
      rw [wrap_succ (by omega)]
      refine Sy.chg 1 rfl (cs' := #[.int .i64 ((n + 1 : Nat) : Int)]) (show 0 < 1 by decide) rfl fun wz Kz Sz => ?_
      obtain ⟨Lz, Dz⟩ := keepG Kz (by omega) (by omega) Ly
      refine ⟨Lz, rfl, ?_⟩
      rw [rr_eta hst hpe]
      have lz : L < wz.heap.size := (Array.getElem?_eq_some_iff.1 Lz).1
      have KP := keeps_putObj wz L (.loop rr)
      refine ⟨?_, World.putObj_heap_same lz, KP.at Dz (show ¬ w32.heap.size = L by omega)⟩
      rw [hnext]
      exact (Sz.drop 1).kept KP (by
        intro y hy
        simp only [List.set_cons_succ, List.set_cons_zero, List.drop_succ_cons, List.drop_zero, List.mem_cons, List.not_mem_nil, or_false] at hy
        rcases hy with rfl | rfl | rfl <;> simp only <;> omega) (fun k hk h => by omega)
    have GB : G wB mm.1 mm.2 (n : Int) := ⟨SB, hLB, hDB⟩
    refine ⟨fun s w46 => s = [] ∧ G w46 (if n = 0 ∨ cmpV v mm.1 < 0 then v else mm.1) mm.2 (n : Int), ?_, ?_⟩
    · refine ⟨_, GB.1.cell 1 rfl rfl, IFB_eq (fun h0 => ?_) (fun h0 => ?_)⟩
      · have hn0 : n = 0 := by omega
        refine ⟨_, GB.1.cell 0 rfl rfl, _, GB.1.cell 0 rfl rfl, _, GB.1.cell 0 rfl rfl, GB.1.stoMin 2 rfl fun w41 K41 S41 => ⟨rfl, ?_⟩⟩
        rw [if_left hn0]
        exact ⟨S41, keepG K41 (by omega) (by omega) GB.2⟩
      · have hn0 : ¬ n = 0 := by omega
        refine ⟨_, GB.1.cell 0 rfl rfl, _, GB.1.cell 0 rfl rfl, _, GB.1.cell 0 rfl rfl, _, GB.1.cell 2 rfl rfl, _, GB.1.cell 2 rfl rfl, _, GB.1.cell 2 rfl rfl, (value_Compare_ok wB v mm.1).mono ?_⟩
        rintro _ w42 ⟨_, rfl, rfl, B42⟩
        have G42 := growG GB B42
        refine ⟨_, rfl, IFB_dec (fun hc => ⟨_, G42.1.cell 0 rfl rfl, _, G42.1.cell 0 rfl rfl, _, G42.1.cell 0 rfl rfl, G42.1.stoMin 2 rfl fun w41 K41 S41 => ⟨rfl, ?_⟩⟩) (fun hc => ⟨rfl, ?_⟩)⟩
        · rw [if_pos (.inr hc)]
          exact ⟨S41, keepG K41 (by omega) (by omega) G42.2⟩
        · rw [if_neg (by omega)]
          exact G42
    rintro w46 ⟨_, G46⟩
    refine ⟨_, G46.1.cell 1 rfl rfl, IFB_eq (fun h0 => ?_) (fun h0 => ?_)⟩
    · have hn0 : n = 0 := by omega
      refine ⟨_, G46.1.cell 0 rfl rfl, _, G46.1.cell 0 rfl rfl, _, G46.1.cell 0 rfl rfl, G46.1.stoMax 2 rfl fun w49 K49 S49 => fin (mx := v) ⟨S49, keepG K49 (by omega) (by omega) G46.2⟩ rfl (by rw [if_left hn0])⟩
    · have hn0 : ¬ n = 0 := by omega
      refine ⟨_, G46.1.cell 0 rfl rfl, _, G46.1.cell 0 rfl rfl, _, G46.1.cell 0 rfl rfl, _, G46.1.cell 2 rfl rfl, _, G46.1.cell 2 rfl rfl, _, G46.1.cell 2 rfl rfl, (value_Compare_ok w46 v mm.2).mono ?_⟩
      rintro _ w51 ⟨_, rfl, rfl, B51⟩
      have G51 := growG G46 B51
      refine ⟨_, rfl, IFB_dec (fun hc => ⟨_, G51.1.cell 0 rfl rfl, _, G51.1.cell 0 rfl rfl, _, G51.1.cell 0 rfl rfl, G51.1.stoMax 2 rfl fun w49 K49 S49 => fin (mx := v) ⟨S49, keepG K49 (by omega) (by omega) G51.2⟩ rfl (by rw [if_pos (.inr (by omega))])⟩) (fun hc => fin G51 rfl (by rw [if_neg (by omega)]))⟩)
    ⟨S32.grown B91, hL1, hD1⟩ hI
  refine hcall.mono ?_
  rintro _ w57 ⟨_, rfl, SJ, hL57, hD57⟩
  have SJ' : SH (fun _ => False) w w57 [(b30, #[.int .i64 ((fullL ls).length : Int)], ty.int), (b10, zC 0 (zmm ls), ty.api_Zone), (b2, zC 0 (Z0, Z0), ty.api_Zone)] := by
    have := SJ
    simp only [H, List.take_length] at this
    exact this
  refine ⟨⟨_, rfl⟩, none, by rw [rr_eta hst hpe]; exact hL57, rfl, ?_⟩
  obtain ⟨w58, hw58⟩ : ∃ w58, w58 = w57.putObj L (.loop { rr with state := .exhausted, pending := none }) := ⟨_, rfl⟩
  rw [← hw58]
  have K58 : Keeps (fun k => k = L) w57 w58 := by rw [hw58]; exact keeps_putObj _ _ _
  have S58 := SJ'.kept K58 (by
    intro y hy
    simp only [List.mem_cons, List.not_mem_nil, or_false] at hy
    rcases hy with rfl | rfl | rfl <;> simp only <;> omega) (fun k hk h => by omega)
  have hD58 := K58.at hD57 (show ¬ w32.heap.size = L by omega)
  have hnf := nulls_full ls
  have en : IntKind.i64.wrap ((ls.length : Int) - ((fullL ls).length : Int)) = (nullsN ls : Int) := by rw [wrap_i64 (by omega) (by omega)]; omega
  refine ⟨_, S58.cell 0 rfl rfl, ?_⟩
  rw [en]
  refine S58.chg 1 rfl (cs' := zC (nullsN ls : Int) (zmm ls)) (show 0 < 7 by decide) rfl fun w59 K59 S59 => ?_
  refine ⟨_, S59.cell 1 rfl rfl, _, S59.cell 1 rfl rfl, _, S59.cell 1 rfl rfl, _, S59.cell 1 rfl rfl, _, S59.cell 1 rfl rfl, _, S59.cell 1 rfl rfl, _, S59.cell 1 rfl rfl, S59.sto7 2 rfl fun w66 K66 S66 => ?_⟩
  have hD66 := K66.at (K59.at hD58 (show ¬ w32.heap.size = b10 by omega)) (show ¬ w32.heap.size = b2 by omega)
  have KP := keeps_putObj w66 w32.heap.size (.deferred none)
  have SP := S66.kept KP (by
    intro y hy
    simp only [List.set_cons_succ, List.set_cons_zero, List.mem_cons, List.not_mem_nil, or_false] at hy
    rcases hy with rfl | rfl | rfl <;> simp only <;> omega) (fun k hk h => by omega)
  exact ⟨hD66, _, SP.cell 2 rfl rfl, _, SP.cell 2 rfl rfl, _, SP.cell 2 rfl rfl, _, SP.cell 2 rfl rfl, _, SP.cell 2 rfl rfl, _, SP.cell 2 rfl rfl, _, SP.cell 2 rfl rfl, .inl ⟨hok, rfl⟩, SP.below⟩
end
end Go.Proofs.Ytbkffpcgppecgaa

/-
  What a column's values lie between: the document's way; the laws ChunkZones and ChunkWithin.
-/
namespace Go.Proofs.Ytbkffpcgppecgaa
open Go.Dn Go.Proofs
open Go.RowKit (Below)
set_option linter.unusedVariables false
set_option maxRecDepth 20000
theorem zero_right : rightB Z0 = true := by decide
theorem zmm_right {ls : List Val} (h : ∀ v ∈ ls, rightB v = true) : ∀ i, i ≤ ls.length → rightB (zmm (ls.take i)).1 = true ∧ rightB (zmm (ls.take i)).2 = true
  | 0, _ => ⟨zero_right, zero_right⟩
  | i + 1, hi => by
    have hil : i < ls.length := by omega
    obtain ⟨h1, h2⟩ := zmm_right h i (by omega)
    by_cases h0 : ls[i].1 = 0
    · rw [zmm_skip hil h0]; exact ⟨h1, h2⟩
    · rw [zmm_step hil h0]
      have hv := h _ (List.getElem_mem hil)
      refine ⟨?_, ?_⟩
      · simp only; split
        · exact hv
        · exact h1
      · simp only; split
        · exact hv
        · exact h2
theorem mem_take {ls : List Val} {i : Nat} {p : Val → Prop} (hil : i < ls.length) (hall : ∀ v ∈ ls.take i, p v) (hr : p ls[i]) : ∀ v ∈ ls.take (i + 1), p v := by
  intro v hv
  rw [List.take_succ_eq_append_getElem hil] at hv
  rcases List.mem_append.1 hv with h | h
  · exact hall v h
  · rw [List.mem_singleton.1 h]; exact hr
section
variable {w : World} {a : Option Addr} {c : Nat} {ls : List Val}
theorem ref08_Zone_ok (hl : Rd w a (valsL ls)) : Calls Try.prog f.ref08_Zone #[.slice a ls.length c] w (Ret fun v w' => ZoneV ls v ∧ Below w.heap.size w w') := by
  apply R.ref08_Zone_calls
  unfold R.ref08_Zone
  refine (SH.start (fun _ => False) w).newB fun b2 w1 hb2 B1 S1 => IFB_dec (fun hbig => ?_) (fun hle => ?_)
  · exact zone_bad (p := (Z0, Z0)) (x := 0) S1 (n := 0) rfl (fun h => by have := h.1; omega)
  have hlen : ls.length ≤ 1024 := by omega
  refine S1.newB fun b10 w9 hb10 B9 S9 => ?_
  refine ⟨fun s w17 => ∃ i : Nat, i ≤ ls.length ∧ s = [.bool (decide ((fullL (ls.take i)).length = 0)), .int .i64 (i : Int)] ∧ SH (fun _ => False) w w17 [(b10, zC (nullsN (ls.take i) : Int) (zmm (ls.take i)), ty.api_Zone), (b2, zC 0 (Z0, Z0), ty.api_Zone)] ∧ ∀ v ∈ ls.take i, rightB v = true, fun s _ => match s with
      | [_, .int _ i] => ls.length - i.toNat
      | _ => 0, ⟨0, by omega, rfl, S9, by simp⟩, ?_⟩
  rintro _ _ w17 ⟨i, hi, hst, S17, hall⟩
  cases hst
  have hnl := nullsN_le (ls.take i)
  rw [List.length_take] at hnl
  refine IFB_dec (fun hlt => ⟨⟨by omega, hlt⟩, ?_⟩) (fun hge => ?_)
  · have hil : i < ls.length := by omega
    obtain ⟨p, rfl, c0, c1, c2⟩ := val_at (hl.grown S17.below) hil
    refine ⟨_, by rw [Int.toNat_natCast]; exact c0, _, by rw [Int.toNat_natCast]; exact c1, _, by rw [Int.toNat_natCast]; exact c2, (ref04_Right_ok w17 ls[i]).mono ?_⟩
    rintro _ w18 ⟨_, rfl, rfl, B18⟩
    have S18 := S17.grown B18
    refine ⟨_, rfl, IFB_not (IFB_of (fun hr => ?_) (fun hr => ?_))⟩
    case refine_2 => exact zone_bad (p := (Z0, Z0)) (x := 0) S18 (n := 1) rfl (fun h => by have := h.2 _ (List.getElem_mem hil); rw [this] at hr; cases hr)
    obtain ⟨p', hp', d0, d1, d2⟩ := val_at (hl.grown S18.below) hil
    cases hp'
    have hall' := mem_take hil hall hr
    rw [wrap_succ (k := i) (by omega)]
    have mes : ls.length - ((i + 1 : Nat) : Int).toNat < ls.length - ((i : Nat) : Int).toNat := by
      simp only [Int.toNat_natCast]
      omega
    refine ⟨⟨by omega, hlt⟩, _, by rw [Int.toNat_natCast]; exact d0, IFB_eq (fun hz => ?_) (fun hne => ?_)⟩
    · refine ⟨_, S18.cell 0 rfl rfl, ?_⟩
      rw [wrap_succ (by omega)]
      refine S18.chg 0 rfl (cs' := zC ((nullsN (ls.take i) + 1 : Nat) : Int) (zmm (ls.take i))) (show 0 < 7 by decide) rfl fun w26 K26 S26 => ⟨⟨i + 1, by omega, ?_, ?_, hall'⟩, mes⟩
      · rw [fullL_take hil, if_pos hz, List.append_nil]
      · rw [nullsN_take hil, if_pos hz, zmm_skip hil hz]; exact S26
    · obtain ⟨n, hnd⟩ : ∃ n, n = (fullL (ls.take i)).length := ⟨_, rfl⟩
      obtain ⟨mm, hmm⟩ : ∃ mm, mm = zmm (ls.take i) := ⟨_, rfl⟩
      obtain ⟨nu, hnu⟩ : ∃ nu, nu = nullsN (ls.take i) := ⟨_, rfl⟩
      have hmr := zmm_right (ls := ls.take (i + 1)) hall' i (by rw [List.length_take]; omega)
      have htt : (ls.take (i + 1)).take i = ls.take i := by rw [List.take_take]; congr 1; omega
      rw [htt, ← hmm] at hmr
      have hstep := zmm_step hil hne
      have hfn : (fullL (ls.take (i + 1))).length = n + 1 := by rw [fullL_take hil, if_neg hne, List.length_append, hnd]; rfl
      have hnn : nullsN (ls.take (i + 1)) = nu := by rw [nullsN_take hil, if_neg hne, hnu]; rfl
      rw [← hnd, ← hmm] at hstep
      rw [← hnu, ← hmm] at S18
      rw [← hnd]
      obtain ⟨v, hvd⟩ : ∃ v, v = ls[i] := ⟨_, rfl⟩
      rw [← hvd] at hr hstep
      have lat : ∀ {wx : World}, Below w.heap.size w wx → wx.cell? (p.add (i * 3)) = some (.int .i64 v.1) ∧ wx.cell? ((p.add (i * 3)).add 1) = some (.int .i64 v.2.1) ∧ wx.cell? ((p.add (i * 3)).add 2) = some (.string v.2.2) := fun B => by
        obtain ⟨q, hq, e0, e1, e2⟩ := val_at (hl.grown B) hil
        cases hq
        rw [hvd]; exact ⟨e0, e1, e2⟩
      refine S18.drawB fun w27 B27 S27 => ⟨⟨by omega, hlt⟩, ?_⟩
      obtain ⟨e0, e1, e2⟩ := lat S27.below
      refine ⟨_, by rw [Int.toNat_natCast]; exact e0, _, by rw [Int.toNat_natCast]; exact e1, _, by rw [Int.toNat_natCast]; exact e2, _, S27.cell 0 rfl rfl, _, S27.cell 0 rfl rfl, _, S27.cell 0 rfl rfl, (ref_Compare_ok w27 v mm.1).mono ?_⟩
      rintro _ w28 ⟨_, rfl, rfl, B28⟩
      have S28 := S27.grown B28
      refine ⟨_, rfl, S28.drawB fun w29 B29 S29 => ⟨⟨by omega, hlt⟩, ?_⟩⟩
      obtain ⟨e0, e1, e2⟩ := lat S29.below
      refine ⟨_, by rw [Int.toNat_natCast]; exact e0, _, by rw [Int.toNat_natCast]; exact e1, _, by rw [Int.toNat_natCast]; exact e2, _, S29.cell 0 rfl rfl, _, S29.cell 0 rfl rfl, _, S29.cell 0 rfl rfl, (ref_Compare_ok w29 v mm.2).mono ?_⟩
      rintro _ w30 ⟨_, rfl, rfl, B30⟩
      have S30 := S29.grown B30
      rw [← cmp_ref hr hmr.1, ← cmp_ref hr hmr.2]
      have fin : ∀ {wy : World} {mn mx : Val}, SH (fun _ => False) w wy [(b10, zC (nu : Int) (mn, mx), ty.api_Zone), (b2, zC 0 (Z0, Z0), ty.api_Zone)] → mn = (if n = 0 ∨ cmpV v mm.1 < 0 then v else mm.1) → mx = (if n = 0 ∨ 0 < cmpV v mm.2 then v else mm.2) →
          (∃ j : Nat, j ≤ ls.length ∧ [Value.bool false, .int .i64 ((i + 1 : Nat) : Int)] = [.bool (decide ((fullL (ls.take j)).length = 0)), .int .i64 (j : Int)] ∧ SH (fun _ => False) w wy [(b10, zC (nullsN (ls.take j) : Int) (zmm (ls.take j)), ty.api_Zone), (b2, zC 0 (Z0, Z0), ty.api_Zone)] ∧ ∀ v ∈ ls.take j, rightB v = true) ∧ ls.length - ((i + 1 : Nat) : Int).toNat < ls.length - ((i : Nat) : Int).toNat := by
        rintro wy mn mx Sy rfl rfl
        refine ⟨⟨i + 1, by omega, ?_, ?_, hall'⟩, mes⟩
        · rw [hfn]; simp
        · rw [hnn, hstep]; exact Sy
      refine ⟨_, rfl, fun s w37 => s = [] ∧ SH (fun _ => False) w w37 [(b10, zC (nu : Int) (if n = 0 ∨ cmpV v mm.1 < 0 then v else mm.1, mm.2), ty.api_Zone), (b2, zC 0 (Z0, Z0), ty.api_Zone)], ?_, ?_⟩
      · obtain ⟨e0, e1, e2⟩ := lat S30.below
        refine IFB_dec (fun h0 => ⟨⟨by omega, hlt⟩, _, by rw [Int.toNat_natCast]; exact e0, _, by rw [Int.toNat_natCast]; exact e1, _, by rw [Int.toNat_natCast]; exact e2, S30.stoMin 0 rfl fun w33 K33 S33 => ⟨rfl, ?_⟩⟩)
          (fun h0 => IFB_dec (fun hc => ⟨⟨by omega, hlt⟩, _, by rw [Int.toNat_natCast]; exact e0, _, by rw [Int.toNat_natCast]; exact e1, _, by rw [Int.toNat_natCast]; exact e2, S30.stoMin 0 rfl fun w33 K33 S33 => ⟨rfl, ?_⟩⟩) (fun hc => ⟨rfl, ?_⟩))
        · rw [if_pos (.inl h0)]; exact S33
        · rw [if_pos (.inr hc)]; exact S33
        · rw [if_neg (by omega)]; exact S30
      rintro w37 ⟨_, S37⟩
      obtain ⟨e0, e1, e2⟩ := lat S37.below
      refine IFB_dec (fun h0 => ⟨⟨by omega, hlt⟩, _, by rw [Int.toNat_natCast]; exact e0, _, by rw [Int.toNat_natCast]; exact e1, _, by rw [Int.toNat_natCast]; exact e2, S37.stoMax 0 rfl fun w33 K33 S33 => fin (mx := v) S33 rfl (by rw [if_pos (.inl h0)])⟩)
          (fun h0 => IFB_dec (fun hc => ⟨⟨by omega, hlt⟩, _, by rw [Int.toNat_natCast]; exact e0, _, by rw [Int.toNat_natCast]; exact e1, _, by rw [Int.toNat_natCast]; exact e2, S37.stoMax 0 rfl fun w33 K33 S33 => fin (mx := v) S33 rfl (by rw [if_pos (.inr (by omega))])⟩) (fun hc => fin S37 rfl (by rw [if_neg (by omega)])))
  · have hie : ls.take i = ls := List.take_of_length_le (by omega)
    rw [hie] at hall S17
    have hok : zoneOk ls := ⟨hlen, hall⟩
    refine ⟨_, S17.cell 0 rfl rfl, _, S17.cell 0 rfl rfl, _, S17.cell 0 rfl rfl, _, S17.cell 0 rfl rfl, _, S17.cell 0 rfl rfl, _, S17.cell 0 rfl rfl, _, S17.cell 0 rfl rfl, S17.sto7 1 rfl fun w66 K66 SP => ?_⟩
    exact ⟨_, SP.cell 1 rfl rfl, _, SP.cell 1 rfl rfl, _, SP.cell 1 rfl rfl, _, SP.cell 1 rfl rfl, _, SP.cell 1 rfl rfl, _, SP.cell 1 rfl rfl, _, SP.cell 1 rfl rfl, .inl ⟨hok, rfl⟩, SP.below⟩
end
theorem ZoneV.open {ls : List Val} {r : Value} (h : ZoneV ls r) : ∃ n p e, r = zV n p e ∧ ((zoneOk ls ∧ n = (nullsN ls : Int) ∧ p = zmm ls ∧ e = 0) ∨ (¬ zoneOk ls ∧ e = 2)) := by
  rcases h with ⟨h, rfl⟩ | ⟨h, rfl⟩
  · exact ⟨_, _, _, rfl, .inl ⟨h, rfl, rfl, rfl⟩⟩
  · exact ⟨_, _, _, rfl, .inr ⟨h, rfl⟩⟩
theorem zV_inj {n m : Int} {p q : Val × Val} {e g : Int} (h : zV n p e = zV m q g) : n = m ∧ p = q ∧ e = g := by
  simp only [zV, zC, Value.tuple.injEq, Array.mk.injEq, List.cons.injEq, Value.agg.injEq, Value.int.injEq, Value.string.injEq, true_and, and_true] at h
  obtain ⟨⟨h0, h1, h2, h3, h4, h5, h6⟩, h7⟩ := h
  exact ⟨h0, by ext1 <;> (try ext1) <;> simp_all [Prod.ext_iff], h7⟩
theorem ChunkZones_core {w : World} {a : Option Addr} {c : Nat} {ls : List Val} (hl : Rd w a (valsL ls)) : Calls Try.prog f.law08_ChunkZones #[.slice a ls.length c] w (Ret fun r w' => r = .bool true ∧ Below w.heap.size w w') := by
  apply R.law08_ChunkZones_calls
  unfold R.law08_ChunkZones
  refine (shown_ok w).mono ?_
  rintro _ w1 ⟨_, rfl, rfl, B1⟩
  refine ⟨_, rfl, (chunk_Zone_ok (hl.grown B1)).mono ?_⟩
  rintro _ w2 ⟨_, rfl, h2, B2⟩
  obtain ⟨n, p, e, rfl, _⟩ := h2.open
  have C2 := below_trans B1 B2
  refine ⟨_, _, _, _, _, _, _, _, rfl, (SH.start (fun _ => False) w2).newB fun b13 w3 hb13 B3 S3 => S3.sto7 0 rfl fun w10 K10 S10 => ?_⟩
  have C10 := below_trans C2 S10.below
  refine (ref08_Zone_ok (hl.grown C10)).mono ?_
  rintro _ w11 ⟨_, rfl, h11, B11⟩
  obtain ⟨m, q, g, rfl, _⟩ := h11.open
  obtain ⟨rfl, rfl, rfl⟩ := zV_inj (h2.one h11)
  refine ⟨_, _, _, _, _, _, _, _, rfl, (S10.grown B11).newB fun b23 w12 hb23 B12 S12 => S12.sto7 0 rfl fun w19 K19 S19 => IFB_true ?_⟩
  refine ⟨_, S19.cell 1 rfl rfl, _, S19.cell 1 rfl rfl, _, S19.cell 1 rfl rfl, _, S19.cell 1 rfl rfl, _, S19.cell 1 rfl rfl, _, S19.cell 1 rfl rfl, _, S19.cell 1 rfl rfl, _, S19.cell 0 rfl rfl, _, S19.cell 0 rfl rfl, _, S19.cell 0 rfl rfl, _, S19.cell 0 rfl rfl, _, S19.cell 0 rfl rfl, _, S19.cell 0 rfl rfl, _, S19.cell 0 rfl rfl, ?_⟩
  refine IFB_of (fun _ => ⟨by simp, below_trans C2 S19.below⟩) (fun h => ?_)
  simp [beq_str] at h
theorem ChunkZones_ok (w : World) (a : Option Addr) (xs : List Val) (c : Nat) (g : GL w valC valQ a xs c) : Calls Try.prog f.law08_ChunkZones #[.slice a xs.length c] w (Ret fun r w' => r = .bool true ∧ Below w.heap.size w w') := by
  obtain ⟨h1, _, _⟩ := vals_arg g
  exact ChunkZones_core h1
end Go.Proofs.Ytbkffpcgppecgaa

/-
  The law ChunkWithin.
-/
namespace Go.Proofs.Ytbkffpcgppecgaa
open Go.Dn Go.Proofs
open Go.RowKit (Below)
set_option linter.unusedVariables false
set_option maxRecDepth 20000
structure Within (ls : List Val) (i : Nat) : Prop where
  all : ∀ v ∈ ls.take i, v.1 ≠ 0 → 0 ≤ cmpV v (zmm (ls.take i)).1 ∧ cmpV v (zmm (ls.take i)).2 ≤ 0
  some : 0 < (fullL (ls.take i)).length → ((zmm (ls.take i)).1 ∈ ls.take i ∧ (zmm (ls.take i)).1.1 ≠ 0) ∧ ((zmm (ls.take i)).2 ∈ ls.take i ∧ (zmm (ls.take i)).2.1 ≠ 0)
  none : (fullL (ls.take i)).length = 0 → zmm (ls.take i) = (Z0, Z0)
theorem cmp_self (v : Val) : cmpV v v = 0 := (ord_val.zero v v).2 rfl
theorem full_none {ls : List Val} (h : (fullL ls).length = 0) : ∀ v ∈ ls, v.1 = 0 := by
  intro v hv
  have hf : fullL ls = [] := List.eq_nil_of_length_eq_zero h
  unfold fullL at hf
  have := List.filter_eq_nil_iff.1 hf v hv
  simpa using this
theorem within {ls : List Val} : ∀ i, i ≤ ls.length → Within ls i
  | 0, _ => ⟨by simp, by simp [fullL], fun _ => rfl⟩
  | i + 1, hi => by
    have hil : i < ls.length := by omega
    obtain ⟨h1, h2, h3⟩ := within (ls := ls) i (by omega)
    have hsub : ∀ v, v ∈ ls.take i → v ∈ ls.take (i + 1) := fun v hv => by rw [List.take_succ_eq_append_getElem hil]; exact List.mem_append_left _ hv
    have hin : ls[i] ∈ ls.take (i + 1) := by rw [List.take_succ_eq_append_getElem hil]; exact List.mem_append_right _ (List.mem_singleton.2 rfl)
    by_cases h0 : ls[i].1 = 0
    · have ef : fullL (ls.take (i + 1)) = fullL (ls.take i) := by rw [fullL_take hil, if_pos h0, List.append_nil]
      have ez := zmm_skip hil h0
      refine ⟨?_, ?_, ?_⟩
      · rw [ez]
        intro v hv hne
        rw [List.take_succ_eq_append_getElem hil] at hv
        rcases List.mem_append.1 hv with h | h
        · exact h1 v h hne
        · rw [List.mem_singleton.1 h] at hne; exact absurd h0 hne
      · rw [ef, ez]
        intro hp
        obtain ⟨⟨a1, a2⟩, b1, b2⟩ := h2 hp
        exact ⟨⟨hsub _ a1, a2⟩, hsub _ b1, b2⟩
      · rw [ef, ez]; exact h3
    · have ez := zmm_step hil h0
      have ef : (fullL (ls.take (i + 1))).length = (fullL (ls.take i)).length + 1 := by rw [fullL_take hil, if_neg h0, List.length_append]; rfl
      obtain ⟨mm, hmm⟩ : ∃ mm, mm = zmm (ls.take i) := ⟨_, rfl⟩
      obtain ⟨n, hn⟩ : ∃ n, n = (fullL (ls.take i)).length := ⟨_, rfl⟩
      rw [← hmm, ← hn] at ez h2
      rw [← hmm] at h1
      rw [← hn] at ef
      have min_le : 0 ≤ cmpV ls[i] (if n = 0 ∨ cmpV ls[i] mm.1 < 0 then ls[i] else mm.1) := by
        split
        · rw [cmp_self]; exact Int.le_refl _
        · omega
      have max_le : cmpV ls[i] (if n = 0 ∨ 0 < cmpV ls[i] mm.2 then ls[i] else mm.2) ≤ 0 := by
        split
        · rw [cmp_self]; exact Int.le_refl _
        · omega
      have old : ∀ v ∈ ls.take i, v.1 ≠ 0 → ¬ n = 0 := fun v hv hne h => hne (full_none (by rw [← hn]; exact h) v hv)
      refine ⟨?_, ?_, fun h => by omega⟩
      · rw [ez]
        intro v hv hne
        rw [List.take_succ_eq_append_getElem hil] at hv
        rcases List.mem_append.1 hv with h | h
        · obtain ⟨k1, k2⟩ := h1 v h hne
          have hn0 := old v h hne
          refine ⟨?_, ?_⟩
          · simp only
            split
            · rename_i hc
              have hc' : cmpV ls[i] mm.1 < 0 := hc.resolve_left hn0
              have k1' : cmpV mm.1 v ≤ 0 := by have := ord_val.neg v mm.1; omega
              have := ord_val.strict _ _ _ hc' k1'
              have := ord_val.neg ls[i] v
              omega
            · exact k1
          · simp only
            split
            · rename_i hc
              have hc' : 0 < cmpV ls[i] mm.2 := hc.resolve_left hn0
              have : cmpV mm.2 ls[i] ≤ 0 := by have := ord_val.neg ls[i] mm.2; omega
              exact ord_val.trans _ _ _ k2 this
            · exact k2
        · rw [List.mem_singleton.1 h]; exact ⟨min_le, max_le⟩
      · rw [ez]
        intro _
        refine ⟨?_, ?_⟩
        · simp only
          split
          · exact ⟨hin, h0⟩
          · rename_i hc
            obtain ⟨⟨a1, a2⟩, _⟩ := h2 (by omega)
            exact ⟨hsub _ a1, a2⟩
        · simp only
          split
          · exact ⟨hin, h0⟩
          · rename_i hc
            obtain ⟨_, b1, b2⟩ := h2 (by omega)
            exact ⟨hsub _ b1, b2⟩
theorem ends_or (e1 e2 : Bool) : IntKind.i64.wrap (((BitVec.ofInt 64 ((e1.toNat + 2 * e2.toNat : Nat) : Int) ||| BitVec.ofInt 64 1).toNat : Int)) = ((true.toNat + 2 * e2.toNat : Nat) : Int) ∧ IntKind.i64.wrap (((BitVec.ofInt 64 ((e1.toNat + 2 * e2.toNat : Nat) : Int) ||| BitVec.ofInt 64 2).toNat : Int)) = ((e1.toNat + 2 * true.toNat : Nat) : Int) := by
  cases e1 <;> cases e2 <;> decide
theorem ChunkWithin_core {w : World} {a : Option Addr} {c : Nat} {ls : List Val} (hl : Rd w a (valsL ls)) : Calls Try.prog f.law08_ChunkWithin #[.slice a ls.length c] w (Ret fun r w' => r = .bool true ∧ Below w.heap.size w w') := by
  apply R.law08_ChunkWithin_calls
  unfold R.law08_ChunkWithin
  refine (shown_ok w).mono ?_
  rintro _ w1 ⟨_, rfl, rfl, B1⟩
  refine ⟨_, rfl, (chunk_Zone_ok (hl.grown B1)).mono ?_⟩
  rintro _ w2 ⟨_, rfl, h2, B2⟩
  obtain ⟨nz, p, e, rfl, hcase⟩ := h2.open
  have C2 := below_trans B1 B2
  refine ⟨_, _, _, _, _, _, _, _, rfl, (SH.start (fun _ => False) w2).newB fun b13 w3 hb13 B3 S3 => S3.sto7 0 rfl fun w10 K10 S10 => ?_⟩
  rcases hcase with ⟨hok, rfl, rfl, rfl⟩ | ⟨_, rfl⟩
  case inr => exact IFB_ne (fun _ => ⟨rfl, below_trans C2 S10.below⟩) (fun h => absurd h (by decide))
  refine IFB_ne (fun h => absurd rfl h) (fun _ => ?_)
  have hlen := hok.1
  have hW := within (ls := ls) ls.length (by omega)
  obtain ⟨q1, q2, q3⟩ := hW
  rw [List.take_length] at q1 q2 q3
  have hrr := zmm_right hok.2 ls.length (by omega)
  rw [List.take_length] at hrr
  obtain ⟨mm, hmm⟩ : ∃ mm, mm = zmm ls := ⟨_, rfl⟩
  rw [← hmm] at q1 q2 q3 hrr S10
  have S10' : SH (fun _ => False) w2 w10 [(b13, zC (nullsN ls : Int) mm, ty.api_Zone)] := S10
  refine ⟨fun s w11 => ∃ (i : Nat) (e1 e2 : Bool), i ≤ ls.length ∧ s = [.int .i64 (nullsN (ls.take i) : Int), .int .i64 ((e1.toNat + 2 * e2.toNat : Nat) : Int), .int .i64 (i : Int)] ∧ SH (fun _ => False) w2 w11 [(b13, zC (nullsN ls : Int) mm, ty.api_Zone)] ∧ (∀ v ∈ ls.take i, v.1 ≠ 0 → (cmpV v mm.1 = 0 → e1 = true) ∧ (cmpV v mm.2 = 0 → e2 = true)), fun s _ => match s with
      | [_, _, .int _ i] => ls.length - i.toNat
      | _ => 0, ⟨0, false, false, by omega, rfl, S10', by simp⟩, ?_⟩
  rintro _ _ _ w11 ⟨i, e1, e2, hi, hst, S11, hall⟩
  cases hst
  have C11 := below_trans C2 S11.below
  have hnl := nullsN_le (ls.take i)
  rw [List.length_take] at hnl
  refine IFB_dec (fun hlt => ⟨⟨by omega, hlt⟩, ?_⟩) (fun hge => ?_)
  · have hil : i < ls.length := by omega
    have hmem := List.getElem_mem hil
    obtain ⟨p, rfl, c0, c1, c2⟩ := val_at (hl.grown C11) hil
    have mes : ls.length - ((i + 1 : Nat) : Int).toNat < ls.length - ((i : Nat) : Int).toNat := by
      simp only [Int.toNat_natCast]
      omega
    rw [wrap_succ (k := i) (by omega)]
    refine ⟨_, by rw [Int.toNat_natCast]; exact c0, IFB_eq (fun hz => ?_) (fun hne => ?_)⟩
    · rw [wrap_succ (by omega)]
      refine ⟨⟨i + 1, e1, e2, by omega, by rw [nullsN_take hil, if_pos hz], S11, mem_take (p := fun v => v.1 ≠ 0 → (cmpV v mm.1 = 0 → e1 = true) ∧ (cmpV v mm.2 = 0 → e2 = true)) hil hall (fun h => absurd hz h)⟩, mes⟩
    · refine S11.drawB fun w12 B12 S12 => ⟨⟨by omega, hlt⟩, ?_⟩
      obtain ⟨p', hp', d0, d1, d2⟩ := val_at (hl.grown (below_trans C2 S12.below)) hil
      cases hp'
      refine ⟨_, by rw [Int.toNat_natCast]; exact d0, _, by rw [Int.toNat_natCast]; exact d1, _, by rw [Int.toNat_natCast]; exact d2, _, S12.cell 0 rfl rfl, _, S12.cell 0 rfl rfl, _, S12.cell 0 rfl rfl, (ref_Compare_ok w12 ls[i] mm.1).mono ?_⟩
      rintro _ w13 ⟨_, rfl, rfl, B13⟩
      have S13 := S12.grown B13
      refine ⟨_, rfl, S13.drawB fun w14 B14 S14 => ⟨⟨by omega, hlt⟩, ?_⟩⟩
      obtain ⟨p', hp', d0, d1, d2⟩ := val_at (hl.grown (below_trans C2 S14.below)) hil
      cases hp'
      refine ⟨_, by rw [Int.toNat_natCast]; exact d0, _, by rw [Int.toNat_natCast]; exact d1, _, by rw [Int.toNat_natCast]; exact d2, _, S14.cell 0 rfl rfl, _, S14.cell 0 rfl rfl, _, S14.cell 0 rfl rfl, (ref_Compare_ok w14 ls[i] mm.2).mono ?_⟩
      rintro _ w15 ⟨_, rfl, rfl, B15⟩
      have S15 := S14.grown B15
      rw [← cmp_ref (hok.2 _ hmem) hrr.1, ← cmp_ref (hok.2 _ hmem) hrr.2]
      obtain ⟨u1, u2⟩ := q1 _ hmem hne
      have hnn : nullsN (ls.take (i + 1)) = nullsN (ls.take i) := by rw [nullsN_take hil, if_neg hne]; rfl
      have fin : ∀ (f1 f2 : Bool), (e1 = true → f1 = true) → (e2 = true → f2 = true) → (cmpV ls[i] mm.1 = 0 → f1 = true) → (cmpV ls[i] mm.2 = 0 → f2 = true) →
          (∃ (j : Nat) (g1 g2 : Bool), j ≤ ls.length ∧ [Value.int .i64 (nullsN (ls.take i) : Int), .int .i64 ((f1.toNat + 2 * f2.toNat : Nat) : Int), .int .i64 ((i + 1 : Nat) : Int)] = [.int .i64 (nullsN (ls.take j) : Int), .int .i64 ((g1.toNat + 2 * g2.toNat : Nat) : Int), .int .i64 (j : Int)] ∧ SH (fun _ => False) w2 w15 [(b13, zC (nullsN ls : Int) mm, ty.api_Zone)] ∧ (∀ v ∈ ls.take j, v.1 ≠ 0 → (cmpV v mm.1 = 0 → g1 = true) ∧ (cmpV v mm.2 = 0 → g2 = true))) ∧ ls.length - ((i + 1 : Nat) : Int).toNat < ls.length - ((i : Nat) : Int).toNat := by
        intro f1 f2 a1 a2 a3 a4
        refine ⟨⟨i + 1, f1, f2, by omega, by rw [hnn], S15, mem_take (p := fun v => v.1 ≠ 0 → (cmpV v mm.1 = 0 → f1 = true) ∧ (cmpV v mm.2 = 0 → f2 = true)) hil (fun v hv hne => ⟨fun h => a1 ((hall v hv hne).1 h), fun h => a2 ((hall v hv hne).2 h)⟩) (fun _ => ⟨a3, a4⟩)⟩, mes⟩
      refine ⟨_, rfl, IFB_dec (fun h => by omega) (fun _ => IFB_dec (fun h => by omega) (fun _ => IFB_eq (fun z1 => IFB_eq (fun z2 => ?_) (fun z2 => ?_)) (fun z1 => IFB_eq (fun z2 => ?_) (fun z2 => ?_))))⟩
      · rw [(ends_or e1 e2).1, (ends_or true e2).2]
        exact fin true true (fun _ => rfl) (fun _ => rfl) (fun _ => rfl) (fun _ => rfl)
      · rw [(ends_or e1 e2).1]
        exact fin true e2 (fun _ => rfl) (fun h => h) (fun _ => rfl) (fun h => absurd h z2)
      · rw [(ends_or e1 e2).2]
        exact fin e1 true (fun h => h) (fun _ => rfl) (fun h => absurd h z1) (fun _ => rfl)
      · exact fin e1 e2 (fun h => h) (fun h => h) (fun h => absurd h z1) (fun h => absurd h z2)
  · have hie : ls.take i = ls := List.take_of_length_le (by omega)
    rw [hie] at hall ⊢
    have hnf := nulls_full ls
    refine IFB_true ⟨_, S11.cell 0 rfl rfl, IFB_eq (fun _ => IFB_eq (fun hall0 => ?_) (fun hne => ?_)) (fun h => absurd rfl h)⟩
    · have h0 : (fullL ls).length = 0 := by omega
      have hz := q3 h0
      subst hz
      refine ⟨_, S11.cell 0 rfl rfl, _, S11.cell 0 rfl rfl, _, S11.cell 0 rfl rfl, IFB_of (fun _ => ⟨_, S11.cell 0 rfl rfl, _, S11.cell 0 rfl rfl, _, S11.cell 0 rfl rfl, IFB_of (fun _ => ⟨rfl, C11⟩) (fun h => ?_)⟩) (fun h => ?_)⟩
      · simp [beq_str] at h
      · simp [beq_str] at h
    · have hp : 0 < (fullL ls).length := by omega
      obtain ⟨⟨a1, a2⟩, b1, b2⟩ := q2 hp
      have g1 := (hall _ a1 a2).1 (cmp_self _)
      have g2 := (hall _ b1 b2).2 (cmp_self _)
      subst g1 g2
      exact IFB_dec (fun _ => ⟨rfl, C11⟩) (fun h => by omega)
theorem ChunkWithin_ok (w : World) (a : Option Addr) (xs : List Val) (c : Nat) (g : GL w valC valQ a xs c) : Calls Try.prog f.law08_ChunkWithin #[.slice a xs.length c] w (Ret fun r w' => r = .bool true ∧ Below w.heap.size w w') := by
  obtain ⟨h1, _, _⟩ := vals_arg g
  exact ChunkWithin_core h1
end Go.Proofs.Ytbkffpcgppecgaa
