/-
  Texts of this claim, laid one behind the other by a program of mine (install.py): C.Ch4, C.Ch5.
-/
import Derived.Test.YtbkffpcgppecgaaM5
/-
  A column's values as bytes: both sides; the law ChunkWords.
-/
namespace Go.Proofs.Ytbkffpcgppecgaa
open Go.Dn Go.Proofs
open Go.RowKit (Below)
set_option linter.unusedVariables false
set_option maxRecDepth 20000

def headL (kind : Int) (ls : List Val) : List UInt8 := [UInt8.ofNat kind.toNat] ++ digitsL ls.length ++ digitsL (nullsN ls)
def maskL (ls : List Val) : List UInt8 := if 0 < nullsN ls ∧ nullsN ls < ls.length then packL (bitsN ls) 1 else []
structure ChIs (kind : Int) (ls : List Val) (b : List UInt8) : Prop where
  ex : ∃ o, (nullsN ls < ls.length → OthIs kind ls o) ∧ (¬ nullsN ls < ls.length → o = []) ∧ b = (headL kind ls ++ maskL ls ++ o) ++ sum4 (crc (headL kind ls ++ maskL ls ++ o))
theorem ChIs.one {kind : Int} {ls : List Val} {b c : List UInt8} (h : ChIs kind ls b) (h' : ChIs kind ls c) : b = c := by
  obtain ⟨o, h1, h2, rfl⟩ := h.ex
  obtain ⟨o', k1, k2, rfl⟩ := h'.ex
  have : o = o' := by
    by_cases hn : nullsN ls < ls.length
    · exact (h1 hn).one (k1 hn)
    · rw [h2 hn, k2 hn]
  rw [this]
/-- what Encode hands back -/
def ChV (kind : Int) (ls : List Val) (w w' : World) (r : Value) : Prop :=
  (rightL kind ls = false ∧ r = .tuple #[.slice none 0 0, .int .i64 2] ∧ Below w.heap.size w w') ∨ (rightL kind ls = true ∧ ∃ b a c, ChIs kind ls b ∧ r = .tuple #[.slice a b.length c, .int .i64 0] ∧ NewB w w' b a c)
theorem headL_len {kind : Int} {ls : List Val} (hg : Good1 kind ls) : (headL kind ls).length ≤ 21 := by
  have h1 := digitsL_len10 (n := ls.length) (by have := hg.len; omega)
  have h2 := digitsL_len10 (n := nullsN ls) (by have := hg.len; have := nullsN_le ls; omega)
  simp only [headL, List.length_append, List.length_cons, List.length_nil]
  omega
theorem maskL_len {kind : Int} {ls : List Val} (hg : Good1 kind ls) : (maskL ls).length ≤ 200 := by
  have := hg.len
  unfold maskL
  split
  · rw [packL_len]
    unfold sizeN
    have : (bitsN ls).length = ls.length := by simp [bitsN]
    rw [this]
    omega
  · simp
theorem bits_lt (ls : List Val) : ∀ x ∈ bitsN ls, x < 2 ^ 1 := by
  intro x hx
  obtain ⟨v, _, rfl⟩ := List.mem_map.1 hx
  split <;> omega
section
variable {w : World} {a : Option Addr} {c : Nat} {ls : List Val}
theorem chunk_Encode_ok (kind : Int) (hl : Rd w a (valsL ls)) (hn : ls.length ≤ 9223372036854775807) (hv : ∀ v ∈ ls, ValOk v) :
    Calls Try.prog f.chunk_Encode #[.int .i64 kind, .slice a ls.length c] w (Ret fun v w' => ChV kind ls w w' v) := by
  apply R.chunk_Encode_calls
  unfold R.chunk_Encode
  refine (chunk_right_ok kind hl hn).mono ?_
  rintro _ w1 ⟨_, rfl, rfl, B1⟩
  refine ⟨_, rfl, IFB_not (IFB_of (fun hr => ?_) (fun hr => .inl ⟨hr, rfl, B1⟩))⟩
  have hg : Good1 kind ls := ⟨hr, hv⟩
  have hlen := hg.len
  have hk := hg.kind
  have hnl := nullsN_le ls
  refine ⟨fun s w2 => ∃ (i : Nat) (ba : Option Addr) (bc : Nat), s = [.slice ba (bitsN (ls.take i)).length bc, .int .i64 (nullsN (ls.take i) : Int), .int .i64 (i : Int)] ∧ i ≤ ls.length ∧ NewU w1 w2 (bitsN (ls.take i)) ba bc, fun s _ => match s with
      | [_, _, .int _ i] => ls.length - i.toNat
      | _ => 0, ⟨0, none, 0, rfl, by omega, NewU.nil w1⟩, ?_⟩
  rintro ba _ bc _ _ w2 ⟨i, _, _, hst, hi, h2⟩
  cases hst
  have C2 := below_trans B1 h2.bel
  refine IFB_dec (fun hlt => ⟨⟨by omega, hlt⟩, ?_⟩) (fun hge => ?_)
  · have hil : i < ls.length := by omega
    obtain ⟨p, rfl, c0, c1, c2⟩ := val_at (hl.grown C2) hil
    have hbl : (bitsN (ls.take i)).length ≤ 1024 := by simp [bitsN]; omega
    have hnl2 := nullsN_le (ls.take i)
    rw [List.length_take] at hnl2
    have mes : ls.length - ((i + 1 : Nat) : Int).toNat < ls.length - ((i : Nat) : Int).toNat := by
      simp only [Int.toNat_natCast]
      omega
    refine ⟨_, by rw [Int.toNat_natCast]; exact c0, _, by rw [Int.toNat_natCast]; exact c1, _, by rw [Int.toNat_natCast]; exact c2, (SH.start (fun _ => False) w2).lit3 fun b13 w6 hb13 B6 S6 => ⟨_, S6.cell 0 rfl rfl, ?_⟩⟩
    rw [wrap_succ (by omega), wrap_succ (by omega)]
    refine IFB_eq (fun hz => ?_) (fun hz => ?_)
    · refine S6.newB fun b15 w7 hb15 B7 S7 => append_u64 ((h2.grown B6).grown B7) (by omega) (x := 1) rfl (S7.get 0 rfl) fun a8 c8 w8 h8 => ⟨_, _, _, rfl, ⟨i + 1, a8, c8, ?_, by omega, ?_⟩, mes⟩
      · rw [nullsN_take hil, bitsN_take hil, if_pos hz]
      · rw [bitsN_take hil, if_pos hz]; exact h8
    · refine S6.newB fun b15 w7 hb15 B7 S7 => append_u64 ((h2.grown B6).grown B7) (by omega) (x := 0) rfl (S7.get 0 rfl) fun a8 c8 w8 h8 => ⟨_, _, _, rfl, ⟨i + 1, a8, c8, ?_, by omega, ?_⟩, mes⟩
      · rw [nullsN_take hil, bitsN_take hil, if_neg hz]; rfl
      · rw [bitsN_take hil, if_neg hz]; exact h8
  have hie : ls.take i = ls := List.take_of_length_le (by omega)
  rw [hie] at h2 ⊢
  have hbl : (bitsN ls).length = ls.length := by simp [bitsN]
  rw [wrap_u8_id (by omega) (by omega)]
  refine (SH.start (fun _ => False) w2).newB fun b21 w11 hb21 B11 S11 => ?_
  have C11 := below_trans C2 B11
  have hN11 : Rd w11 (some ⟨b21, 0, none⟩) ([UInt8.ofNat kind.toNat].map byteV) := by
    have := Rd.of_block0 (S11.get 0 rfl)
    have e : Value.int .u8 kind = byteV (UInt8.ofNat kind.toNat) := by
      have := byteV_of (x := kind.toNat) (by omega)
      rw [← this]
      congr 1
      omega
    simpa [e] using this
  rw [wrap_u64_id (by omega) (by omega)]
  refine (wire_Number_ok (c := 1) [UInt8.ofNat kind.toNat] hN11 ls.length (by omega) (by simp)).mono ?_
  rintro _ w12 ⟨_, rfl, a12, c12, rfl, h12⟩
  have d1 := digitsL_len10 (n := ls.length) (by omega)
  rw [wrap_u64_id (by omega) (by omega)]
  refine ⟨_, _, _, rfl, (wire_Number_ok _ h12.rd (nullsN ls) (by omega) (by simp; omega)).mono ?_⟩
  rintro _ w13 ⟨_, rfl, a13, c13, rfl, h13⟩
  have C12 := below_trans C11 h12.bel
  have h13' := h13.before C12
  have hhead : [UInt8.ofNat kind.toNat] ++ digitsL ls.length ++ digitsL (nullsN ls) = headL kind ls := rfl
  rw [hhead] at h13' ⊢
  have hhl := headL_len hg
  have hml := maskL_len hg
  refine ⟨_, _, _, rfl, fun s w17 => ∃ (b : List UInt8) (ab : Option Addr) (cb : Nat), s = [.slice ab b.length cb] ∧ b = headL kind ls ++ maskL ls ∧ NewB w w17 b ab cb, ?_, ?_⟩
  · refine ⟨fun s w14 => ∃ t : Bool, s = [.bool t] ∧ w14 = w13 ∧ (t = true ↔ 0 < nullsN ls ∧ nullsN ls < ls.length), ?_, ?_⟩
    · refine IFB_dec (fun h => ⟨_, rfl, rfl, by simp; omega⟩) (fun h => ⟨_, rfl, rfl, by simp; omega⟩)
    rintro _ w14 ⟨t, hst, rfl, ht⟩
    cases hst
    refine IFB_of (fun h => ?_) (fun h => ?_)
    · have hcond := ht.1 h
      have hrd : Rd w14 ba ((bitsN ls).map u64V) := ((h2.row.rd.grown B11).grown h12.bel).grown h13.bel
      refine (pack_Pack_ok (wd := 1) hrd (by omega) (by omega) (bits_lt ls)).mono ?_
      rintro _ w15 ⟨_, rfl, a15, c15, rfl, h15⟩
      have hpl : (packL (bitsN ls) 1).length ≤ 200 := by
        have := maskL_len hg
        unfold maskL at this
        rwa [if_pos hcond] at this
      refine ⟨_, _, _, _, rfl, append_bytes (h13'.grown h15.bel).row h15.rd (by omega) fun a16 c16 w16 R16 K16 N16 => ⟨_, _, _, rfl, _, a16, c16, rfl, ?_, h13'.appended h15.bel R16 K16 N16⟩⟩
      unfold maskL
      rw [if_pos hcond]
    · have hcond : ¬ (0 < nullsN ls ∧ nullsN ls < ls.length) := fun hh => by rw [ht.2 hh] at h; cases h
      refine ⟨_, a13, c13, rfl, ?_, h13'⟩
      unfold maskL
      rw [if_neg hcond, List.append_nil]
  rintro ab _ cb w17 ⟨b, _, _, hst, hb, h17⟩
  cases hst
  have hbl2 : b.length ≤ 221 := by rw [hb, List.length_append]; omega
  refine ⟨fun s w20 => ∃ (o b2 : List UInt8) (ab : Option Addr) (cb : Nat), s = [.slice ab b2.length cb] ∧ b2 = b ++ o ∧ o.length ≤ 2000000 ∧ (nullsN ls < ls.length → OthIs kind ls o) ∧ (¬ nullsN ls < ls.length → o = []) ∧ NewB w w20 b2 ab cb, ?_, ?_⟩
  · refine IFB_dec (fun h => ?_) (fun h => ⟨[], b, ab, cb, rfl, by simp, by simp, fun hh => absurd hh (by omega), fun _ => rfl, h17⟩)
    refine (chunk_encoded_ok hg (hl.grown h17.bel)).mono ?_
    rintro _ w18 ⟨_, rfl, o, a18, c18, rfl, hO, h18⟩
    have hol := hO.len hg
    refine ⟨_, _, _, rfl, append_bytes (h17.grown h18.bel).row h18.rd (by omega) fun a19 c19 w19 R19 K19 N19 => ⟨_, _, _, rfl, o, _, a19, c19, rfl, rfl, hol, fun _ => hO, fun hh => absurd (by omega) hh, h17.appended h18.bel R19 K19 N19⟩⟩
  rintro ab2 _ cb2 w20 ⟨o, b2, _, _, hst, hb2, hol, ho1, ho2, h20⟩
  cases hst
  have hb2l : b2.length ≤ 2000221 := by rw [hb2, List.length_append]; omega
  refine (SH.start (fun _ => False) w20).newB fun b41 w21 hb41 B21 S21 => ?_
  have hS := wire_Sum_ok (w := w21) (a := some ⟨b41, 0, none⟩) (c := 1) [(ab2, cb2, b2)] (by
    have := Rd.of_block0 (S21.get 0 rfl)
    simpa [partV1] using this) (by
    intro p hp
    rw [List.mem_singleton.1 hp]
    exact h20.rd.grown B21) (by simp) (by
    intro p hp
    rw [List.mem_singleton.1 hp]
    simp only
    omega)
  refine hS.mono ?_
  rintro _ w22 ⟨_, rfl, rfl, rfl⟩
  have ef : ([(ab2, cb2, b2)] : List PartB).flatMap (·.2.2) = b2 := by simp
  rw [ef]
  refine ⟨_, rfl, (SH.start (fun _ => False) w22).newB fun b44 w23 hb44 B23 S23 => ?_⟩
  have hR := sealed_bytes (crc b2) w23 b44 _ (S23.get 0 rfl)
  have h23 := (h20.grown B21).grown B23
  refine append_bytes (m := sum4 (crc b2)) h23.row hR (by simp [sum4]; omega) fun a24 c24 w24 R24 K24 N24 => ⟨_, _, _, rfl, .inr ⟨hr, _, a24, c24, ⟨o, ho1, ho2, ?_⟩, rfl, h20.appended (below_trans B21 B23) R24 K24 N24⟩⟩
  rw [hb2, hb]
theorem ref08_Encode_ok (kind : Int) (hl : Rd w a (valsL ls)) (hn : ls.length ≤ 9223372036854775807) (hv : ∀ v ∈ ls, ValOk v) :
    Calls Try.prog f.ref08_Encode #[.int .i64 kind, .slice a ls.length c] w (Ret fun v w' => ChV kind ls w w' v) := by
  apply R.ref08_Encode_calls
  unfold R.ref08_Encode
  refine (ref08_Right_ok kind hl hn).mono ?_
  rintro _ w1 ⟨_, rfl, rfl, B1⟩
  refine ⟨_, rfl, IFB_not (IFB_of (fun hr => ?_) (fun hr => .inl ⟨hr, rfl, B1⟩))⟩
  have hg : Good1 kind ls := ⟨hr, hv⟩
  have hlen := hg.len
  have hk := hg.kind
  have hnl := nullsN_le ls
  refine (ref08_nulls_ok (hl.grown B1) (by omega)).mono ?_
  rintro _ w2 ⟨_, rfl, rfl, rfl⟩
  have hbl : (bitsN ls).length = ls.length := by simp [bitsN]
  rw [wrap_u8_id (by omega) (by omega)]
  refine ⟨_, rfl, (SH.start (fun _ => False) w2).newB fun b21 w11 hb21 B11 S11 => ?_⟩
  have C11 := below_trans B1 B11
  have hN11 : Rd w11 (some ⟨b21, 0, none⟩) ([UInt8.ofNat kind.toNat].map byteV) := by
    have := Rd.of_block0 (S11.get 0 rfl)
    have e : Value.int .u8 kind = byteV (UInt8.ofNat kind.toNat) := by
      have := byteV_of (x := kind.toNat) (by omega)
      rw [← this]
      congr 1
      omega
    simpa [e] using this
  rw [wrap_u64_id (by omega) (by omega)]
  refine (ref_Number_ok (c := 1) [UInt8.ofNat kind.toNat] hN11 ls.length (by omega) (by simp)).mono ?_
  rintro _ w12 ⟨_, rfl, a12, c12, rfl, h12⟩
  have d1 := digitsL_len10 (n := ls.length) (by omega)
  rw [wrap_u64_id (by omega) (by omega)]
  refine ⟨_, _, _, rfl, (ref_Number_ok _ h12.rd (nullsN ls) (by omega) (by simp; omega)).mono ?_⟩
  rintro _ w13 ⟨_, rfl, a13, c13, rfl, h13⟩
  have C12 := below_trans C11 h12.bel
  have h13' := h13.before C12
  have hhead : [UInt8.ofNat kind.toNat] ++ digitsL ls.length ++ digitsL (nullsN ls) = headL kind ls := rfl
  rw [hhead] at h13' ⊢
  have hhl := headL_len hg
  have hml := maskL_len hg
  refine ⟨_, _, _, rfl, fun s w17 => ∃ (b : List UInt8) (ab : Option Addr) (cb : Nat), s = [.slice ab b.length cb] ∧ b = headL kind ls ++ maskL ls ∧ NewB w w17 b ab cb, ?_, ?_⟩
  · refine ⟨fun s w14 => ∃ t : Bool, s = [.bool t] ∧ w14 = w13 ∧ (t = true ↔ 0 < nullsN ls ∧ nullsN ls < ls.length), ?_, ?_⟩
    · refine IFB_dec (fun h => ⟨_, rfl, rfl, by simp; omega⟩) (fun h => ⟨_, rfl, rfl, by simp; omega⟩)
    rintro _ w14 ⟨t, hst, rfl, ht⟩
    cases hst
    refine IFB_of (fun h => ?_) (fun h => ?_)
    · have hcond := ht.1 h
      have hpl : (packL (bitsN ls) 1).length ≤ 200 := by
        have := maskL_len hg
        unfold maskL at this
        rwa [if_pos hcond] at this
      refine ⟨fun s w2 => ∃ (i : Nat) (ba : Option Addr) (bc : Nat), s = [.slice ba (bitsN (ls.take i)).length bc, .int .i64 (i : Int)] ∧ i ≤ ls.length ∧ NewU w14 w2 (bitsN (ls.take i)) ba bc, fun s _ => match s with
          | [_, .int _ i] => ls.length - i.toNat
          | _ => 0, ⟨0, none, 0, rfl, by omega, NewU.nil w14⟩, ?_⟩
      rintro ba _ bc _ w7 ⟨i, _, _, hst, hi, h2⟩
      cases hst
      have C2 := below_trans h13'.bel h2.bel
      refine IFB_dec (fun hlt => ⟨⟨by omega, hlt⟩, ?_⟩) (fun hge => ?_)
      · have hil : i < ls.length := by omega
        obtain ⟨p, rfl, c0, c1, c2⟩ := val_at (hl.grown C2) hil
        have hbl : (bitsN (ls.take i)).length ≤ 1024 := by simp [bitsN]; omega
        have mes : ls.length - ((i + 1 : Nat) : Int).toNat < ls.length - ((i : Nat) : Int).toNat := by
          simp only [Int.toNat_natCast]
          omega
        refine ⟨_, by rw [Int.toNat_natCast]; exact c0, ?_⟩
        rw [wrap_succ (by omega)]
        refine IFB_eq (fun hz => ?_) (fun hz => ?_)
        · refine (SH.start (fun _ => False) w7).newB fun b15 w8 hb15 B7 S7 => append_u64 (h2.grown B7) (by omega) (x := 1) rfl (S7.get 0 rfl) fun a8 c8 w8 h8 => ⟨_, _, _, rfl, ⟨i + 1, a8, c8, ?_, by omega, ?_⟩, mes⟩
          · rw [bitsN_take hil, if_pos hz]
          · rw [bitsN_take hil, if_pos hz]; exact h8
        · refine (SH.start (fun _ => False) w7).newB fun b15 w8 hb15 B7 S7 => append_u64 (h2.grown B7) (by omega) (x := 0) rfl (S7.get 0 rfl) fun a8 c8 w8 h8 => ⟨_, _, _, rfl, ⟨i + 1, a8, c8, ?_, by omega, ?_⟩, mes⟩
          · rw [bitsN_take hil, if_neg hz]
          · rw [bitsN_take hil, if_neg hz]; exact h8
      have hie : ls.take i = ls := List.take_of_length_le (by omega)
      rw [hie] at h2 ⊢
      refine (ref_Pack_ok (wd := 1) h2.row.rd (by omega) (by omega) (bits_lt ls)).mono ?_
      rintro _ w15 ⟨_, rfl, a15, c15, rfl, h15⟩
      refine ⟨_, _, _, _, rfl, append_bytes (h13'.grown (below_trans h2.bel h15.bel)).row h15.rd (by omega) fun a16 c16 w16 R16 K16 N16 => ⟨_, _, _, rfl, _, a16, c16, rfl, ?_, h13'.appended (below_trans h2.bel h15.bel) R16 K16 N16⟩⟩
      unfold maskL
      rw [if_pos hcond]
    · have hcond : ¬ (0 < nullsN ls ∧ nullsN ls < ls.length) := fun hh => by rw [ht.2 hh] at h; cases h
      refine ⟨_, a13, c13, rfl, ?_, h13'⟩
      unfold maskL
      rw [if_neg hcond, List.append_nil]
  rintro ab _ cb w17 ⟨b, _, _, hst, hb, h17⟩
  cases hst
  have hbl2 : b.length ≤ 221 := by rw [hb, List.length_append]; omega
  refine ⟨fun s w20 => ∃ (o b2 : List UInt8) (ab : Option Addr) (cb : Nat), s = [.slice ab b2.length cb] ∧ b2 = b ++ o ∧ o.length ≤ 2000000 ∧ (nullsN ls < ls.length → OthIs kind ls o) ∧ (¬ nullsN ls < ls.length → o = []) ∧ NewB w w20 b2 ab cb, ?_, ?_⟩
  · refine IFB_dec (fun h => ?_) (fun h => ⟨[], b, ab, cb, rfl, by simp, by simp, fun hh => absurd hh (by omega), fun _ => rfl, h17⟩)
    refine (ref08_others_ok hg (hl.grown h17.bel)).mono ?_
    rintro _ w18 ⟨_, rfl, o, a18, c18, rfl, hO, h18⟩
    have hol := hO.len hg
    refine ⟨_, _, _, rfl, append_bytes (h17.grown h18.bel).row h18.rd (by omega) fun a19 c19 w19 R19 K19 N19 => ⟨_, _, _, rfl, o, _, a19, c19, rfl, rfl, hol, fun _ => hO, fun hh => absurd (by omega) hh, h17.appended h18.bel R19 K19 N19⟩⟩
  rintro ab2 _ cb2 w20 ⟨o, b2, _, _, hst, hb2, hol, ho1, ho2, h20⟩
  cases hst
  have hb2l : b2.length ≤ 2000221 := by rw [hb2, List.length_append]; omega
  refine (ref02_Sum_ok b2 h20.rd (by omega)).mono ?_
  rintro _ w22 ⟨_, rfl, rfl, rfl⟩
  refine ⟨_, rfl, (SH.start (fun _ => False) w22).newB fun b44 w23 hb44 B23 S23 => ?_⟩
  have hR := sealed_bytes (crc b2) w23 b44 _ (S23.get 0 rfl)
  have h23 := h20.grown B23
  refine append_bytes (m := sum4 (crc b2)) h23.row hR (by simp [sum4]; omega) fun a24 c24 w24 R24 K24 N24 => ⟨_, _, _, rfl, .inr ⟨hr, _, a24, c24, ⟨o, ho1, ho2, ?_⟩, rfl, h20.appended B23 R24 K24 N24⟩⟩
  rw [hb2, hb]
end
end Go.Proofs.Ytbkffpcgppecgaa

/-
  The law ChunkWords.
-/
namespace Go.Proofs.Ytbkffpcgppecgaa
open Go.Dn Go.Proofs
open Go.RowKit (Below)
set_option linter.unusedVariables false
set_option maxRecDepth 20000
theorem best_zero {s : Nat → Nat} (h1 : s 0 ≤ s 1) (h2 : s 0 ≤ s 2) (h3 : s 0 ≤ s 3) : bestTo s 4 = 0 := by
  obtain ⟨q1, q2, q3⟩ := bestTo_spec s 4 (by omega)
  rcases (by omega : bestTo s 4 = 0 ∨ bestTo s 4 = 1 ∨ bestTo s 4 = 2 ∨ bestTo s 4 = 3) with e | e | e | e
  · exact e
  · have := q3 0 (by omega); rw [e] at this; omega
  · have := q3 0 (by omega); rw [e] at this; omega
  · have := q3 0 (by omega); rw [e] at this; omega
def showVals : List Val := [(2, 1, E0), (0, 0, E0)]
theorem sig1 : sigL 1 = [2] := by
  have : zigN 1 = 2 := by decide
  unfold sigL
  rw [this, digitsL_small (by decide)]
  rfl
theorem show_ints : intsL (bestN [1]) [1] = [0, 2] := by
  have s0 : intsL 0 [1] = [0, 2] := by simp [intsL, sig1]
  have hb : bestN [1] = 0 := by
    refine best_zero ?_ ?_ ?_
    · have : sizeI [1] 1 = (runsL [1]).length + 1 := rfl
      rw [this]
      have hd := List.length_pos_iff.2 (digitsL_pos (0 + 1))
      have : 1 ≤ (runsL [1]).length := by
        unfold runsL
        simp only [List.takeWhile_nil, List.length_nil, List.length_append]
        omega
      unfold sizeI
      rw [s0]
      simp only [List.length_cons, List.length_nil]
      omega
    · unfold sizeI
      rw [s0]
      simp [intsL, packedL]
      omega
    · unfold sizeI
      rw [s0]
      simp [intsL, packedL]
      omega
  rw [hb, s0]
theorem show_body : ∃ r, r.length = 4 ∧ ChIs 2 showVals ([2, 2, 1, 2, 0, 2] ++ r) := by
  refine ⟨sum4 (crc [2, 2, 1, 2, 0, 2]), rfl, ⟨[0, 2], fun _ => ?_, fun h => absurd (by decide) h, ?_⟩⟩
  · have := OthIs.num (kind := 2) (ls := showVals) (by decide)
    have e : numsL showVals = [1] := by decide
    rw [e, show_ints] at this
    exact this
  · have h1 : headL 2 showVals = [2, 2, 1] := by
      have e1 : showVals.length = 2 := rfl
      have e2 : nullsN showVals = 1 := by decide
      unfold headL
      rw [e1, e2, digitsL_small (by decide), digitsL_small (by decide)]
      rfl
    have h2 : maskL showVals = [2] := by decide
    rw [h1, h2]
    rfl
theorem valok_small {v : Val} (h1 : -10 ≤ v.2.1) (h2 : v.2.1 ≤ 10) : ValOk v := ⟨by omega, by omega⟩
theorem shown_ok (w : World) : Calls Try.prog f.law08_shown #[] w (Ret fun r w' => r = .bool true ∧ Below w.heap.size w w') := by
  apply R.law08_shown_calls
  unfold R.law08_shown
  refine (SH.start (fun _ => False) w).newB fun b1 w1 hb B1 S1 => ?_
  have hl : Rd w1 (some ⟨b1, 0, none⟩) (valsL showVals) := by
    have := Rd.of_block0 (S1.get 0 rfl)
    simpa [showVals, valC] using this
  refine (chunk_Encode_ok (c := 2) 2 hl (by decide) (by
    intro v hv
    simp only [showVals, List.mem_cons, List.not_mem_nil, or_false] at hv
    rcases hv with rfl | rfl <;> exact valok_small (by decide) (by decide))).mono ?_
  rintro _ w2 ⟨_, rfl, h2⟩
  rcases h2 with ⟨hr, _⟩ | ⟨hr, bs, a2, c2, hI, rfl, h2⟩
  · exact absurd hr (by decide)
  obtain ⟨r, hr4, hI'⟩ := show_body
  obtain rfl := hI.one hI'
  have hlen : ([2, 2, 1, 2, 0, 2] ++ r).length = 10 := by simp [hr4]
  have hc10 : 10 ≤ c2 := by have := h2.row.le; omega
  refine ⟨_, _, _, _, rfl, IFB_eq (fun _ => IFB_eq (fun _ => ⟨⟨by omega, by omega, by omega⟩, ?_⟩) (fun h => absurd (by rw [hlen]; rfl) h)) (fun h => absurd rfl h)⟩
  have hsl : Rd w2 (SLA a2 0 c2 1) (([2, 2, 1, 2, 0, 2] : List UInt8).map byteV) := by
    have := h2.rd.sla 0 6 c2 1 (by omega)
    simpa using this
  refine string_of_bytes tbytes rfl hsl ⟨_, rfl, ?_, below_trans B1 h2.bel⟩
  rw [bytesEq_iff]
  congr 1
theorem ChV.open {kind : Int} {ls : List Val} {w w' : World} {r : Value} (h : ChV kind ls w w' r) : ∃ (bs : List UInt8) (a : Option Addr) (c : Nat) (e : Int), r = .tuple #[.slice a bs.length c, .int .i64 e] ∧ Rd w' a (bs.map byteV) ∧ Below w.heap.size w w' ∧ ((rightL kind ls = true ∧ ChIs kind ls bs ∧ e = 0) ∨ (rightL kind ls = false ∧ bs = [] ∧ e = 2)) := by
  rcases h with ⟨h1, rfl, hb⟩ | ⟨h1, b, a, c, h2, rfl, h3⟩
  · exact ⟨[], none, 0, 2, rfl, Rd.nil _ _, hb, .inr ⟨h1, rfl, rfl⟩⟩
  · exact ⟨b, a, c, 0, rfl, h3.rd, h3.bel, .inl ⟨h1, h2, rfl⟩⟩
theorem ChunkWords_core {w : World} {a : Option Addr} {c : Nat} {ls : List Val} (kind : Int) (hl : Rd w a (valsL ls)) (hn : ls.length ≤ 9223372036854775807) (hv : ∀ v ∈ ls, ValOk v) :
    Calls Try.prog f.law08_ChunkWords #[.int .i64 kind, .slice a ls.length c] w (Ret fun r w' => r = .bool true ∧ Below w.heap.size w w') := by
  apply R.law08_ChunkWords_calls
  unfold R.law08_ChunkWords
  refine (shown_ok w).mono ?_
  rintro _ w1 ⟨_, rfl, rfl, B1⟩
  refine ⟨_, rfl, (chunk_Encode_ok kind (hl.grown B1) hn hv).mono ?_⟩
  rintro _ w2 ⟨_, rfl, h2⟩
  obtain ⟨b2, a2, c2, e2, rfl, R2, B2, q2⟩ := h2.open
  have C2 := below_trans B1 B2
  refine ⟨_, _, _, _, rfl, (ref08_Encode_ok kind (hl.grown C2) hn hv).mono ?_⟩
  rintro _ w3 ⟨_, rfl, h3⟩
  obtain ⟨b3, a3, c3, e3, rfl, R3, B3, q3⟩ := h3.open
  have C3 := below_trans C2 B3
  have hone : b2 = b3 ∧ e2 = e3 := by
    rcases q2 with ⟨h1, u2, rfl⟩ | ⟨h1, rfl, rfl⟩ <;> rcases q3 with ⟨g1, g2, rfl⟩ | ⟨g1, rfl, rfl⟩
    · exact ⟨u2.one g2, rfl⟩
    · rw [h1] at g1; cases g1
    · rw [h1] at g1; cases g1
    · exact ⟨rfl, rfl⟩
  obtain ⟨rfl, rfl⟩ := hone
  refine ⟨_, _, _, _, rfl, IFB_true (string_of_bytes tbytes rfl (R2.grown B3) ⟨_, rfl, string_of_bytes tbytes rfl R3 ⟨_, rfl, ?_⟩⟩)⟩
  rw [bytesEq_iff]
  exact IFB_dec (fun _ => ⟨by simp, C3⟩) (fun h => absurd rfl h)
theorem vals_arg {w : World} {a : Option Addr} {xs : List Val} {c : Nat} (g : GL w valC valQ a xs c) : Rd w a (valsL xs) ∧ xs.length ≤ 9223372036854775807 ∧ ∀ v ∈ xs, ValOk v :=
  ⟨g.2.2.2.1, Nat.le_trans (Nat.le_trans g.1 g.2.1) (by decide), fun v hv => (g.2.2.2.2 v hv).1⟩
theorem ChunkWords_ok (w : World) (kind : Int) (a : Option Addr) (xs : List Val) (c : Nat) (g : GL w valC valQ a xs c) :
    Calls Try.prog f.law08_ChunkWords #[.int .i64 kind, .slice a xs.length c] w (Ret fun r w' => r = .bool true ∧ Below w.heap.size w w') := by
  obtain ⟨h1, h2, h3⟩ := vals_arg g
  exact ChunkWords_core kind h1 h2 h3
end Go.Proofs.Ytbkffpcgppecgaa
