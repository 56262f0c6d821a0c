/-
  Best; the law DictWords.
-/
import Derived.Test.YtmilfgmkcmcicaaRefEnc3
import Derived.Test.YtmilfgmkcmcicaaDnFin2
namespace Go.Proofs.Ytmilfgmkcmcicaa
open Go.Dn Go.Proofs
open Go.RowKit (Below)
set_option linter.unusedVariables false
set_option maxRecDepth 20000

theorem enc_open {f : Int} {ls : List ByteArray} {w w' : World} {r : Value} (h : EncV f ls w w' r) : ∃ (bs : List UInt8) (a : Option Addr) (c : Nat) (e : Int), r = .tuple #[.slice a bs.length c, .int .i64 e] ∧ Rd w' a (bs.map byteV) ∧ Below w.heap.size w w' ∧ ((encOk f ls ∧ EncIs ls f bs ∧ e = 0) ∨ (¬ encOk f ls ∧ bs = [] ∧ e = 2)) := by
  rcases h with ⟨h1, rfl, hb⟩ | ⟨h1, b, a, c, h2, rfl, h3⟩
  · exact ⟨[], none, 0, 2, rfl, Rd.nil _ _, hb, .inr ⟨h1, rfl, rfl⟩⟩
  · exact ⟨b, a, c, 0, rfl, h3.rd, h3.bel, .inl ⟨h1, h2, rfl⟩⟩
theorem enc_one {f : Int} {ls : List ByteArray} {b c : List UInt8} {e g : Int} (h : (encOk f ls ∧ EncIs ls f b ∧ e = 0) ∨ (¬ encOk f ls ∧ b = [] ∧ e = 2)) (h' : (encOk f ls ∧ EncIs ls f c ∧ g = 0) ∨ (¬ encOk f ls ∧ c = [] ∧ g = 2)) : b = c ∧ e = g := by
  rcases h with ⟨h1, h2, rfl⟩ | ⟨h1, rfl, rfl⟩ <;> rcases h' with ⟨g1, g2, rfl⟩ | ⟨g1, rfl, rfl⟩
  · exact ⟨h2.one g2, rfl⟩
  · exact absurd h1 g1
  · exact absurd g1 h1
  · exact ⟨rfl, rfl⟩
theorem ok01 (ls : List ByteArray) : encOk 0 ls ↔ encOk 1 ls := by simp [encOk]
def BestV (ls : List ByteArray) (r : Value) : Prop :=
  (¬ encOk 0 ls ∧ r = .tuple #[.int .i64 0, .int .i64 2]) ∨ (∃ b0 b1, EncIs ls 0 b0 ∧ EncIs ls 1 b1 ∧ encOk 0 ls ∧ r = .tuple #[.int .i64 (if b1.length < b0.length then 1 else 0), .int .i64 0])
theorem BestV.one {ls : List ByteArray} {r s : Value} (h : BestV ls r) (h' : BestV ls s) : r = s := by
  rcases h with ⟨h1, rfl⟩ | ⟨b0, b1, h2, h3, h1, rfl⟩ <;> rcases h' with ⟨g1, rfl⟩ | ⟨c0, c1, g2, g3, g1, rfl⟩
  · rfl
  · exact absurd g1 h1
  · exact absurd h1 g1
  · rw [h2.one g2, h3.one g3]
section
variable {w : World} {a : Option Addr} {c : Nat} {ls : List ByteArray}
theorem dict_Best_ok (hl : Rd w a (ls.map Value.string)) (hn : ls.length ≤ 9223372036854775807) : Calls Try.prog f.dict_Best #[.slice a ls.length c] w (Ret fun v w' => BestV ls v ∧ Below w.heap.size w w') := by
  apply R.dict_Best_calls
  unfold R.dict_Best
  refine (dict_Encode_ok 0 hl hn).mono ?_
  rintro _ w1 ⟨_, rfl, h1⟩
  obtain ⟨b0, a0, c0, e0, rfl, _, B1, q0⟩ := enc_open h1
  refine ⟨_, _, _, _, rfl, (dict_Encode_ok 1 (hl.grown B1) hn).mono ?_⟩
  rintro _ w2 ⟨_, rfl, h2⟩
  obtain ⟨b1, a1, c1, e1, rfl, _, B2, q1⟩ := enc_open h2
  have B := below_trans B1 B2
  refine ⟨_, _, _, _, rfl, ?_⟩
  rcases q0 with ⟨k0, i0, rfl⟩ | ⟨k0, rfl, rfl⟩
  · rcases q1 with ⟨k1, i1, rfl⟩ | ⟨k1, _⟩
    · refine IFB_ne (fun h => absurd rfl h) (fun _ => IFB_dec (fun h => ⟨.inr ⟨b0, b1, i0, i1, k0, ?_⟩, B⟩) (fun h => ⟨.inr ⟨b0, b1, i0, i1, k0, ?_⟩, B⟩))
      · rw [if_neg (by omega)]
      · rw [if_pos (by omega)]
    · exact absurd ((ok01 ls).1 k0) k1
  · exact IFB_ne (fun _ => ⟨.inl ⟨k0, rfl⟩, B⟩) (fun h => absurd h (by decide))
theorem ref_Best_ok (hl : Rd w a (ls.map Value.string)) (hn : ls.length ≤ 9223372036854775807) : Calls Try.prog f.ref07_Best #[.slice a ls.length c] w (Ret fun v w' => BestV ls v ∧ Below w.heap.size w w') := by
  apply R.ref07_Best_calls
  unfold R.ref07_Best
  refine (ref_Encode_ok 0 hl hn).mono ?_
  rintro _ w1 ⟨_, rfl, h1⟩
  obtain ⟨b0, a0, c0, e0, rfl, _, B1, q0⟩ := enc_open h1
  refine ⟨_, _, _, _, rfl, (ref_Encode_ok 1 (hl.grown B1) hn).mono ?_⟩
  rintro _ w2 ⟨_, rfl, h2⟩
  obtain ⟨b1, a1, c1, e1, rfl, _, B2, q1⟩ := enc_open h2
  have B := below_trans B1 B2
  refine ⟨_, _, _, _, rfl, ?_⟩
  rcases q0 with ⟨k0, i0, rfl⟩ | ⟨k0, rfl, rfl⟩
  · rcases q1 with ⟨k1, i1, rfl⟩ | ⟨k1, _⟩
    · refine IFB_ne (fun h => absurd rfl h) (fun _ => IFB_dec (fun h => ⟨.inr ⟨b0, b1, i0, i1, k0, ?_⟩, B⟩) (fun h => ⟨.inr ⟨b0, b1, i0, i1, k0, ?_⟩, B⟩))
      · rw [if_pos (by omega)]
      · rw [if_neg (by omega)]
    · exact absurd ((ok01 ls).1 k0) k1
  · exact IFB_ne (fun _ => ⟨.inl ⟨k0, rfl⟩, B⟩) (fun h => absurd h (by decide))
end
def bab : List ByteArray := [⟨#[98]⟩, ⟨#[97]⟩, ⟨#[98]⟩]
theorem bab_enc : EncIs bab 1 [1, 2, 1, 97, 1, 98, 1, 5] := by
  have h := EncIs.table (ls := bab) [[97], [98]] 1 ⟨by decide, fun x => by simp [bab, bl]; exact fun h => .inr h⟩ ⟨by decide, .inr (by decide)⟩
  have e : ((1 :: digitsL ([[97], [98]] : List (List UInt8)).length) ++ (laidL (([[97], [98]] : List (List UInt8)).map sof) ++ (UInt8.ofNat 1 :: packL (placesL [[97], [98]] bab) 1))) = [1, 2, 1, 97, 1, 98, 1, 5] := by
    have d2 : digitsL 2 = [2] := digitsL_small (by decide)
    have d1 : digitsL 1 = [1] := digitsL_small (by decide)
    have p : packL (placesL [[97], [98]] bab) 1 = [5] := by decide
    have l : laidL (([[97], [98]] : List (List UInt8)).map sof) = [1, 97, 1, 98] := by
      simp only [laidL, textL, List.map_cons, List.map_nil, List.flatMap_cons, List.flatMap_nil, size_sof, bl_sof, List.length_cons, List.length_nil, Nat.zero_add, d1]
      rfl
    rw [p, l]
    simp only [List.length_cons, List.length_nil, Nat.zero_add, Nat.reduceAdd, d2]
    rfl
  rw [e] at h
  exact h
theorem shown_ok (w : World) : Calls Try.prog f.law07_shown #[] w (Ret fun r w' => r = .bool true ∧ Below w.heap.size w w') := by
  apply R.law07_shown_calls
  unfold R.law07_shown
  refine (SH.start (fun _ => False) w).newB fun b1 w1 hb B1 S1 => ?_
  have hl : Rd w1 (some ⟨b1, 0, none⟩) (bab.map Value.string) := by
    have := Rd.of_block0 (S1.get 0 rfl)
    simpa [bab] using this
  refine (dict_Encode_ok (c := 3) 1 hl (by decide)).mono ?_
  rintro _ w2 ⟨_, rfl, h2⟩
  obtain ⟨bs, a2, c2, e2, rfl, hR, B2, q⟩ := enc_open h2
  have hok : encOk 1 bab := by decide
  obtain ⟨rfl, rfl⟩ := enc_one q (.inl ⟨hok, bab_enc, rfl⟩)
  refine ⟨_, _, _, _, rfl, IFB_true (string_of_bytes tbytes rfl hR ⟨_, rfl, ?_, below_trans B1 B2⟩)⟩
  rw [bytesEq_iff]
  rfl
theorem best_open {ls : List ByteArray} {r : Value} (h : BestV ls r) : ∃ x e : Int, r = .tuple #[.int .i64 x, .int .i64 e] := by
  rcases h with ⟨_, rfl⟩ | ⟨_, _, _, _, _, rfl⟩ <;> exact ⟨_, _, rfl⟩
theorem DictWords_core {w : World} {a : Option Addr} {c : Nat} {ls : List ByteArray} (form : Int) (hl : Rd w a (ls.map Value.string)) (hn : ls.length ≤ 9223372036854775807) :
    Calls Try.prog f.law07_DictWords #[.int .i64 form, .slice a ls.length c] w (Ret fun r w' => r = .bool true ∧ Below w.heap.size w w') := by
  apply R.law07_DictWords_calls
  unfold R.law07_DictWords
  refine (shown_ok w).mono ?_
  rintro _ w1 ⟨_, rfl, rfl, B1⟩
  refine ⟨_, rfl, (dict_Encode_ok form (hl.grown B1) hn).mono ?_⟩
  rintro _ w2 ⟨_, rfl, h2⟩
  obtain ⟨b2, a2, c2, e2, rfl, r2, B2, q2⟩ := enc_open h2
  have C2 := below_trans B1 B2
  refine ⟨_, _, _, _, rfl, (ref_Encode_ok form (hl.grown C2) hn).mono ?_⟩
  rintro _ w3 ⟨_, rfl, h3⟩
  obtain ⟨b3, a3, c3, e3, rfl, r3, B3, q3⟩ := enc_open h3
  have C3 := below_trans C2 B3
  obtain ⟨rfl, rfl⟩ := enc_one q2 q3
  refine ⟨_, _, _, _, rfl, (dict_Best_ok (hl.grown C3) hn).mono ?_⟩
  rintro _ w4 ⟨_, rfl, h4, B4⟩
  have C4 := below_trans C3 B4
  obtain ⟨x, e, rfl⟩ := best_open h4
  refine ⟨_, _, rfl, (ref_Best_ok (hl.grown C4) hn).mono ?_⟩
  rintro _ w5 ⟨_, rfl, h5, B5⟩
  have := h5.one h4
  subst this
  have C5 := below_trans C4 B5
  refine ⟨_, _, rfl, IFB_true (string_of_bytes tbytes rfl (((r2.grown B3).grown B4).grown B5) ⟨_, rfl, string_of_bytes tbytes rfl ((r3.grown B4).grown B5) ⟨_, rfl, ?_⟩⟩)⟩
  rw [bytesEq_iff]
  refine IFB_dec (fun _ => IFB_eq (fun _ => IFB_eq (fun _ => ⟨by simp, C5⟩) (fun h => absurd rfl h)) (fun h => absurd rfl h)) (fun h => absurd rfl h)
end Go.Proofs.Ytmilfgmkcmcicaa
