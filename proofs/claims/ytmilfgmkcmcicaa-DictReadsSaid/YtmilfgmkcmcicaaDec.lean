/-
  Decode: both sides; the laws DictReads and DictBack.
-/
import Derived.Test.YtmilfgmkcmcicaaTable
import Derived.Test.YtmilfgmkcmcicaaWordsOk
namespace Go.Proofs.Ytmilfgmkcmcicaa
open Go.Dn Go.Proofs
open Go.RowKit (Below)
set_option linter.unusedVariables false
set_option maxRecDepth 20000
def decArg (n : Int) : Prop := 0 ≤ n ∧ n ≤ 4096
def DecV (l : List UInt8) (n : Int) (w w' : World) (v : Value) : Prop :=
  ∃ (ls : List ByteArray) (a : Option Addr) (c : Nat) (e : Int), v = .tuple #[.slice a ls.length c, .int .i64 e] ∧ Rd w' a (ls.map Value.string) ∧ Below w.heap.size w w' ∧ ls.length ≤ 4096 ∧
    ((¬ decArg n ∧ ls = [] ∧ e = 2) ∨ (decArg n ∧ DecIs l n.toNat ls ∧ e = 0 ∧ 0 < l.length) ∨ (decArg n ∧ (∀ ms, ¬ (DecIs l n.toNat ms ∧ 0 < l.length)) ∧ ls = [] ∧ e = 70))
theorem DecV.bad {l : List UInt8} {n : Int} {w w' : World} (hb : Below w.heap.size w w') (hn : decArg n) (h : ∀ ms, ¬ (DecIs l n.toNat ms ∧ 0 < l.length)) : DecV l n w w' (.tuple #[.slice none 0 0, .int .i64 70]) :=
  ⟨[], none, 0, 70, rfl, Rd.nil _ _, hb, by simp, .inr (.inr ⟨hn, h, rfl, rfl⟩)⟩
theorem DecV.arg {l : List UInt8} {n : Int} {w w' : World} (hb : Below w.heap.size w w') (hn : ¬ decArg n) : DecV l n w w' (.tuple #[.slice none 0 0, .int .i64 2]) :=
  ⟨[], none, 0, 2, rfl, Rd.nil _ _, hb, by simp, .inl ⟨hn, rfl, rfl⟩⟩
theorem DecIs.head {l : List UInt8} {n : Nat} {ls : List ByteArray} (h : DecIs l n ls) : (l.getD 0 0).toNat ≤ 1 := by
  have := h.ok.2.1
  omega
section
variable {w : World} {a : Option Addr} {c : Nat} {l : List UInt8}
theorem bytes_Equal_ok {a2 : Option Addr} {c2 : Nat} {m : List UInt8} (hl : Rd w a (l.map byteV)) (hm : Rd w a2 (m.map byteV)) :
    Calls Try.prog f.bytes_Equal #[.slice a l.length c, .slice a2 m.length c2] w (Ret fun v w' => w' = w ∧ v = .bool (decide (l = m))) := by
  apply R.bytes_Equal_calls
  unfold R.bytes_Equal
  refine string_of_bytes tbytes rfl hl ⟨_, rfl, string_of_bytes tbytes rfl hm ⟨_, rfl, rfl, ?_⟩⟩
  rw [bytesEq_iff]
  congr 1
  rw [decide_eq_decide]
  exact ⟨fun h => by have := congrArg bl h; rwa [bl_sof, bl_sof] at this, fun h => by rw [h]⟩
theorem head_at (hl : Rd w a (l.map byteV)) (h0 : 0 < l.length) : ∃ p, a = some p ∧ w.cell? p = some (.int .u8 ((l.getD 0 0).toNat : Int)) := by
  obtain ⟨p, hp, hc⟩ := byte_at hl h0
  refine ⟨p, hp, ?_⟩
  rw [Nat.zero_mul, addr_add_zero] at hc
  rw [hc, getD_get h0]
theorem map_bl_sof (ms : List (List UInt8)) : (ms.map sof).map bl = ms := by
  rw [List.map_map]
  have : (bl ∘ sof) = id := by funext x; exact bl_sof x
  rw [this, List.map_id]
theorem reads_enc {n : Nat} {ms : List (List UInt8)} (h0 : 0 < l.length) {bs : List UInt8} {e : Int}
    (hq : (encOk ((l.getD 0 0).toNat : Int) (ms.map sof) ∧ EncIs (ms.map sof) ((l.getD 0 0).toNat : Int) bs ∧ e = 0) ∨ (¬ encOk ((l.getD 0 0).toNat : Int) (ms.map sof) ∧ bs = [] ∧ e = 2)) (hlen : ms.length = n)
    (hms : ms = (readL l n).getD []) : (bs = l → DecIs l n (ms.map sof)) ∧ (bs ≠ l → ∀ xs, ¬ (DecIs l n xs ∧ 0 < l.length)) := by
  constructor
  · rintro rfl
    rcases hq with ⟨h1, h2, _⟩ | ⟨_, h2, _⟩
    · exact ⟨by simpa using hlen, h1, h2⟩
    · subst h2
      simp at h0
  · rintro hne xs ⟨hx, _⟩
    have hr := hx.reads
    rw [hr] at hms
    simp only [Option.getD_some] at hms
    have he : ms.map sof = xs := by rw [hms, map_sof_bl]
    rw [he] at hq
    rcases hq with ⟨h1, h2, _⟩ | ⟨h1, _⟩
    · exact hne (h2.one hx.enc)
    · exact h1 hx.ok
theorem dict_Decode_ok (hl : Rd w a (l.map byteV)) (hc : l.length ≤ c) (hs : l.length ≤ 9223372036854775807) (n : Int) :
    Calls Try.prog f.dict_Decode #[.slice a l.length c, .int .i64 n] w (Ret fun v w' => DecV l n w w' v) := by
  apply R.dict_Decode_calls
  unfold R.dict_Decode
  refine ⟨fun s w1 => ∃ b : Bool, s = [.bool b] ∧ w1 = w ∧ (b = true ↔ ¬ decArg n), ?_, ?_⟩
  · refine IFB_dec (fun h => ⟨true, rfl, rfl, ?_⟩) (fun h => ⟨_, rfl, rfl, ?_⟩)
    · unfold decArg; simp; omega
    · unfold decArg; simp; omega
  rintro _ w1 ⟨b, hst, rfl, hb⟩
  cases hst
  refine IFB_of (fun h => DecV.arg (.refl _ _) (hb.1 h)) (fun h => ?_)
  have harg : decArg n := by
    rcases Classical.em (decArg n) with h1 | h1
    · exact h1
    · rw [hb.2 h1] at h; cases h
  obtain ⟨n, rfl⟩ : ∃ m : Nat, n = (m : Int) := ⟨n.toNat, by have := harg.1; omega⟩
  have hn : n ≤ 4096 := by have := harg.2; omega
  refine IFB_eq (fun h => DecV.bad (.refl _ _) harg fun ms hm => by have := hm.2; omega) (fun hne => ?_)
  have h0 : 0 < l.length := by omega
  obtain ⟨p, rfl, hcell⟩ := head_at hl h0
  have hb0 := (l.getD 0 0).toNat_lt
  refine ⟨⟨by omega, by omega⟩, _, hcell, IFB_dec (fun h => DecV.bad (.refl _ _) harg fun ms hm => by have := hm.1.head; omega) (fun hle => ?_)⟩
  refine ⟨fun s w5 => ∃ (ms : List (List UInt8)) (a' : Option Addr) (c' : Nat) (ok : Bool), s = [.slice a' ms.length c', .bool ok] ∧ Rd w5 a' (strs ms) ∧ Below w1.heap.size w1 w5 ∧ ((ok = false ∧ readL l n = none) ∨ (ok = true ∧ readL l n = some ms)), ?_, ?_⟩
  · refine ⟨⟨by omega, by omega⟩, _, hcell, IFB_eq (fun hz => ?_) (fun hz => ?_)⟩
    · have hz' : l.getD 0 0 = 0 := UInt8.toNat_inj.1 (by show _ = 0; omega)
      refine (dict_taker_ok (at_ := 1)).mono ?_
      rintro _ w2 ⟨_, rfl, b1, b2, rfl, S2⟩
      refine ⟨_, _, _, rfl, ?_⟩
      rw [enters_taker, wrap_u64_id (by omega) (by omega)]
      refine (taker_c1_ok (at_ := 1) (n := n) S2 hl hc hs hn).mono ?_
      rintro _ w3 ⟨_, rfl, hM, B3⟩
      unfold ManyV at hM
      have hr : readL l n = (takeMany l 1 n).map (·.1) := by unfold readL; rw [if_pos hz']
      cases hy : takeMany l 1 n with
      | none =>
        rw [hy] at hM hr
        subst hM
        exact ⟨_, _, _, _, _, rfl, [], none, 0, false, rfl, Rd.nil _ _, B3, .inl ⟨rfl, hr⟩⟩
      | some y =>
        rw [hy] at hM hr
        obtain ⟨ta, tc, rfl, hR3⟩ := hM
        exact ⟨_, _, _, _, _, rfl, y.1, ta, tc, true, rfl, hR3, B3, .inr ⟨rfl, hr⟩⟩
    · have hz' : ¬ l.getD 0 0 = 0 := fun h => hz (by rw [h]; rfl)
      refine (fromTable_ok hl hc hs hn).mono ?_
      rintro _ w3 ⟨_, rfl, ms, a', c', ok, rfl, hR3, B3, hcase⟩
      have hr : readL l n = tableL l n := by unfold readL; rw [if_neg hz']
      rw [← hr] at hcase
      exact ⟨_, _, _, _, rfl, ms, a', c', ok, rfl, hR3, B3, hcase⟩
  rintro a' _ c' _ w5 ⟨ms, _, _, ok, hst, hR5, B5, hcase⟩
  cases hst
  rcases hcase with ⟨rfl, hr⟩ | ⟨rfl, hr⟩
  · refine IFB_true (DecV.bad B5 harg ?_)
    rintro xs ⟨hx, _⟩
    rw [Int.toNat_natCast, ] at hx
    rw [hx.reads] at hr
    cases hr
  have hmn := readL_len hr
  refine IFB_false ⟨⟨by omega, by omega⟩, ?_⟩
  obtain ⟨p', hp', hcell5⟩ := head_at (hl.grown B5) h0
  cases hp'
  refine ⟨_, hcell5, ?_⟩
  rw [wrap_i64 (by omega) (by omega)]
  have hE := dict_Encode_ok (c := c') ((l.getD 0 0).toNat : Int) (ls := ms.map sof) hR5 (by rw [List.length_map]; omega)
  rw [List.length_map] at hE
  refine hE.mono ?_
  rintro _ w6 ⟨_, rfl, h6⟩
  obtain ⟨bs, a6, c6, e6, rfl, hR6, B6, q6⟩ := enc_open h6
  have C6 := below_trans B5 B6
  refine ⟨_, _, _, _, rfl, (bytes_Equal_ok hR6 (hl.grown C6)).mono ?_⟩
  rintro _ w7 ⟨_, rfl, rfl, rfl⟩
  obtain ⟨g1, g2⟩ := reads_enc h0 q6 hmn (by rw [hr]; rfl)
  refine ⟨_, rfl, IFB_not (IFB_dec (fun he => ?_) (fun he => DecV.bad C6 harg (by rw [Int.toNat_natCast]; exact g2 he)))⟩
  refine ⟨ms.map sof, a', c', 0, by rw [List.length_map], hR5.grown B6, C6, by rw [List.length_map]; omega, .inr (.inl ⟨harg, by rw [Int.toNat_natCast]; exact g1 he, rfl, h0⟩)⟩
theorem ref_Decode_ok (hl : Rd w a (l.map byteV)) (hc : l.length ≤ c) (hs : l.length ≤ 9223372036854775807) (n : Int) :
    Calls Try.prog f.ref07_Decode #[.slice a l.length c, .int .i64 n] w (Ret fun v w' => DecV l n w w' v) := by
  apply R.ref07_Decode_calls
  unfold R.ref07_Decode
  refine IFB_dec (fun h => DecV.arg (.refl _ _) (by unfold decArg; omega)) (fun h1 => IFB_dec (fun h => DecV.arg (.refl _ _) (by unfold decArg; omega)) (fun h2 => ?_))
  have harg : decArg n := ⟨by omega, by omega⟩
  obtain ⟨n, rfl⟩ : ∃ m : Nat, n = (m : Int) := ⟨n.toNat, by omega⟩
  have hn : n ≤ 4096 := by omega
  refine IFB_eq (fun h => DecV.bad (.refl _ _) harg fun ms hm => by have := hm.2; omega) (fun hne => ?_)
  have h0 : 0 < l.length := by omega
  obtain ⟨p, rfl, hcell⟩ := head_at hl h0
  have hb0 := (l.getD 0 0).toNat_lt
  refine ⟨⟨by omega, by omega⟩, _, hcell, IFB_dec (fun h => DecV.bad (.refl _ _) harg fun ms hm => by have := hm.1.head; omega) (fun hle => ?_)⟩
  refine ⟨fun s w5 => ∃ (ms : List (List UInt8)) (a' : Option Addr) (c' : Nat), s = [.slice a' ms.length c'] ∧ Rd w5 a' (strs ms) ∧ Below w.heap.size w w5 ∧ ms = (readL l n).getD [], ?_, ?_⟩
  · refine ⟨⟨by omega, by omega⟩, _, hcell, IFB_eq (fun hz => ?_) (fun hz => ?_)⟩
    · have hz' : l.getD 0 0 = 0 := UInt8.toNat_inj.1 (by show _ = 0; omega)
      refine (ref_taken_ok (at_ := 1) (n := n) hl hc hs hn (by decide)).mono ?_
      rintro _ w3 ⟨_, rfl, hM, B3⟩
      unfold ManyV at hM
      have hr : readL l n = (takeMany l 1 n).map (·.1) := by unfold readL; rw [if_pos hz']
      cases hy : takeMany l 1 n with
      | none =>
        rw [hy] at hM hr
        subst hM
        exact ⟨_, _, _, _, _, rfl, [], none, 0, rfl, Rd.nil _ _, B3, by rw [hr]; rfl⟩
      | some y =>
        rw [hy] at hM hr
        obtain ⟨ta, tc, rfl, hR3⟩ := hM
        exact ⟨_, _, _, _, _, rfl, y.1, ta, tc, rfl, hR3, B3, by rw [hr]; rfl⟩
    · have hz' : ¬ l.getD 0 0 = 0 := fun h => hz (by rw [h]; rfl)
      refine (placed_ok hl hc hs hn).mono ?_
      rintro _ w3 ⟨_, rfl, a', c', rfl, hR3, B3⟩
      have hr : readL l n = tableL l n := by unfold readL; rw [if_neg hz']
      exact ⟨_, _, _, rfl, _, a', c', rfl, hR3, B3, by rw [hr]⟩
  rintro a' _ c' w5 ⟨ms, _, _, hst, hR5, B5, hms⟩
  cases hst
  refine IFB_ne (fun hlen => DecV.bad B5 harg ?_) (fun hlen => ?_)
  · rintro xs ⟨hx, _⟩
    rw [Int.toNat_natCast] at hx
    have hr := hx.reads
    have := readL_len hr
    rw [hr, Option.getD_some] at hms
    rw [← hms] at this
    omega
  refine ⟨⟨by omega, by omega⟩, ?_⟩
  obtain ⟨p', hp', hcell5⟩ := head_at (hl.grown B5) h0
  cases hp'
  refine ⟨_, hcell5, ?_⟩
  rw [wrap_i64 (by omega) (by omega)]
  have hE := ref_Encode_ok (c := c') ((l.getD 0 0).toNat : Int) (ls := ms.map sof) hR5 (by rw [List.length_map]; omega)
  rw [List.length_map] at hE
  refine hE.mono ?_
  rintro _ w6 ⟨_, rfl, h6⟩
  obtain ⟨bs, a6, c6, e6, rfl, hR6, B6, q6⟩ := enc_open h6
  have C6 := below_trans B5 B6
  refine ⟨_, _, _, _, rfl, string_of_bytes tbytes rfl hR6 ⟨_, rfl, string_of_bytes tbytes rfl (hl.grown C6) ⟨_, rfl, ?_⟩⟩⟩
  rw [bytesEq_iff]
  obtain ⟨g1, g2⟩ := reads_enc h0 q6 (n := n) (by omega) hms
  refine IFB_not (IFB_dec (fun he => ?_) (fun he => DecV.bad C6 harg (by rw [Int.toNat_natCast]; exact g2 (fun h => he (by rw [h])))))
  have he' : bs = l := by have := congrArg bl he; rwa [bl_sof, bl_sof] at this
  refine ⟨ms.map sof, a', c', 0, by rw [List.length_map], hR5.grown B6, C6, by rw [List.length_map]; omega, .inr (.inl ⟨harg, by rw [Int.toNat_natCast]; exact g1 he', rfl, h0⟩)⟩
theorem ref_Same_ok {a2 : Option Addr} {c2 : Nat} {ls ms : List ByteArray} (hl : Rd w a (ls.map Value.string)) (hm : Rd w a2 (ms.map Value.string)) (hn : ls.length ≤ 9223372036854775807) :
    Calls Try.prog f.ref07_Same #[.slice a ls.length c, .slice a2 ms.length c2] w (Ret fun v w' => Below w.heap.size w w' ∧ v = .bool (decide (ls = ms))) := by
  apply R.ref07_Same_calls
  unfold R.ref07_Same
  refine IFB_ne (fun h => ⟨.refl _ _, ?_⟩) (fun hlen => ?_)
  · congr 1
    rw [eq_comm, decide_eq_false_iff_not]
    rintro rfl
    exact h rfl
  have hlen' : ls.length = ms.length := by omega
  refine ⟨fun s w1 => ∃ i : Nat, i ≤ ls.length ∧ s = [.int .i64 (i : Int)] ∧ Below w.heap.size w w1 ∧ ls.take i = ms.take i, fun s _ => match s with
      | [.int _ i] => ls.length - i.toNat
      | _ => 0, ⟨0, by omega, rfl, .refl _ _, rfl⟩, ?_⟩
  rintro _ w1 ⟨i, hi, hs, B1, hT⟩
  cases hs
  refine IFB_dec (fun hlt => ?_) (fun hge => ⟨B1, ?_⟩)
  · have h1 : i < ls.length := by omega
    have h2 : i < ms.length := by omega
    refine (SH.start (fun _ => False) w1).drawB fun w2 B2 _ => ⟨⟨by omega, hlt⟩, ?_⟩
    have C2 := below_trans B1 B2
    obtain ⟨p1, rfl, hc1⟩ := str_at (hl.grown C2) h1
    obtain ⟨p2, rfl, hc2⟩ := str_at (hm.grown C2) h2
    refine ⟨⟨by omega, by omega⟩, _, by rw [Int.toNat_natCast]; exact hc1, _, by rw [Int.toNat_natCast]; exact hc2, ?_⟩
    rw [bytesEq_iff]
    refine IFB_not (IFB_dec (fun he => ?_) (fun he => ⟨C2, ?_⟩))
    · rw [wrap_succ (by omega)]
      refine ⟨⟨i + 1, by omega, rfl, C2, ?_⟩, ?_⟩
      · rw [List.take_succ_eq_append_getElem h1, List.take_succ_eq_append_getElem h2, hT, he]
      · simp only [Int.toNat_natCast]
        omega
    · congr 1
      rw [eq_comm, decide_eq_false_iff_not]
      rintro rfl
      exact he rfl
  · congr 1
    rw [eq_comm, decide_eq_true_eq]
    rw [List.take_of_length_le (by omega), List.take_of_length_le (by omega)] at hT
    exact hT
end
theorem dec_one {l : List UInt8} {n : Int} {ls ms : List ByteArray} {e g : Int}
    (h : (¬ decArg n ∧ ls = [] ∧ e = 2) ∨ (decArg n ∧ DecIs l n.toNat ls ∧ e = 0 ∧ 0 < l.length) ∨ (decArg n ∧ (∀ ms, ¬ (DecIs l n.toNat ms ∧ 0 < l.length)) ∧ ls = [] ∧ e = 70))
    (h' : (¬ decArg n ∧ ms = [] ∧ g = 2) ∨ (decArg n ∧ DecIs l n.toNat ms ∧ g = 0 ∧ 0 < l.length) ∨ (decArg n ∧ (∀ ms, ¬ (DecIs l n.toNat ms ∧ 0 < l.length)) ∧ ms = [] ∧ g = 70)) : ls = ms ∧ e = g := by
  rcases h with ⟨h1, rfl, rfl⟩ | ⟨h1, h2, rfl, h3⟩ | ⟨h1, h2, rfl, rfl⟩ <;> rcases h' with ⟨k1, rfl, rfl⟩ | ⟨k1, k2, rfl, k3⟩ | ⟨k1, k2, rfl, rfl⟩
  · exact ⟨rfl, rfl⟩
  · exact absurd k1 h1
  · exact absurd k1 h1
  · exact absurd h1 k1
  · exact ⟨h2.one k2, rfl⟩
  · exact absurd ⟨h2, h3⟩ (k2 ls)
  · exact absurd h1 k1
  · exact absurd ⟨k2, k3⟩ (h2 ms)
  · exact ⟨rfl, rfl⟩
theorem DictReads_core {w : World} {a : Option Addr} {c : Nat} {l : List UInt8} (hl : Rd w a (l.map byteV)) (hc : l.length ≤ c) (hs : l.length ≤ 9223372036854775807) (n : Int) :
    Calls Try.prog f.law07_DictReads #[.slice a l.length c, .int .i64 n] w (Ret fun r w' => r = .bool true ∧ Below w.heap.size w w') := by
  apply R.law07_DictReads_calls
  unfold R.law07_DictReads
  refine (shown_ok w).mono ?_
  rintro _ w1 ⟨_, rfl, rfl, B1⟩
  refine ⟨_, rfl, (dict_Decode_ok (hl.grown B1) hc hs n).mono ?_⟩
  rintro _ w2 ⟨_, rfl, ls, a2, c2, e2, rfl, R2, B2, l2, q2⟩
  have C2 := below_trans B1 B2
  refine ⟨_, _, _, _, rfl, (ref_Decode_ok (hl.grown C2) hc hs n).mono ?_⟩
  rintro _ w3 ⟨_, rfl, ms, a3, c3, e3, rfl, R3, B3, l3, q3⟩
  have C3 := below_trans C2 B3
  obtain ⟨rfl, rfl⟩ := dec_one q2 q3
  refine ⟨_, _, _, _, rfl, IFB_true ((ref_Same_ok (R2.grown B3) R3 (by omega)).mono ?_)⟩
  rintro _ w4 ⟨_, rfl, B4, rfl⟩
  exact ⟨_, rfl, IFB_dec (fun _ => ⟨by simp, below_trans C3 B4⟩) (fun h => absurd rfl h)⟩
theorem DictBack_core {w : World} {a a' : Option Addr} {c c' : Nat} {ls : List ByteArray} {l : List UInt8} (hS : Rd w a (ls.map Value.string)) (hSn : ls.length ≤ 9223372036854775807) (hl : Rd w a' (l.map byteV)) (hc : l.length ≤ c') (hs : l.length ≤ 9223372036854775807) (n : Int) :
    Calls Try.prog f.law07_DictBack #[.slice a ls.length c, .slice a' l.length c', .int .i64 n] w (Ret fun r w' => r = .bool true ∧ Below w.heap.size w w') := by
  apply R.law07_DictBack_calls
  unfold R.law07_DictBack
  refine (shown_ok w).mono ?_
  rintro _ w1 ⟨_, rfl, rfl, B1⟩
  refine ⟨_, rfl, fun s w2 => ∃ i : Nat, i ≤ 2 ∧ s = [.int .i64 (i : Int)] ∧ Below w.heap.size w w2, fun s _ => match s with
      | [.int _ i] => 2 - i.toNat
      | _ => 0, ⟨0, by omega, rfl, B1⟩, ?_⟩
  rintro _ w2 ⟨i, hi, hst, B2⟩
  cases hst
  refine IFB_dec (fun hlt => ?_) (fun hge => ?_)
  · refine (dict_Encode_ok (i : Int) (hS.grown B2) hSn).mono ?_
    rintro _ w3 ⟨_, rfl, h3⟩
    rcases h3 with ⟨_, rfl, B3⟩ | ⟨hok, bs, a3, c3, hE, rfl, h3⟩
    · exact ⟨_, _, _, _, rfl, IFB_ne (fun _ => IFB_true ⟨rfl, below_trans B2 B3⟩) (fun h => absurd h (by decide))⟩
    · have C3 := below_trans B2 h3.bel
      have hbl : bs.length ≤ c3 := h3.row.le
      have hbn : bs.length ≤ 9223372036854775807 := by
        rcases h3.row.2 with ⟨_, h, _⟩ | ⟨_, _, _, _, h1, h2, _⟩
        · omega
        · omega
      refine ⟨_, _, _, _, rfl, IFB_ne (fun h => absurd rfl h) (fun _ => (dict_Decode_ok h3.rd hbl hbn (ls.length : Int)).mono ?_)⟩
      rintro _ w4 ⟨_, rfl, ms, a4, c4, e4, rfl, R4, B4, l4, q4⟩
      have C4 := below_trans C3 B4
      have hD : DecIs bs ls.length ls ∧ 0 < bs.length := by
        have hh : ((bs.getD 0 0).toNat : Int) = (i : Int) := by
          cases hE with
          | plain => rfl
          | table t wd ht hw => rfl
        refine ⟨⟨rfl, by rw [hh]; exact hok, by rw [hh]; exact hE⟩, ?_⟩
        cases hE with
        | plain => simp
        | table t wd ht hw => simp
      have harg : decArg (ls.length : Int) := ⟨by omega, by have := hok.2.2.1; omega⟩
      rw [Int.toNat_natCast] at q4
      rcases q4 with ⟨k1, _⟩ | ⟨k1, k2, rfl, _⟩ | ⟨_, k2, _⟩
      · exact absurd harg k1
      · obtain rfl := k2.one hD.1
        refine ⟨_, _, _, _, rfl, IFB_ne (fun h => absurd rfl h) (fun _ => (ref_Same_ok ((hS.grown C3).grown B4) R4 hSn).mono ?_)⟩
        rintro _ w5 ⟨_, rfl, B5, rfl⟩
        refine ⟨_, rfl, IFB_not (IFB_dec (fun _ => ?_) (fun h => absurd rfl h))⟩
        rw [wrap_succ (by omega)]
        refine ⟨⟨i + 1, by omega, rfl, below_trans C4 B5⟩, ?_⟩
        simp only [Int.toNat_natCast]
        omega
      · exact absurd hD (k2 ls)
  · refine (dict_Decode_ok (hl.grown B2) hc hs n).mono ?_
    rintro _ w6 ⟨_, rfl, ms, a6, c6, e6, rfl, R6, B6, l6, q6⟩
    have C6 := below_trans B2 B6
    refine ⟨_, _, _, _, rfl, ?_⟩
    rcases q6 with ⟨_, rfl, rfl⟩ | ⟨harg, hD, rfl, h0⟩ | ⟨_, _, rfl, rfl⟩
    · exact IFB_ne (fun _ => IFB_true ⟨rfl, C6⟩) (fun h => absurd h (by decide))
    · refine IFB_ne (fun h => absurd rfl h) (fun _ => ⟨⟨by omega, by omega⟩, ?_⟩)
      obtain ⟨p, rfl, hcell⟩ := head_at (hl.grown C6) h0
      have hb0 := (l.getD 0 0).toNat_lt
      refine ⟨_, hcell, ?_⟩
      rw [wrap_i64 (by omega) (by omega)]
      refine (dict_Encode_ok ((l.getD 0 0).toNat : Int) R6 (by omega)).mono ?_
      rintro _ w7 ⟨_, rfl, h7⟩
      obtain ⟨bs, a7, c7, e7, rfl, R7, B7, q7⟩ := enc_open h7
      have C7 := below_trans C6 B7
      obtain ⟨rfl, rfl⟩ := enc_one q7 (.inl ⟨hD.ok, hD.enc, rfl⟩)
      have hlen : (ms.length : Int) = n := by have := hD.len; have := harg.1; omega
      refine ⟨_, _, _, _, rfl, IFB_true (IFB_eq (fun _ => IFB_eq (fun _ => string_of_bytes tbytes rfl R7 ⟨_, rfl, string_of_bytes tbytes rfl (hl.grown C7) ⟨_, rfl, ?_, C7⟩⟩) (fun h => absurd rfl h)) (fun h => absurd hlen h))⟩
      rw [bytesEq_iff]
      simp
    · exact IFB_ne (fun _ => IFB_true ⟨rfl, C6⟩) (fun h => absurd h (by decide))
end Go.Proofs.Ytmilfgmkcmcicaa
