/-
  Which value a text is: the program's Parse and the document's; the law ValueTexts.
-/
import Derived.Test.YtpaajmaecjjfjaaDoorParse
namespace Go.Proofs.YtpaajmaecjjfjaaDoor
open Go.Dn Go.Proofs
open Go.RowKit (Below)
set_option linter.unusedVariables false
set_option maxRecDepth 20000

theorem iface_nil {k : Bool → Prop} (h : k true) : IFACEV .nilIface k := h
theorem iface_some {k : Bool → Prop} {t : TypeId} {p : Value} (h : k false) : IFACEV (.iface t p) k := h
theorem no_val {s : ByteArray} (h0 : bl s ≠ tNull) (h1 : bl s ≠ tFalse) (h2 : bl s ≠ tTrue) (h3 : ∀ m : Int, -9223372036854775808 ≤ m → m ≤ 9223372036854775807 → bl s ≠ Lib.itoa m) (h4 : ∀ t : ByteArray, t.size ≤ 1024 → bl s ≠ (39 :: quoteL (bl t)) ++ [39]) :
    ∀ v : Val, rightB v = true → ValOk v → showL v ≠ bl s := by
  intro v hr hv he
  rcases show_cases hr _ he with ⟨_, h⟩ | ⟨_, h⟩ | ⟨_, h⟩ | ⟨_, h⟩ | ⟨_, hz, h⟩
  · exact h0 h
  · exact h3 _ hv.lo hv.hi h
  · exact h1 h
  · exact h2 h
  · exact h4 _ hz h
theorem head_ne {s : ByteArray} (h : (bl s).headD 0 = 39) : bl s ≠ tNull ∧ bl s ≠ tFalse ∧ bl s ≠ tTrue ∧ ∀ m : Int, bl s ≠ Lib.itoa m := by
  refine ⟨fun e => ?_, fun e => ?_, fun e => ?_, fun m e => ?_⟩
  · rw [e] at h; revert h; decide
  · rw [e] at h; revert h; decide
  · rw [e] at h; revert h; decide
  · obtain ⟨c, r, hc, hd⟩ := itoa_head m
    rw [e, hc] at h
    simp only [List.headD_cons] at h
    subst h
    revert hd
    decide
theorem parsed_err {s : ByteArray} (h : ∀ v : Val, rightB v = true → ValOk v → showL v ≠ bl s) : ParseV s (.tuple #[.agg #[.int .i64 0, .int .i64 0, .string E0], .int .i64 40]) := .inr ⟨h, rfl⟩
theorem parsed_ok {s : ByteArray} (v : Val) (hr : rightB v = true) (hv : ValOk v) (h : showL v = bl s) : ParseV s (.tuple #[.agg #[.int .i64 v.1, .int .i64 v.2.1, .string v.2.2], .int .i64 0]) := .inl ⟨v, hr, hv, h, rfl⟩
theorem eq_bytes {s : ByteArray} {l : List UInt8} (h : s ≠ sof l) : bl s ≠ l := fun e => h (by rw [← e, sof_bl])

/-- between two quotes -/
theorem mid_split {l : List UInt8} (h1 : 1 < l.length) (h0 : l[0]? = some 39) (h2 : l[l.length - 1]? = some 39) : l = (39 :: (l.drop 1).take (l.length - 1 - 1)) ++ [39] := by
  apply List.ext_getElem?
  intro i
  have hlen : ((l.drop 1).take (l.length - 1 - 1)).length = l.length - 2 := by rw [List.length_take, List.length_drop]; omega
  by_cases hi : i = 0
  · subst hi; rw [h0]; rfl
  · by_cases hl : i < l.length - 1
    · rw [List.getElem?_append_left (by simp only [List.length_cons, hlen]; omega)]
      obtain ⟨j, rfl⟩ : ∃ j, i = j + 1 := ⟨i - 1, by omega⟩
      rw [List.getElem?_cons_succ, List.getElem?_take_of_lt (by omega), List.getElem?_drop, Nat.add_comm]
    · rw [List.getElem?_append_right (by simp only [List.length_cons, hlen]; omega)]
      simp only [List.length_cons, hlen]
      by_cases he : i = l.length - 1
      · subst he
        rw [h2, show l.length - 1 - (l.length - 2 + 1) = 0 by omega]
        rfl
      · rw [List.getElem?_eq_none (by omega), List.getElem?_eq_none (by simp; omega)]
theorem mid_of {m : List UInt8} : (((39 :: m) ++ [39]).drop 1).take (((39 :: m) ++ [(39 : UInt8)]).length - 1 - 1) = m := by simp

theorem value_Parse_ok {w : World} (he : Env2 w) (s : ByteArray) (hs : s.size ≤ 140737488351232) : Calls Tryd.prog f.value_Parse #[.string s] w (Ret fun r w' => ParseV s r ∧ Below w.heap.size w w') := by
  apply R.value_Parse_calls
  unfold R.value_Parse
  have hbl := bl_length s
  refine (SH.start (fun _ => False) w).newB fun b2 w1 hb2 B1 S1 => ?_
  simp only [bytesEq_iff]
  refine IFB_dec (fun h => S1.res3 0 rfl fun w4 S4 => ⟨parsed_ok (0, 0, E0) (by decide) ⟨by decide, by decide⟩ (by rw [h]; rfl), S4.below⟩) (fun n0 => IFB_dec (fun h => S1.res3 0 rfl fun w4 S4 => ⟨parsed_ok (2, 0, E0) (by decide) ⟨by decide, by decide⟩ (by rw [h]; exact fmt_false), S4.below⟩) (fun n1 =>
    IFB_dec (fun h => S1.res3 0 rfl fun w4 S4 => ⟨parsed_ok (2, 1, E0) (by decide) ⟨by decide, by decide⟩ (by rw [h]; exact fmt_true), S4.below⟩) (fun n2 => ?_)))
  have m0 : bl s ≠ tNull := eq_bytes n0
  have m1 : bl s ≠ tFalse := eq_bytes n1
  have m2 : bl s ≠ tTrue := eq_bytes n2
  have eW : IntKind.i64.wrap ((s.size : Int) - 1) = ((bl s).length : Int) - 1 := by rw [← hbl, wrap_i64 (by omega) (by omega)]
  rw [eW]
  refine S1.lit3 fun b12 w14 hb12 B14 S14 => ⟨fun st w15 => ∃ t : Bool, st = [.bool t] ∧ w15 = w14 ∧ (t = true ↔ (1 < (bl s).length ∧ (bl s)[0]? = some 39 ∧ (bl s)[(bl s).length - 1]? = some 39)), ?_, ?_⟩
  · rw [← hbl]
    refine IFB_dec (fun h => ⟨⟨by omega, by omega⟩, ?_⟩) (fun h => ⟨false, rfl, rfl, by simp; omega⟩)
    have h0 : 0 < (bl s).length := by omega
    rw [sget_nat h0]
    refine IFB_eq (fun h3 => ⟨⟨by omega, by omega⟩, _, rfl, rfl, ?_⟩) (fun h3 => ⟨false, rfl, rfl, ?_⟩)
    · have e : (((bl s).length : Int) - 1).toNat = (bl s).length - 1 := by omega
      have hl : (bl s).length - 1 < (bl s).length := by omega
      rw [e, sget_nat hl, List.getElem?_eq_getElem h0, List.getElem?_eq_getElem hl]
      simp only [beq_iff_eq, u8_39, u8_39.1 h3, Option.some.injEq, true_and]
      constructor
      · intro h; exact ⟨by omega, h⟩
      · intro h; exact h.2
    · rw [List.getElem?_eq_getElem h0]
      simp only [Option.some.injEq]
      constructor
      · intro h; cases h
      · rintro ⟨_, h, _⟩; exact absurd (u8_39.2 h) h3
  rintro _ w15 ⟨t, hst, rfl, ht⟩
  cases hst
  have B14' := S14.below
  refine IFB_of (fun htt => ?_) (fun htf => ?_)
  · obtain ⟨q1, q2, q3⟩ := ht.1 htt
    have hsp := mid_split q1 q2 q3
    have hhead : (bl s).headD 0 = 39 := by rw [hsp]; rfl
    obtain ⟨g0, g1, g2, g3⟩ := head_ne hhead
    have e : (((bl s).length : Int) - 1).toNat = (bl s).length - 1 := by omega
    refine ⟨⟨by omega, by omega, by rw [← hbl]; omega⟩, ?_⟩
    rw [e]
    have hmid : bl (s.extract 1 ((bl s).length - 1)) = ((bl s).drop 1).take ((bl s).length - 1 - 1) := bl_extract _ _ _
    have hmsz : (s.extract 1 ((bl s).length - 1)).size ≤ 140737488351232 := by rw [← bl_length, hmid, List.length_take]; omega
    refine (value_quoted_ok w15 (s.extract 1 ((bl s).length - 1)) hmsz).mono ?_
    rintro _ w16 ⟨_, rfl, rfl, B16⟩
    rw [hmid]
    have S16 := S14.grown B16
    generalize ((bl s).drop 1).take ((bl s).length - 1 - 1) = md at hsp
    have key : ∀ t' : ByteArray, t'.size ≤ 1024 → bl s = (39 :: quoteL (bl t')) ++ [39] → unq md = some (bl t') := by
      intro t' _ ht'
      rw [hsp] at ht'
      have h1 : md ++ [39] = quoteL (bl t') ++ [39] := by simpa using ht'
      rw [List.append_cancel_right h1]
      exact unq_quote _
    cases hu : unq md with
    | none =>
      refine ⟨_, _, rfl, S16.sto3 0 rfl fun w19 S19 => IFB_true (S19.res3 1 rfl fun w4 S4 => ⟨parsed_err (no_val g0 g1 g2 (fun m _ _ => g3 m) fun t' hz ht' => ?_), S4.below⟩)⟩
      have := key t' hz ht'
      rw [hu] at this
      cases this
    | some u =>
      refine ⟨_, _, rfl, S16.sto3 0 rfl fun w19 S19 => IFB_false (S19.v3 0 rfl ((value_Right_ok w19 (3, 0, sof u)).mono ?_))⟩
      rintro _ w23 ⟨_, rfl, rfl, B23⟩
      have S23 := S19.grown B23
      refine ⟨_, rfl, IFB_not (IFB_of (fun hr => S23.v3 0 rfl (S23.res3 1 rfl fun w4 S4 => ⟨parsed_ok (3, 0, sof u) hr ⟨(show -9223372036854775808 ≤ (0 : Int) by decide), (show (0 : Int) ≤ 9223372036854775807 by decide)⟩ ?_, S4.below⟩)) (fun hr => S23.res3 1 rfl fun w4 S4 => ⟨parsed_err (no_val g0 g1 g2 (fun m _ _ => g3 m) fun t' hz ht' => ?_), S4.below⟩))⟩
      · show (39 :: quoteL (bl (sof u))) ++ [39] = bl s
        rw [bl_sof, quote_unq md u hu, ← hsp]
      · have := key t' hz ht'
        rw [hu] at this
        simp only [Option.some.injEq] at this
        have hx : rightB (3, 0, sof u) = true := by
          have : (sof u).size ≤ 1024 := by rw [size_sof, this, bl_length]; exact hz
          simp [rightB, this]
        rw [hx] at hr
        cases hr
  · have hq : ∀ t' : ByteArray, t'.size ≤ 1024 → bl s ≠ (39 :: quoteL (bl t')) ++ [39] := by
      intro t' _ ht'
      rw [htf] at ht
      have : ¬ (1 < (bl s).length ∧ (bl s)[0]? = some 39 ∧ (bl s)[(bl s).length - 1]? = some 39) := fun h => by have := ht.2 h; cases this
      apply this
      rw [ht']
      refine ⟨by simp, rfl, ?_⟩
      simp
    refine (parseInt_ok (he.grown B14') s hs).mono ?_
    rintro e w30 ⟨B30, h⟩
    have S30 := S14.grown B30
    rcases h with ⟨n, hn, rfl⟩ | ⟨hn, n, t, p, rfl⟩
    · have hnr := parseInt_range hn
      refine ⟨_, _, rfl, iface_nil (IFB_false ((Tryd.strconv_FormatInt_10 n hnr.1 hnr.2 w30 ((he.grown B14').grown B30).env.pow).mono ?_))⟩
      rintro _ w34 ⟨rfl, k, os, rfl⟩
      have S34 := S30.grown (below_grow w30 k os)
      refine ⟨_, rfl, IFB_not (IFB_dec (fun heq => ?_) (fun hne => S34.res3 1 rfl fun w4 S4 => ⟨parsed_err (no_val m0 m1 m2 (fun m l1 l2 hm => ?_) hq), S4.below⟩))⟩
      · refine S34.sto 0 rfl (show 1 < 3 by decide) fun w38 S38 => S38.v3 0 rfl (S38.res3 1 rfl fun w4 S4 => ⟨parsed_ok (1, n, E0) (by simp [rightB]) ⟨hnr.1, hnr.2⟩ ?_, S4.below⟩)
        show Lib.itoa n = bl s
        rw [← heq]
        exact (bl_sof _).symm
      · have := itoa_parse m l1 l2
        rw [← hm, hn] at this
        cases this
        apply hne
        apply bl_inj
        rw [hm]
        exact bl_sof _
    · refine ⟨_, _, rfl, iface_some (IFB_true (S30.res3 1 rfl fun w4 S4 => ⟨parsed_err (no_val m0 m1 m2 (fun m l1 l2 hm => ?_) hq), S4.below⟩))⟩
      have := itoa_parse m l1 l2
      rw [← hm] at this
      exact hn m this

/-! ### the document's Parse -/
def stepN (n : Int) (c : UInt8) : Int := if 48 ≤ c.toNat ∧ c.toNat ≤ 57 then IntKind.i64.wrap (IntKind.i64.wrap (10 * n) - ((c.toNat - 48 : Nat) : Int)) else n
def numL (l : List UInt8) : Int := if l.headD 0 = 45 ∧ l ≠ [] then (l.take 20).foldl stepN 0 else IntKind.i64.wrap (0 - (l.take 20).foldl stepN 0)
theorem wrap_range (n : Int) : -9223372036854775808 ≤ IntKind.i64.wrap n ∧ IntKind.i64.wrap n ≤ 9223372036854775807 := by rw [wrap_i64_def]; split <;> omega
theorem fold_range (l : List UInt8) : ∀ n : Int, (-9223372036854775808 ≤ n ∧ n ≤ 9223372036854775807) → -9223372036854775808 ≤ l.foldl stepN n ∧ l.foldl stepN n ≤ 9223372036854775807 := by
  induction l with
  | nil => intro n h; exact h
  | cons c l ih =>
    intro n h
    rw [List.foldl_cons]
    apply ih
    unfold stepN
    split
    · exact wrap_range _
    · exact h
theorem numL_range (l : List UInt8) : -9223372036854775808 ≤ numL l ∧ numL l ≤ 9223372036854775807 := by
  unfold numL
  split
  · exact fold_range _ 0 (by decide)
  · exact wrap_range _
theorem fold_dec : ∀ u : Nat, u ≤ 9223372036854775808 → ∀ r, (Lib.decDigits u ++ r).foldl stepN 0 = r.foldl stepN (-(u : Int)) := by
  intro u
  induction u using Nat.strongRecOn with
  | _ u ih =>
    intro hu r
    have st : ∀ (q d : Nat), d < 10 → q * 10 + d ≤ 9223372036854775808 → stepN (-(q : Int)) (UInt8.ofNat (48 + d)) = -((q * 10 + d : Nat) : Int) := by
      intro q d hd hq
      have e : (UInt8.ofNat (48 + d)).toNat = 48 + d := by simp; omega
      unfold stepN
      rw [e, if_pos (by omega), wrap_i64 (n := 10 * -(q : Int)) (by omega) (by omega), wrap_i64 (by omega) (by omega)]
      omega
    by_cases h : u < 10
    · rw [Lib.decDigits_one h, List.singleton_append, List.foldl_cons]
      have := st 0 u h (by omega)
      simp only [Int.natCast_zero, Int.neg_zero, Nat.zero_mul, Nat.zero_add] at this
      rw [show (0 : Int) = -((0 : Nat) : Int) by rfl]
      simp only [Int.natCast_zero, Int.neg_zero]
      rw [this]
    · rw [Lib.decDigits, dif_neg h, List.append_assoc, ih (u / 10) (by omega) (by omega), List.singleton_append, List.foldl_cons, st (u / 10) (u % 10) (by omega) (by omega)]
      congr 1
      omega
theorem itoa_len (n : Int) (h1 : -9223372036854775808 ≤ n) (h2 : n ≤ 9223372036854775807) : (Lib.itoa n).length ≤ 20 := by
  unfold Lib.itoa
  split
  · have := nDigits_19 (u := n.natAbs) (by omega)
    rw [List.length_cons, Lib.decDigits_length]
    omega
  · have := nDigits_19 (u := n.toNat) (by omega)
    rw [Lib.decDigits_length]
    omega
theorem numL_itoa (n : Int) (h1 : -9223372036854775808 ≤ n) (h2 : n ≤ 9223372036854775807) : numL (Lib.itoa n) = n := by
  unfold numL
  rw [List.take_of_length_le (itoa_len n h1 h2)]
  by_cases hn : n < 0
  · have e : Lib.itoa n = 45 :: Lib.decDigits n.natAbs := by unfold Lib.itoa; rw [if_pos hn]
    rw [e, if_pos ⟨rfl, by simp⟩, List.foldl_cons]
    have e2 : stepN 0 45 = 0 := by decide
    have := fold_dec n.natAbs (by omega) []
    rw [List.append_nil] at this
    rw [e2, this]
    simp only [List.foldl_nil]
    omega
  · have e : Lib.itoa n = Lib.decDigits n.toNat := by unfold Lib.itoa; rw [if_neg hn]
    obtain ⟨c, r, hc, hd1, hd2⟩ := dec_head n.toNat
    have hh : ¬ ((Lib.decDigits n.toNat).headD 0 = 45 ∧ Lib.decDigits n.toNat ≠ []) := by
      rintro ⟨h, _⟩
      rw [hc] at h
      simp only [List.headD_cons] at h
      subst h
      revert hd1
      decide
    have := fold_dec n.toNat (by omega) []
    rw [List.append_nil] at this
    rw [e, if_neg hh, this]
    simp only [List.foldl_nil]
    rw [wrap_i64 (by omega) (by omega)]
    omega

theorem ref_number_ok (w : World) (s : ByteArray) (hs : s.size ≤ 140737488351232) : Calls Tryd.prog f.ref04_number #[.string s] w (Ret fun r w' => r = .int .i64 (numL (bl s)) ∧ w' = w) := by
  apply R.ref04_number_calls
  unfold R.ref04_number
  have hbl := bl_length s
  simp only [← hbl]
  rw [← hbl] at hs
  refine ⟨fun st w1 => st = [.bool (decide ((bl s).headD 0 = 45 ∧ bl s ≠ []))] ∧ w1 = w, ?_, ?_⟩
  · refine IFB_dec (fun h => ⟨⟨by omega, h⟩, ?_, rfl⟩) (fun h => ⟨?_, rfl⟩)
    · have h0 : 0 < (bl s).length := by omega
      rw [sget_nat h0]
      have e1 : (bl s).headD 0 = (bl s)[0] := by rw [List.headD_eq_head?_getD, List.head?_eq_getElem?, List.getElem?_eq_getElem h0]; rfl
      have e2 : bl s ≠ [] := List.length_pos_iff.1 h0
      rw [e1]
      congr 2
      rw [Bool.eq_iff_iff]
      simp only [beq_iff_eq, decide_eq_true_eq]
      constructor
      · intro h
        refine ⟨UInt8.toNat_inj.1 ?_, e2⟩
        have : (45 : UInt8).toNat = 45 := rfl
        omega
      · rintro ⟨h, _⟩; rw [h]; rfl
    · have e2 : bl s = [] := List.eq_nil_of_length_eq_zero (by omega)
      simp [e2]
  rintro _ w1 ⟨hst, rfl⟩
  cases hst
  refine ⟨fun st w4 => st = [.int .i64 (((bl s).take 20).foldl stepN 0)] ∧ w4 = w1, ?_, ?_⟩
  · refine ⟨fun st w2 => w2 = w1 ∧ ∃ k : Nat, st = [.int .i64 (((bl s).take k).foldl stepN 0), .int .i64 (k : Int)] ∧ k ≤ 20 ∧ k ≤ (bl s).length,
      fun st _ => match st with
        | [_, .int _ i] => 20 - i.toNat
        | _ => 0, ⟨rfl, 0, rfl, by omega, by omega⟩, ?_⟩
    rintro _ _ w2 ⟨rfl, k, hst, hk, hkl'⟩
    cases hst
    refine IFB_dec (fun hlt => IFB_dec (fun h20 => ?_) (fun h => ⟨?_, rfl⟩)) (fun h => ⟨?_, rfl⟩)
    · have hkl : k < (bl s).length := by omega
      have htk : (bl s).take (k + 1) = (bl s).take k ++ [(bl s)[k]] := by rw [List.take_succ_eq_append_getElem hkl]
      rw [Int.toNat_natCast, sget_nat hkl, wrap_succ (by omega)]
      have hc := ((bl s)[k]).toNat_lt
      refine ⟨fun st w3 => st = [.bool (decide (48 ≤ ((bl s)[k]).toNat ∧ ((bl s)[k]).toNat ≤ 57))] ∧ w3 = w2, ⟨⟨by omega, hlt⟩, ?_⟩, ?_⟩
      · refine IFB_dec (fun h => ⟨⟨by omega, hlt⟩, ?_, rfl⟩) (fun h => ⟨?_, rfl⟩)
        · congr 2
          rw [Bool.eq_iff_iff]
          simp only [decide_eq_true_eq]
          omega
        · have : ¬ (48 ≤ ((bl s)[k]).toNat ∧ ((bl s)[k]).toNat ≤ 57) := by omega
          simp [this]
      rintro _ w3 ⟨hst, rfl⟩
      cases hst
      refine IFB_dec (fun h => ⟨⟨by omega, hlt⟩, ?_⟩) (fun h => ?_)
      · refine ⟨⟨rfl, k + 1, ?_, by omega, by omega⟩, ?_⟩
        · rw [htk, List.foldl_append]
          simp only [List.foldl_cons, List.foldl_nil]
          unfold stepN
          rw [if_pos h, wrap_u8_id (by omega) (by omega), wrap_i64 (n := (((bl s)[k]).toNat : Int) - 48) (by omega) (by omega)]
          congr 4
          omega
        · simp only [Int.toNat_natCast]
          omega
      · refine ⟨⟨rfl, k + 1, ?_, by omega, by omega⟩, ?_⟩
        · rw [htk, List.foldl_append]
          simp only [List.foldl_cons, List.foldl_nil]
          unfold stepN
          rw [if_neg h]
        · simp only [Int.toNat_natCast]
          omega
    · have : k = 20 := by omega
      rw [this]
    · have h1 : k = (bl s).length := by omega
      rw [h1, List.take_length, List.take_of_length_le (by omega)]
  rintro _ w4 ⟨hst, rfl⟩
  cases hst
  refine IFB_not (IFB_dec (fun h => ⟨?_, rfl⟩) (fun h => ⟨?_, rfl⟩))
  · unfold numL; rw [if_pos h]
  · unfold numL; rw [if_neg h]
end Go.Proofs.YtpaajmaecjjfjaaDoor
