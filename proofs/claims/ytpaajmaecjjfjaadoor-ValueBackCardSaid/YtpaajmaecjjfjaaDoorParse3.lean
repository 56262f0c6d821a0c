/-
  The document's Parse; the law ValueTexts.
-/
import Derived.Test.YtpaajmaecjjfjaaDoorParse2
namespace Go.Proofs.YtpaajmaecjjfjaaDoor
open Go.Dn Go.Proofs
open Go.RowKit (Below)
set_option linter.unusedVariables false
set_option maxRecDepth 20000

def skipL : List UInt8 → List UInt8
  | [] => []
  | c :: r => c :: (if c = 39 then skipL (r.drop 1) else skipL r)
termination_by l => l.length
decreasing_by all_goals simp_wf; try omega
theorem skipL_nil : skipL [] = [] := by unfold skipL; rfl
theorem skipL_cons (c : UInt8) (r : List UInt8) : skipL (c :: r) = c :: (if c = 39 then skipL (r.drop 1) else skipL r) := by conv => lhs; unfold skipL
theorem skip_quote : ∀ t : List UInt8, skipL (quoteL t) = t
  | [] => skipL_nil
  | c :: t => by
    have ih := skip_quote t
    by_cases h : c = 39
    · subst h
      have e : quoteL (39 :: t) = 39 :: 39 :: quoteL t := by simp [quoteL]
      rw [e, skipL_cons, if_pos rfl]
      simp [ih]
    · have e : quoteL (c :: t) = c :: quoteL t := by simp [quoteL, h]
      rw [e, skipL_cons, if_neg h, ih]

theorem ref_Parse_ok (w : World) (s : ByteArray) (hs : s.size ≤ 140737488351232) : Calls Tryd.prog f.ref04_Parse #[.string s] w (Ret fun r w' => ParseV s r ∧ Below w.heap.size w w') := by
  apply R.ref04_Parse_calls
  unfold R.ref04_Parse
  have hbl := bl_length s
  have hsl : (bl s).length ≤ 140737488351232 := by omega
  refine (SH.start (fun _ => True) w).newB fun b2 w1 hb2 B1 S1 => (ref_number_ok w1 s hs).mono ?_
  rintro _ w1 ⟨_, rfl, rfl, rfl⟩
  refine ⟨_, rfl, S1.lit3 fun b5 w6 hb5 B6 S6 => ?_⟩
  have B6' := below_trans B1 B6
  have lo : w.heap.size ≤ b2 ∧ w.heap.size ≤ b5 := ⟨hb2, by have := B1.size; omega⟩
  simp only [bytesEq_iff]
  -- what stays below
  have kb : ∀ {wa wb : World} {b : Nat}, Below w.heap.size w wa → Keeps (· = b) wa wb → w.heap.size ≤ b → Below w.heap.size w wb := fun hA K hb => hA.trans (K.below hA.size fun k hk he => by omega)
  have res : ∀ {wa : World} {v : Val} {x0 x1 x2 : Value} {u : Val} {e : Int} (S : SH (fun _ => True) w wa [(b5, #[.int .i64 v.1, .int .i64 v.2.1, .string v.2.2], 23), (b2, #[x0, x1, x2], 23)]) (hA : Below w.heap.size w wa) (hP : ParseV s (.tuple #[.agg #[.int .i64 u.1, .int .i64 u.2.1, .string u.2.2], .int .i64 e])),
      STO ⟨b2, 0, none⟩ (.int .i64 u.1) (fun wx => STO ⟨b2, 1, none⟩ (.int .i64 u.2.1) (fun wy => STO ⟨b2, 2, none⟩ (.string u.2.2) (fun w' => ∃ r0 : Int, w'.cell? ⟨b2, 0, none⟩ = some (.int .i64 r0) ∧ ∃ r1 : Int, w'.cell? ⟨b2, 1, none⟩ = some (.int .i64 r1) ∧ ∃ r2 : ByteArray, w'.cell? ⟨b2, 2, none⟩ = some (.string r2) ∧
        (ParseV s (.tuple #[.agg #[.int .i64 r0, .int .i64 r1, .string r2], .int .i64 e]) ∧ Below w.heap.size w w')) wy) wx) wa := by
    intro wa v x0 x1 x2 u e S hA hP
    exact S.sto3K 1 rfl fun w' K S' => S'.v3 1 rfl ⟨hP, kb hA K lo.1⟩
  refine IFB_dec (fun h => res (v := (1, numL (bl s), E0)) (u := (0, 0, E0)) S6 B6' (parsed_ok (0, 0, E0) (by decide) ⟨by decide, by decide⟩ (by rw [h]; rfl))) (fun n0 => ?_)
  have m0 : bl s ≠ tNull := eq_bytes n0
  refine ⟨fun st w10 => st = [.bool (decide (s = sof tTrue ∨ s = sof tFalse))] ∧ w10 = w6, ?_, ?_⟩
  · refine IFB_dec (fun h => ⟨?_, rfl⟩) (fun h => ⟨?_, rfl⟩)
    · have : s = sof tTrue ∨ s = sof tFalse := .inl h
      simp [this]
    · congr 2
      rw [Bool.eq_iff_iff]
      simp only [decide_eq_true_eq]
      constructor
      · intro h2; exact .inr h2
      · rintro (h2 | h2)
        · exact absurd h2 h
        · exact h2
  rintro _ w10 ⟨hst, rfl⟩
  cases hst
  refine IFB_dec (fun htf => ?_) (fun htf => ?_)
  · refine S6.sto3K 0 rfl fun w13 K13 S13 => ?_
    have B13 := kb B6' K13 lo.2
    refine IFB_dec (fun h => ?_) (fun h => ?_)
    · refine S13.stoK 0 rfl (show 1 < 3 by decide) fun w14 K14 S14 => S14.v3 0 rfl (res (v := (2, 1, E0)) (u := (2, 1, E0)) S14 (kb B13 K14 lo.2) (parsed_ok (2, 1, E0) (by decide) ⟨by decide, by decide⟩ ?_))
      rw [h]; exact fmt_true
    · refine S13.v3 0 rfl (res (v := (2, 0, E0)) (u := (2, 0, E0)) S13 B13 (parsed_ok (2, 0, E0) (by decide) ⟨by decide, by decide⟩ ?_))
      rcases htf with h2 | h2
      · exact absurd h2 h
      · rw [h2]; exact fmt_false
  have m1 : bl s ≠ tFalse := eq_bytes fun e => htf (.inr e)
  have m2 : bl s ≠ tTrue := eq_bytes fun e => htf (.inl e)
  refine ⟨fun _ w30 => ∃ v : Val, ValOk v ∧ (∀ u : Val, rightB u = true → ValOk u → showL u = bl s → u = v) ∧ SH (fun _ => True) w w30 [(b5, #[.int .i64 v.1, .int .i64 v.2.1, .string v.2.2], 23), (b2, #[.int .i64 0, .int .i64 0, .string ⟨#[]⟩], 23)] ∧ Below w.heap.size w w30, ?_, ?_⟩
  · refine ⟨fun st w21 => ∃ t : Bool, st = [.bool t] ∧ w21 = w10 ∧ (t = true ↔ (2 ≤ (bl s).length ∧ (bl s)[0]? = some 39)), ?_, ?_⟩
    · rw [← hbl]
      refine IFB_dec (fun h => ⟨⟨by omega, by omega⟩, _, rfl, rfl, ?_⟩) (fun h => ⟨false, rfl, rfl, by simp; omega⟩)
      have h0 : 0 < (bl s).length := by omega
      rw [sget_nat h0, List.getElem?_eq_getElem h0]
      simp only [beq_iff_eq, u8_39, Option.some.injEq]
      constructor
      · intro h; exact ⟨by omega, h⟩
      · intro h; exact h.2
    rintro _ w21 ⟨t, hst, rfl, ht⟩
    cases hst
    have nr := numL_range (bl s)
    refine IFB_of (fun htt => ?_) (fun htn => ⟨(1, numL (bl s), E0), ⟨nr.1, nr.2⟩, fun u hr hv hu => ?_, S6, B6'⟩)
    · obtain ⟨q1, q2⟩ := ht.1 htt
      have hhead : (bl s).headD 0 = 39 := by rw [List.headD_eq_head?_getD, List.head?_eq_getElem?, q2]; rfl
      obtain ⟨g0, g1, g2, g3⟩ := head_ne hhead
      refine S6.sto3K 0 rfl fun w24 K24 S24 => ?_
      have B24 := kb B6' K24 lo.2
      obtain ⟨md, hmd⟩ : ∃ md, md = ((bl s).drop 1).take ((bl s).length - 2) := ⟨_, rfl⟩
      have hml : md.length = (bl s).length - 2 := by rw [hmd, List.length_take, List.length_drop]; omega
      have hmg : ∀ k, 1 ≤ k → (hk : k < (bl s).length - 1) → md.drop (k - 1) = (bl s)[k] :: md.drop k := by
        intro k h1 hk
        have hlt : k - 1 < md.length := by omega
        rw [List.drop_eq_getElem_cons hlt, show k - 1 + 1 = k by omega]
        congr 1
        simp only [hmd, List.getElem_take, List.getElem_drop]
        congr 1
        omega
      have eW : IntKind.i64.wrap ((s.size : Int) - 1) = ((bl s).length : Int) - 1 := by rw [← hbl, wrap_i64 (by omega) (by omega)]
      rw [eW]
      refine ⟨fun st w25 => ∃ (k : Nat) (a : Option Addr) (c : Nat) (l : List UInt8), st = [.slice a l.length c, .int .i64 (k : Int)] ∧ 1 ≤ k ∧ k ≤ (bl s).length ∧ l.length ≤ k ∧ skipL md = l ++ skipL (md.drop (k - 1)) ∧ NewB w24 w25 l a c ∧ SH (fun _ => True) w w25 [(b5, #[.int .i64 3, .int .i64 0, .string ⟨#[]⟩], 23), (b2, #[.int .i64 0, .int .i64 0, .string ⟨#[]⟩], 23)],
        fun st _ => match st with
          | [_, .int _ i] => (bl s).length - i.toNat
          | _ => 0, ⟨1, none, 0, [], rfl, by omega, by omega, by simp, by simp, ⟨Row.nil _ _ _, by simp [rowB], .refl _ _⟩, S24⟩, ?_⟩
      have far : ∀ {wa wb : World} {ar : Option Addr}, SH (fun _ => True) w wa [(b5, #[.int .i64 3, .int .i64 0, .string ⟨#[]⟩], 23), (b2, #[.int .i64 0, .int .i64 0, .string ⟨#[]⟩], 23)] → Keeps (fun k => rowB ar = some k) wa wb → (∀ k, rowB ar = some k → w24.heap.size ≤ k) → SH (fun _ => True) w wb [(b5, #[.int .i64 3, .int .i64 0, .string ⟨#[]⟩], 23), (b2, #[.int .i64 0, .int .i64 0, .string ⟨#[]⟩], 23)] := by
        intro wa wb ar S K hr
        refine S.kept K (fun x hx he => ?_) (fun _ _ _ => trivial)
        have h1 := hr _ he
        have h2 := S24.lt (x := x) (by
          simp only [List.set_cons_zero, List.mem_cons, List.not_mem_nil, or_false] at hx ⊢
          exact hx)
        omega
      rintro a _ c _ w25 ⟨k, _, _, l, hst, hk1, hk, hlk, hsk, h25, S25⟩
      cases hst
      refine IFB_dec (fun hlt => ?_) (fun hge => ?_)
      · have hkl : k < (bl s).length := by omega
        have hdr := hmg k hk1 (by omega)
        rw [Int.toNat_natCast]
        refine ⟨⟨by omega, by rw [← hbl]; omega⟩, S25.newB fun b30 w28 hb30 B28 S28 => append_byte (h25.grown B28).row (by omega) (sget_byte hkl) (S28.get 0 rfl) fun a29 c29 w29 R29 K29 N29 => ⟨_, _, _, rfl, ⟨by omega, by rw [← hbl]; omega⟩, ?_⟩⟩
        have h29 := h25.appended B28 R29 K29 N29
        have S29 := far (S25.grown B28) K29 h25.new
        rw [sget_nat hkl]
        refine IFB_eq (fun he => ?_) (fun hne => ?_)
        · have hc := u8_39.1 he
          rw [wrap_succ (by omega), wrap_succ (by omega)]
          refine ⟨⟨k + 2, a29, c29, _, rfl, by omega, by omega, by simp; omega, ?_, h29, S29⟩, ?_⟩
          · rw [hsk, hdr, skipL_cons, if_pos hc, List.drop_drop, show k + 2 - 1 = k + 1 by omega]
            simp
          · simp only [Int.toNat_natCast]
            omega
        · have hc : (bl s)[k] ≠ 39 := fun e => hne (u8_39.2 e)
          rw [wrap_succ (by omega)]
          refine ⟨⟨k + 1, a29, c29, _, rfl, by omega, by omega, by simp; omega, ?_, h29, S29⟩, ?_⟩
          · rw [hsk, hdr, skipL_cons, if_neg hc, show k + 1 - 1 = k by omega]
            simp
          · simp only [Int.toNat_natCast]
            omega
      · refine string_of_bytes tbytes rfl h25.rd ⟨_, rfl, S25.stoK 0 rfl (show 2 < 3 by decide) fun w27 K27 S27 => ⟨(3, 0, sof l), ⟨(show -9223372036854775808 ≤ (0 : Int) by decide), (show (0 : Int) ≤ 9223372036854775807 by decide)⟩, fun u hr hv hu => ?_, S27, kb (below_trans B24 h25.bel |> fun h => h) K27 lo.2⟩⟩
        have hl : skipL md = l := by rw [hsk, List.drop_eq_nil_of_le (by omega), skipL_nil, List.append_nil]
        rcases show_cases hr _ hu with ⟨_, h⟩ | ⟨_, h⟩ | ⟨_, h⟩ | ⟨_, h⟩ | ⟨e, hz, h⟩
        · exact absurd h g0
        · exact absurd h (g3 _)
        · exact absurd h g1
        · exact absurd h g2
        · have hm : md = quoteL (bl u.2.2) := by
            rw [hmd, h]
            have := mid_of (m := quoteL (bl u.2.2))
            rw [Nat.sub_sub] at this
            exact this
          rw [hm, skip_quote] at hl
          rw [e, ← hl, sof_bl]
    · rw [htn] at ht
      rcases show_cases hr _ hu with ⟨_, h⟩ | ⟨e, h⟩ | ⟨_, h⟩ | ⟨_, h⟩ | ⟨e, hz, h⟩
      · exact absurd h m0
      · rw [e, h, numL_itoa _ hv.lo hv.hi]
      · exact absurd h m1
      · exact absurd h m2
      · exfalso
        have : false = true := ht.2 (by rw [h]; exact ⟨by simp, rfl⟩)
        cases this
  rintro w30 ⟨v, hv, hcomp, S30, B30⟩
  refine S30.v3 0 rfl ((ref_Show_ok w30 v hv).mono ?_)
  rintro _ w31 ⟨_, rfl, rfl, B31⟩
  have S31 := S30.grown B31
  have B31' : Below w.heap.size w w31 := B30.trans (B31.mono B30.size)
  unfold showV
  cases hr : rightB v with
  | false =>
    refine ⟨_, _, rfl, IFB_true (res (v := v) (u := (0, 0, E0)) S31 B31' (parsed_err fun u hu hvu he => ?_))⟩
    have := hcomp u hu hvu he
    rw [this, hr] at hu
    cases hu
  | true =>
    refine ⟨_, _, rfl, IFB_false (IFB_not (IFB_dec (fun heq => S31.v3 0 rfl (res (v := v) (u := v) S31 B31' (parsed_ok v hr hv ?_))) (fun hne => res (v := v) (u := (0, 0, E0)) S31 B31' (parsed_err fun u hu hvu he => ?_))))⟩
    · rw [← heq, bl_sof]
    · have := hcomp u hu hvu he
      rw [this] at he
      exact hne (by rw [he, sof_bl])

theorem parse_open {s : ByteArray} {r : Value} (h : ParseV s r) : ∃ (v : Val) (e : Int), r = .tuple #[.agg #[.int .i64 v.1, .int .i64 v.2.1, .string v.2.2], .int .i64 e] := by
  rcases h with ⟨v, _, _, _, rfl⟩ | ⟨_, rfl⟩
  · exact ⟨v, 0, rfl⟩
  · exact ⟨(0, 0, E0), 40, rfl⟩
theorem show_open (v : Val) : ∃ (s : ByteArray) (e : Int), showV v = .tuple #[.string s, .int .i64 e] := by
  unfold showV
  split
  · exact ⟨_, _, rfl⟩
  · exact ⟨_, _, rfl⟩

theorem ValueTexts_ok {w : World} (he : Env2 w) (v : Val) (qv : valQ v) (s : ByteArray) (hs : s.data.toList.length ≤ reachBytes) : Calls Tryd.prog f.law04_ValueTexts #[valV v, .string s] w (Ret fun r w' => r = .bool true ∧ Below w.heap.size w w') := by
  have hs' : s.size ≤ 140737488351232 := by rw [← bl_length]; exact hs
  apply R.law04_ValueTexts_calls
  unfold R.law04_ValueTexts
  refine (SH.start (fun _ => False) w).newB fun b5 w1 hb5 B1 S1 => (shown_ok (he.grown B1).env).mono ?_
  rintro _ w2 ⟨_, rfl, rfl, B2⟩
  have S2 := S1.grown B2
  obtain ⟨st, e, hsv⟩ := show_open v
  refine ⟨_, rfl, S2.v3 0 rfl ((value_Show_ok (he.grown S2.below).env v qv.1).mono ?_)⟩
  rintro _ w3 ⟨_, rfl, rfl, B3⟩
  have S3 := S2.grown B3
  rw [hsv]
  refine ⟨_, _, rfl, S3.v3 0 rfl ((ref_Show_ok w3 v qv.1).mono ?_)⟩
  rintro _ w4 ⟨_, rfl, rfl, B4⟩
  have S4 := S3.grown B4
  rw [hsv]
  refine ⟨_, _, rfl, (value_Parse_ok (he.grown S4.below) s hs').mono ?_⟩
  rintro _ w5 ⟨_, rfl, hp5, B5⟩
  have S5 := S4.grown B5
  obtain ⟨u, eu, rfl⟩ := parse_open hp5
  refine ⟨_, _, _, _, rfl, S5.lit3 fun b25 w9 hb25 B9 S9 => (ref_Parse_ok w9 s hs').mono ?_⟩
  rintro _ w10 ⟨_, rfl, hp10, B10⟩
  have S10 := S9.grown B10
  have := parse_one hp10 hp5
  subst this
  refine ⟨_, _, _, _, rfl, S10.lit3 fun b31 w14 hb31 B14 S14 => IFB_true ?_⟩
  rw [bytesEq_iff]
  refine IFB_dec (fun _ => IFB_eq (fun _ => S14.v3 1 rfl (S14.v3 0 rfl ?_)) (fun h => absurd rfl h)) (fun h => absurd rfl h)
  rw [beq_str]
  simp only [BEq.rfl, decide_true, Bool.and_self]
  refine IFB_true ⟨?_, S14.below⟩
  trivial
end Go.Proofs.YtpaajmaecjjfjaaDoor
