/-
  Texts of values, the program's and the document's.
-/
import Derived.Test.YtpaajmaecjjfjaaDoorTexts
import Derived.Test.YtpaajmaecjjfjaaDoorLays2
namespace Go.Proofs.YtpaajmaecjjfjaaDoor
open Go.Dn Go.Proofs
open Go.RowKit (Below)
set_option linter.unusedVariables false
set_option maxRecDepth 20000

theorem sget_nat {s : ByteArray} {k : Nat} (hk : k < (bl s).length) : sget s k = (bl s)[k] := by
  rw [sget_eq]
  simp [List.getD, hk]
theorem sget_byte {s : ByteArray} {k : Nat} (hk : k < (bl s).length) : Value.int .u8 ((sget s k).toNat : Int) = byteV (bl s)[k] := by
  rw [sget_nat hk]
  rfl
theorem u8_39 {c : UInt8} : ((c.toNat : Int) = 39) ↔ c = 39 := by
  constructor
  · intro h
    apply UInt8.toNat_inj.1
    have : (39 : UInt8).toNat = 39 := rfl
    omega
  · intro h; subst h; rfl

/-! ### quoted -/
theorem unq_ne {c : UInt8} (h : c ≠ 39) (r : List UInt8) : unq (c :: r) = (unq r).map (c :: ·) := by
  cases r with
  | nil => simp [unq, h]
  | cons d r => simp [unq, h]
def quotedV (o : Option (List UInt8)) : Value :=
  match o with
  | some t => .tuple #[.string (sof t), .bool true]
  | none => .tuple #[.string ⟨#[]⟩, .bool false]
theorem value_quoted_ok (w : World) (s : ByteArray) (hs : s.size ≤ 140737488351232) : Calls Tryd.prog f.value_quoted #[.string s] w (Ret fun r w' => r = quotedV (unq (bl s)) ∧ Below w.heap.size w w') := by
  apply R.value_quoted_calls
  unfold R.value_quoted
  have hbl := bl_length s
  rw [← hbl] at hs ⊢
  refine ⟨fun st w1 => ∃ (k : Nat) (a : Option Addr) (c : Nat) (l : List UInt8), st = [.slice a l.length c, .int .i64 (k : Int)] ∧ k ≤ (bl s).length ∧ l.length ≤ k ∧ unq (bl s) = (unq ((bl s).drop k)).map (l ++ ·) ∧ NewB w w1 l a c,
    fun st _ => match st with
      | [_, .int _ i] => (bl s).length - i.toNat
      | _ => 0, ⟨0, none, 0, [], rfl, by omega, by simp, by simp, Row.nil _ _ _, by simp [rowB], .refl _ _⟩, ?_⟩
  rintro a _ c _ w1 ⟨k, _, _, l, hst, hk, hlk, hu, h1⟩
  cases hst
  refine IFB_dec (fun hlt => ⟨⟨by omega, hlt⟩, ?_⟩) (fun hge => ?_)
  · have hkl : k < (bl s).length := by omega
    have hd : (bl s).drop k = (bl s)[k] :: (bl s).drop (k + 1) := List.drop_eq_getElem_cons hkl
    rw [Int.toNat_natCast]
    refine (SH.start (fun _ => False) w1).newB fun b7 w3 hb7 B3 S3 => append_byte (h1.grown B3).row (by omega) (sget_byte hkl) (S3.get 0 rfl) fun a4 c4 w4 R4 K4 N4 => ⟨_, _, _, rfl, ⟨by omega, hlt⟩, ?_⟩
    have h4 := h1.appended B3 R4 K4 N4
    rw [sget_nat hkl]
    generalize hcc : (bl s)[k] = cc at hd h4 R4
    have hl' : (l ++ [cc]).length = l.length + 1 := by simp
    refine IFB_ne (fun hne => ?_) (fun he => ?_)
    · have hc : cc ≠ 39 := fun e => hne (u8_39.2 e)
      rw [wrap_succ (by omega)]
      refine ⟨⟨k + 1, a4, c4, _, rfl, by omega, by omega, ?_, h4⟩, ?_⟩
      · rw [hu, hd, unq_ne hc, Option.map_map]
        congr 1
        funext x
        simp
      · simp only [Int.toNat_natCast]
        omega
    · have hc : cc = 39 := u8_39.1 he
      rw [hc] at hd
      rw [wrap_succ (by omega)]
      have bad : unq ((bl s).drop k) = none → (Value.tuple #[.string ⟨#[]⟩, .bool false] = quotedV (unq (bl s)) ∧ Below w.heap.size w w4) := by
        intro hn
        rw [hu, hn]
        exact ⟨rfl, h4.bel⟩
      refine IFB_eq (fun hlast => bad ?_) (fun hnl => ⟨⟨by omega, by omega⟩, ?_⟩)
      · rw [hd, List.drop_eq_nil_of_le (by omega)]
        rfl
      · have hk1 : k + 1 < (bl s).length := by omega
        have hd1 : (bl s).drop (k + 1) = (bl s)[k + 1] :: (bl s).drop (k + 2) := List.drop_eq_getElem_cons hk1
        rw [Int.toNat_natCast, sget_nat hk1]
        refine IFB_ne (fun hne => bad ?_) (fun he2 => ?_)
        · have hc2 : (bl s)[k + 1] ≠ 39 := fun e => hne (u8_39.2 e)
          rw [hd, hd1]
          simp [unq, hc2]
        · have hc2 : (bl s)[k + 1] = 39 := u8_39.1 he2
          rw [wrap_succ (by omega)]
          refine ⟨⟨k + 2, a4, c4, _, rfl, by omega, by omega, ?_, h4⟩, ?_⟩
          · rw [hu, hd, hd1, hc2]
            simp only [unq, if_true]
            rw [Option.map_map, hc]
            congr 1
            funext x
            simp
          · simp only [Int.toNat_natCast]
            omega
  · have hke : k = (bl s).length := by omega
    refine string_of_bytes tbytes rfl h1.rd ⟨_, rfl, ?_, h1.bel⟩
    rw [hu, List.drop_eq_nil_of_le (by omega)]
    simp [unq, quotedV]

/-! ### Digits -/
theorem nDigits_19 {u : Nat} (h : u ≤ 9223372036854775808) : Lib.nDigits u ≤ 19 := by
  have h1 := nDigits_mono 9223372036854775808 u h
  have h2 := Lib.nDigits_unique 18 9223372036854775808 (by decide) (by decide)
  omega
theorem ref_Digits_ok (w : World) (n : Int) (h1 : -9223372036854775808 ≤ n) (h2 : n ≤ 9223372036854775807) : Calls Tryd.prog f.ref04_Digits #[.int .i64 n] w (Ret fun r w' => r = .string (sof (Lib.itoa n)) ∧ Below w.heap.size w w') := by
  apply R.ref04_Digits_calls
  unfold R.ref04_Digits
  obtain ⟨m, hm, hm1, hm2⟩ : ∃ m : Nat, m ≤ 9223372036854775808 ∧ (n < 0 → n = -(m : Int)) ∧ (¬ n < 0 → n = m) := ⟨n.natAbs, by omega, by omega, by omega⟩
  refine ⟨fun s w1 => s = [.int .u64 (m : Int)] ∧ w1 = w, ?_, ?_⟩
  · refine IFB_dec (fun h => ⟨?_, rfl⟩) (fun h => ⟨?_, rfl⟩)
    · have := hm1 h
      have e : IntKind.u64.wrap (0 - IntKind.u64.wrap n) = (m : Int) := by rw [wrap_u64, wrap_u64]; omega
      rw [e]
    · have := hm2 h
      rw [wrap_u64_id (by omega) (by omega), this]
  rintro _ w1 ⟨hs, rfl⟩
  cases hs
  refine ⟨fun st w2 => ∃ (l : List UInt8) (q : Nat), st = [.string (sof l), .int .u64 (q : Int)] ∧ q ≤ 9223372036854775808 ∧ Lib.decDigits m = (if q = 0 ∧ l ≠ [] then [] else Lib.decDigits q) ++ l ∧ Below w1.heap.size w1 w2,
    fun st _ => match st with
      | [.string s, .int _ i] => i.toNat + (if s.size = 0 then 1 else 0)
      | _ => 0, ⟨[], m, rfl, hm, by simp, .refl _ _⟩, ?_⟩
  rintro _ _ w2 ⟨l, q, hst, hq, hl, B2⟩
  cases hst
  have hlen : l.length ≤ 19 := by
    have := congrArg List.length hl
    rw [Lib.decDigits_length, List.length_append] at this
    have := nDigits_19 hm
    omega
  rw [bytesEq_iff]
  refine ⟨fun _ w3 => w3 = w2 ∧ ¬ (q = 0 ∧ l ≠ []), ?_, ?_⟩
  · refine IFB_dec (fun h => ⟨rfl, ?_⟩) (fun h => IFB_dec (fun hp => ⟨rfl, by omega⟩) (fun hp => ?_))
    · have : l = [] := by have := congrArg bl h; rw [bl_sof] at this; exact this
      rintro ⟨_, hh⟩; exact hh this
    · have hl0 : l ≠ [] := fun e => h (by rw [e]; rfl)
      have hq0 : q = 0 := by omega
      rw [if_pos ⟨hq0, hl0⟩, List.nil_append] at hl
      refine IFB_dec (fun hn => ?_) (fun hn => ?_)
      · refine ⟨by rw [size_sof]; show 1 + _ ≤ _; omega, ?_, B2⟩
        rw [show (ByteArray.mk #[45]) = sof [45] from rfl, sof_append]
        congr 2
        unfold Lib.itoa
        rw [if_pos hn]
        have : n.natAbs = m := by have := hm1 hn; omega
        rw [this, hl]
        rfl
      · refine ⟨?_, B2⟩
        congr 2
        unfold Lib.itoa
        rw [if_neg hn]
        have : n.toNat = m := by have := hm2 hn; omega
        rw [this, hl]
  rintro w3 ⟨rfl, hno⟩
  rw [if_neg hno] at hl
  have e1 : IntKind.u8.wrap (IntKind.u64.wrap (48 + Int.tmod (q : Int) 10)) = ((48 + q % 10 : Nat) : Int) := by
    rw [Int.tmod_eq_emod_of_nonneg (by omega), wrap_u64_id (by omega) (by omega), wrap_u8_id (by omega) (by omega)]
    omega
  have e2 : IntKind.u64.wrap (Int.tdiv (q : Int) 10) = ((q / 10 : Nat) : Int) := by rw [Int.tdiv_eq_ediv_of_nonneg (by omega), wrap_u64_id (by omega) (by omega)]; omega
  rw [e1, e2]
  refine ((SH.start (fun _ => False) w1).grown B2).newB fun b8 w4 hb8 B4 S4 => string_of_bytes (l := [UInt8.ofNat (48 + q % 10)]) tbytes rfl (by have := Rd.of_block0 (S4.get 0 rfl); rw [byteV_of (by omega)] at this; simpa using this) ⟨_, rfl, by rw [size_sof, size_sof]; simp; omega, ?_⟩
  rw [sof_append]
  refine ⟨⟨[UInt8.ofNat (48 + q % 10)] ++ l, q / 10, rfl, by omega, ?_, S4.below⟩, ?_⟩
  · rw [hl]
    by_cases hq10 : q < 10
    · rw [if_pos ⟨by omega, by simp⟩, Lib.decDigits_one hq10, Nat.mod_eq_of_lt hq10]
      rfl
    · rw [if_neg (by omega)]
      conv => lhs; rw [Lib.decDigits, dif_neg hq10]
      simp
  · simp only [Int.toNat_natCast, size_sof]
    have : ([UInt8.ofNat (48 + q % 10)] ++ l).length = l.length + 1 := by simp
    rw [this, if_neg (by omega)]
    by_cases hl0 : l.length = 0
    · rw [if_pos hl0]; omega
    · rw [if_neg hl0]
      have : ¬ q = 0 := fun e => hno ⟨e, fun e2 => hl0 (by rw [e2]; rfl)⟩
      omega

theorem quoteL_append (a b : List UInt8) : quoteL (a ++ b) = quoteL a ++ quoteL b := by simp [quoteL]
theorem ref_Show_ok (w : World) (v : Val) (hv : ValOk v) : Calls Tryd.prog f.ref04_Show #[valV v] w (Ret fun r w' => r = showV v ∧ Below w.heap.size w w') := by
  apply R.ref04_Show_calls
  unfold R.ref04_Show
  refine (SH.start (fun _ => True) w).newB fun b4 w1 hb4 B1 S1 => S1.v3 0 rfl ((ref_Right_ok w1 v).mono ?_)
  rintro _ w2 ⟨_, rfl, rfl, B2⟩
  have S2 := S1.grown B2
  have B2' := below_trans B1 B2
  refine ⟨_, rfl, IFB_not (IFB_of (fun hr => ?_) (fun hr => ⟨by simp [showV, hr], B2'⟩))⟩
  have hk := right_kind hr
  have out : ∀ l, showL v = l → Value.tuple #[.string (sof l), .int .i64 0] = showV v := fun l hl => by simp [showV, hr, hl]
  refine ⟨_, S2.cell 0 rfl rfl, IFB_eq (fun h => ⟨out [110, 117, 108, 108] (by simp [showL, h]), B2'⟩) (fun h0 => IFB_eq (fun h => ⟨_, S2.cell 0 rfl rfl, ?_⟩) (fun h1 => IFB_eq (fun h => ⟨_, S2.cell 0 rfl rfl, ?_⟩) (fun h2 => ?_)))⟩
  · refine (ref_Digits_ok w2 v.2.1 hv.lo hv.hi).mono ?_
    rintro _ w3 ⟨_, rfl, rfl, B3⟩
    exact ⟨_, rfl, out (Lib.itoa v.2.1) (by simp [showL, h]), below_trans B2' B3⟩
  · refine IFB_eq (fun hb => ⟨out tTrue ?_, B2'⟩) (fun hb => ⟨out tFalse ?_, B2'⟩)
    · unfold showL
      rw [if_neg (by omega), if_neg (by omega), if_pos h, hb]
      exact fmt_true
    · unfold showL
      have : (v.2.1 == 1) = false := by simpa using hb
      rw [if_neg (by omega), if_neg (by omega), if_pos h, this]
      exact fmt_false
  · have hsz : v.2.2.size ≤ 1024 := by omega
    have hbl := bl_length v.2.2
    rw [← hbl] at hsz
    refine S2.newB fun b15 w4 hb15 B4 S4 => append_byte (l := []) (Row.nil w4 ty.uint8 1) (by simp) (x := 39) rfl (S4.get 0 rfl) fun a5 c5 w5 R5 K5 N5 => ⟨_, _, _, rfl, ?_⟩
    have hw4 : NewB w4 w4 [] none 0 := ⟨Row.nil _ _ _, by simp [rowB], .refl _ _⟩
    have h5 : NewB w4 w5 [39] a5 c5 := hw4.appended (.refl _ _) R5 K5 N5
    have B4' := below_trans B2' B4
    have hb4lt : b4 < w4.heap.size := S4.lt (List.mem_cons_of_mem _ (List.mem_singleton.2 rfl))
    have S4' : SH (fun _ => True) w w4 [(b4, #[.int .i64 v.1, .int .i64 v.2.1, .string v.2.2], 23)] := S4.drop 1
    have far : ∀ {w1 w2 : World} {ar : Option Addr}, SH (fun _ => True) w w1 [(b4, #[.int .i64 v.1, .int .i64 v.2.1, .string v.2.2], 23)] → Keeps (fun k => rowB ar = some k) w1 w2 → (∀ k, rowB ar = some k → w4.heap.size ≤ k) → SH (fun _ => True) w w2 [(b4, #[.int .i64 v.1, .int .i64 v.2.1, .string v.2.2], 23)] := by
      intro w1 w2 ar S K hr
      refine S.kept K (fun x hx he => ?_) (fun _ _ _ => trivial)
      simp only [List.mem_singleton] at hx
      subst hx
      have := hr _ he
      simp only at *
      omega
    have S5 := far S4' K5 (by simp [rowB])
    refine ⟨fun st w6 => ∃ (k : Nat) (a : Option Addr) (c : Nat) (l : List UInt8), st = [.slice a l.length c, .int .i64 (k : Int)] ∧ k ≤ (bl v.2.2).length ∧ l = 39 :: quoteL ((bl v.2.2).take k) ∧ NewB w4 w6 l a c ∧ SH (fun _ => True) w w6 [(b4, #[.int .i64 v.1, .int .i64 v.2.1, .string v.2.2], 23)],
      fun st _ => match st with
        | [_, .int _ i] => (bl v.2.2).length - i.toNat
        | _ => 0, ⟨0, a5, c5, [39], rfl, by omega, rfl, h5, S5⟩, ?_⟩
    rintro a6 _ c6 _ w6 ⟨k, _, _, l, hst, hk6, hl, h6, S6⟩
    cases hst
    have hll : l.length ≤ 2 * k + 1 := by
      rw [hl]
      have := quoteL_len ((bl v.2.2).take k)
      rw [List.length_take] at this
      simp only [List.length_cons]
      omega
    refine ⟨_, S6.cell 0 rfl rfl, ?_⟩
    rw [← hbl]
    refine IFB_dec (fun hlt => ⟨_, S6.cell 0 rfl rfl, ⟨by omega, by rw [← hbl]; exact hlt⟩, ?_⟩) (fun hge => ?_)
    · have hkl : k < (bl v.2.2).length := by omega
      rw [Int.toNat_natCast]
      refine S6.newB fun b28 w10 hb28 B10 S10 => append_byte (h6.grown B10).row (by omega) (sget_byte hkl) (S10.get 0 rfl) fun a11 c11 w11 R11 K11 N11 => ⟨_, _, _, rfl, ?_⟩
      have h11 := h6.appended B10 R11 K11 N11
      have S11 := far (S6.grown B10) K11 h6.new
      refine ⟨_, S11.cell 0 rfl rfl, ⟨by omega, by rw [← hbl]; exact hlt⟩, ?_⟩
      rw [sget_nat hkl]
      have htk : (bl v.2.2).take (k + 1) = (bl v.2.2).take k ++ [(bl v.2.2)[k]] := by rw [List.take_succ_eq_append_getElem hkl]
      refine IFB_eq (fun he => ?_) (fun hne => ?_)
      · have hc := u8_39.1 he
        refine S11.newB fun b32 w12 hb32 B12 S12 => append_byte (h11.grown B12).row (by simp; omega) (x := 39) rfl (S12.get 0 rfl) fun a13 c13 w13 R13 K13 N13 => ⟨_, _, _, rfl, ?_⟩
        have h13 := h11.appended B12 R13 K13 N13
        rw [wrap_succ (by omega)]
        refine ⟨⟨k + 1, a13, c13, _, rfl, by omega, ?_, h13, far (S11.grown B12) K13 h11.new⟩, ?_⟩
        · rw [hl, htk, quoteL_append, hc]
          simp [quoteL]
        · simp only [Int.toNat_natCast]
          omega
      · have hc : (bl v.2.2)[k] ≠ 39 := fun e => hne (u8_39.2 e)
        rw [wrap_succ (by omega)]
        refine ⟨⟨k + 1, a11, c11, _, rfl, by omega, ?_, h11, S11⟩, ?_⟩
        · rw [hl, htk, quoteL_append]
          simp [quoteL, hc]
        · simp only [Int.toNat_natCast]
          omega
    · have hke : k = (bl v.2.2).length := by omega
      refine S6.newB fun b22 w7 hb22 B7 S7 => append_byte (h6.grown B7).row (by omega) (x := 39) rfl (S7.get 0 rfl) fun a8 c8 w8 R8 K8 N8 => ⟨_, _, _, rfl, ?_⟩
      have h8 := h6.appended B7 R8 K8 N8
      refine string_of_bytes tbytes rfl h8.rd ⟨_, rfl, out _ ?_, below_trans B4' h8.bel⟩
      unfold showL
      rw [if_neg h0, if_neg h1, if_neg h2, hl, hke, List.take_length]

/-! ### the program's Parse -/
structure Env2 (w : World) : Prop where
  env : Env w
  syn : ∃ t p, w.cell? ⟨2, 0, none⟩ = some (.iface t p)
  rng : ∃ t p, w.cell? ⟨3, 0, none⟩ = some (.iface t p)
theorem Env2.grown {w w' : World} (h : Env2 w) (hb : Below w.heap.size w w') : Env2 w' := by
  obtain ⟨h1, ⟨t, p, h2⟩, ⟨t', p', h3⟩⟩ := h
  exact ⟨h1.grown hb, ⟨t, p, (Keeps.of_below (F := fun _ => False) hb).cell h2 (by simp)⟩, ⟨t', p', (Keeps.of_below (F := fun _ => False) hb).cell h3 (by simp)⟩⟩
theorem below_bytesWorld (w : World) (e : TypeId) (t : ByteArray) : Below w.heap.size w (Lib.bytesWorld w e t) := by
  unfold Lib.bytesWorld
  have h1 : Keeps (fun k => k = w.heap.size) w (w.drew.alloc (.cells (Lib.bytesCells w e t) e)) := (Keeps.refl _ w).drew.alloc _
  have h2 := freeze_keeps (fun k => k = w.heap.size) (w.drew.alloc (.cells (Lib.bytesCells w e t) e)) ⟨w.heap.size, (Lib.bytesCells w e t).size, none⟩ 1 rfl
  exact (h1.trans h2 (fun _ _ h => h)).below (Nat.le_refl _) (fun k hk he => by omega)
/-- ParseInt at 10, 64: a number, or an error that is not nil -/
theorem parseInt_ok {w : World} (he : Env2 w) (s : ByteArray) (hs : s.size ≤ 140737488351232) : Calls Tryd.prog f.strconv_ParseInt #[.string s, .int .i64 10, .int .i64 64] w (fun e w' => Below w.heap.size w w' ∧
    ((∃ n, Lib.parseIntB 64 (bl s) = .ok n ∧ e = .returned (.tuple #[.int .i64 n, .nilIface])) ∨ ((∀ n, Lib.parseIntB 64 (bl s) ≠ .ok n) ∧ ∃ (n : Int) (t : TypeId) (p : Value), e = .returned (.tuple #[.int .i64 n, .iface t p])))) := by
  obtain ⟨h1, ⟨t, p, h2⟩, ⟨t', p', h3⟩⟩ := he
  have three : (∃ n, Lib.parseIntB 64 s.data.toList = Lib.NumEnd.ok n) ∨ Lib.parseIntB 64 s.data.toList = Lib.NumEnd.syntax ∨ Lib.parseIntB 64 s.data.toList = Lib.NumEnd.range := by
    generalize Lib.parseIntB 64 s.data.toList = q
    cases q
    · exact .inl ⟨_, rfl⟩
    · exact .inr (.inl rfl)
    · exact .inr (.inr rfl)
  rcases three with ⟨n, ho⟩ | ho | ho
  · refine (Tryd.strconv_ParseInt_10_at64_ok s (by omega) n ho w).mono ?_
    rintro e w' ⟨rfl, hw⟩
    refine ⟨?_, .inl ⟨n, ho, rfl⟩⟩
    rcases hw with rfl | ⟨tt, rfl⟩
    · exact .refl _ _
    · exact below_bytesWorld _ _ _
  · have no : ∀ n, Lib.parseIntB 64 (bl s) ≠ .ok n := fun n hn => by have h : Lib.parseIntB 64 (bl s) = _ := ho; rw [h] at hn; cases hn
    refine (Tryd.strconv_ParseInt_10_at64_syntax s (by omega) ho _ w h2 (.inr ⟨t, p, rfl⟩)).mono ?_
    rintro e w' ⟨N, rfl, _, _, hb⟩
    exact ⟨hb, .inr ⟨no, _, _, _, rfl⟩⟩
  · have no : ∀ n, Lib.parseIntB 64 (bl s) ≠ .ok n := fun n hn => by have h : Lib.parseIntB 64 (bl s) = _ := ho; rw [h] at hn; cases hn
    refine (Tryd.strconv_ParseInt_10_at64_range s (by omega) ho _ w h3 (.inr ⟨t', p', rfl⟩)).mono ?_
    rintro e w' ⟨N, rfl, _, _, hb⟩
    exact ⟨hb, .inr ⟨no, _, _, _, rfl⟩⟩
theorem parseInt_range {l : List UInt8} {n : Int} (h : Lib.parseIntB 64 l = .ok n) : -9223372036854775808 ≤ n ∧ n ≤ 9223372036854775807 := by
  have p63 : (2 : Nat) ^ (64 - 1) = 9223372036854775808 := by decide
  unfold Lib.parseIntB at h
  split at h
  · cases h
  · simp only [p63] at h
    split at h
    · cases h
    · cases h
    · split at h
      · cases h
      · split at h
        · cases h
        · simp only [Lib.NumEnd.ok.injEq] at h
          split at h <;> omega
end Go.Proofs.YtpaajmaecjjfjaaDoor
