/-
  The bytes and the text of a value.
-/
import Derived.Test.YtpaajmaecjjfjaaDoorVal
namespace Go.Proofs.YtpaajmaecjjfjaaDoor
open Go.Dn Go.Proofs
open Go.RowKit (Below)
set_option linter.unusedVariables false
set_option maxRecDepth 20000

/-! ### what package-level variables hold -/
structure Env (w : World) : Prop where
  max : ∃ m, w.cell? ⟨0, 0, none⟩ = some (.int .i64 m)
  pow : Lib.TabIs Tryd.prog w "internal/strconv.uint64pow10" .u64 Lib.pow10Tab
theorem var_grown {P : Program} {w w' : World} {n : String} {cs : Array Value} (h : w.var? P n = some cs) (hb : Below w.heap.size w w') : w'.var? P n = some cs := by
  unfold World.var? at *
  cases hg : P.globalNamed n with
  | none => simp [hg] at h
  | some g =>
    simp only [hg, Option.bind_some] at h ⊢
    split at h
    · rename_i c t fz hh
      rw [hb.block g (Array.getElem?_eq_some_iff.1 hh).1, hh]
      exact h
    · cases h
theorem Env.grown {w w' : World} (h : Env w) (hb : Below w.heap.size w w') : Env w' := by
  refine ⟨?_, var_grown h.pow hb⟩
  obtain ⟨m, hm⟩ := h.max
  exact ⟨m, (Keeps.of_below (F := fun _ => False) hb).cell hm (by simp)⟩
theorem below_grow (w : World) (k : Nat) (os : Array Obj) : Below w.heap.size w (Sort.grow (w.drewN k) os) := by
  refine ⟨rfl, rfl, rfl, ?_, fun j hj => ?_⟩
  · simp [Sort.grow, World.drewN]
  · simp [Sort.grow, World.drewN, Array.getElem?_append, hj]

/-! ### Number, Signed, Text -/
theorem flat2 (a b : PartB) : flatB [a, b] = a.2.2 ++ b.2.2 := by simp [flatB]
theorem flat3 (a b c : PartB) : flatB [a, b, c] = a.2.2 ++ (b.2.2 ++ c.2.2) := by simp [flatB]
theorem wire_Number_ok {w : World} {a : Option Addr} {c : Nat} (l : List UInt8) (hl : Rd w a (l.map byteV)) (n : Nat) (hn : n < 18446744073709551616) (hs : l.length + 10 ≤ 140737488355328) :
    Calls Tryd.prog f.wire_Number #[.slice a l.length c, .int .u64 (n : Int)] w (Ret fun v w' => ∃ a c, v = .slice a (l ++ digitsL n).length c ∧ NewB w w' (l ++ digitsL n) a c) := by
  apply R.wire_Number_calls
  unfold R.wire_Number
  refine (wire_digits_ok w n hn).mono ?_
  rintro _ w1 ⟨_, rfl, a1, c1, rfl, h1⟩
  refine ⟨_, _, _, rfl, (SH.start (fun _ => False) w1).newB fun b5 w2 hb5 B2 S2 => ?_⟩
  have hd := digitsL_len10 hn
  have h2 := h1.grown B2
  refine (slices_Concat_ok [(a, c, l), (a1, c1, digitsL n)] (by have := Rd.of_block0 (S2.get 0 rfl); simpa [partV1] using this) (by
    intro p hp
    simp only [List.mem_cons, List.not_mem_nil, or_false] at hp
    rcases hp with rfl | rfl
    · exact hl.grown h2.bel
    · exact h2.rd) (by simp) (by rw [flat2]; simp; omega)).mono ?_
  rintro _ w3 ⟨_, rfl, a3, c3, rfl, h3⟩
  rw [flat2] at h3 ⊢
  exact ⟨_, _, _, rfl, a3, c3, rfl, h3.before h2.bel⟩

def zigN (n : Int) : Nat := if n < 0 then (-(2 * n) - 1).toNat else (2 * n).toNat
theorem zigN_lt {n : Int} (h1 : -9223372036854775808 ≤ n) (h2 : n ≤ 9223372036854775807) : zigN n < 18446744073709551616 := by unfold zigN; split <;> omega
theorem zig_prog {n : Int} (h1 : -9223372036854775808 ≤ n) (h2 : n ≤ 9223372036854775807) :
    IntKind.u64.wrap (((BitVec.ofInt 64 (IntKind.u64.wrap (IntKind.i64.wrap (n * 2 ^ (min 1 64)))) ^^^ BitVec.ofInt 64 (IntKind.u64.wrap (Int.fdiv n (2 ^ (min 63 64))))).toNat : Int)) = (zigN n : Int) := by
  have e1 : IntKind.u64.wrap (IntKind.i64.wrap (n * 2 ^ (min 1 64))) = (2 * n) % 18446744073709551616 := by
    rw [wrap_u64, wrap_i64_def]
    have : n * 2 ^ (min 1 64) = 2 * n := by rw [show (2 : Int) ^ (min 1 64) = 2 from rfl]; omega
    rw [this]
    split <;> omega
  rw [e1]
  by_cases hn : n < 0
  · have e2 : Int.fdiv n (2 ^ (min 63 64)) = -1 := by
      rw [Int.fdiv_eq_ediv_of_nonneg _ (by decide), show (2 : Int) ^ (min 63 64) = 9223372036854775808 from rfl]
      omega
    rw [e2, show IntKind.u64.wrap (-1) = 18446744073709551615 by decide]
    obtain ⟨m, hm⟩ : ∃ m : Nat, (2 * n) % 18446744073709551616 = (m : Int) := ⟨((2 * n) % 18446744073709551616).toNat, by omega⟩
    have hmlt : m < 18446744073709551616 := by omega
    rw [hm, show BitVec.ofInt 64 18446744073709551615 = BitVec.allOnes 64 by decide, BitVec.xor_allOnes, BitVec.toNat_not, BitVec.ofInt_natCast, BitVec.toNat_ofNat, Nat.mod_eq_of_lt (by omega), wrap_u64_id (by omega) (by omega)]
    unfold zigN
    rw [if_pos hn]
    omega
  · have e2 : Int.fdiv n (2 ^ (min 63 64)) = 0 := by
      rw [Int.fdiv_eq_ediv_of_nonneg _ (by decide), show (2 : Int) ^ (min 63 64) = 9223372036854775808 from rfl]
      omega
    obtain ⟨m, rfl⟩ : ∃ m : Nat, n = (m : Int) := ⟨n.toNat, by omega⟩
    rw [e2, show IntKind.u64.wrap 0 = 0 by decide, show BitVec.ofInt 64 0 = 0#64 by decide, BitVec.xor_zero]
    have : (2 * (m : Int)) % 18446744073709551616 = ((2 * m : Nat) : Int) := by omega
    rw [this, BitVec.ofInt_natCast, BitVec.toNat_ofNat, Nat.mod_eq_of_lt (by omega), wrap_u64_id (by omega) (by omega)]
    unfold zigN
    rw [if_neg hn]
    omega
theorem wire_Signed_ok {w : World} {a : Option Addr} {c : Nat} (l : List UInt8) (hl : Rd w a (l.map byteV)) (n : Int) (h1 : -9223372036854775808 ≤ n) (h2 : n ≤ 9223372036854775807) (hs : l.length + 10 ≤ 140737488355328) :
    Calls Tryd.prog f.wire_Signed #[.slice a l.length c, .int .i64 n] w (Ret fun v w' => ∃ a c, v = .slice a (l ++ digitsL (zigN n)).length c ∧ NewB w w' (l ++ digitsL (zigN n)) a c) := by
  apply R.wire_Signed_calls
  unfold R.wire_Signed
  rw [zig_prog h1 h2]
  refine (wire_Number_ok l hl (zigN n) (zigN_lt h1 h2) hs).mono ?_
  rintro _ w1 ⟨_, rfl, a1, c1, rfl, h⟩
  exact ⟨_, _, _, rfl, a1, c1, rfl, h⟩
def textL (s : ByteArray) : List UInt8 := digitsL s.size ++ bl s
theorem wire_Text_ok {w : World} {a : Option Addr} {c : Nat} (l : List UInt8) (hl : Rd w a (l.map byteV)) (s : ByteArray) (hz : s.size ≤ 1048576) (hs : l.length + 10 + s.size ≤ 140737488355328) :
    Calls Tryd.prog f.wire_Text #[.slice a l.length c, .string s] w (Ret fun v w' => ∃ a c, v = .tuple #[.slice a (l ++ textL s).length c, .int .i64 0] ∧ NewB w w' (l ++ textL s) a c) := by
  apply R.wire_Text_calls
  unfold R.wire_Text
  refine IFB_dec (fun h => by omega) (fun _ => ?_)
  rw [wrap_u64_id (by omega) (by omega)]
  refine (wire_digits_ok w s.size (by omega)).mono ?_
  rintro _ w1 ⟨_, rfl, a1, c1, rfl, h1⟩
  have hd := digitsL_len10 (n := s.size) (by omega)
  refine ⟨_, _, _, rfl, bytes_of_string tbytes s w1 fun b c2 cs e w2 hb B2 hh hcs hsc htk => ⟨_, _, _, rfl, (SH.start (fun _ => False) w2).newB fun b7 w3 hb7 B3 S3 => ?_⟩⟩
  have hrd : Rd w2 (some ⟨b, 0, none⟩) ((bl s).map byteV) := by rw [← htk]; exact (Rd.of_block0 hh).take _
  have h3 := (h1.grown B2).grown B3
  have hbl := bl_length s
  refine (slices_Concat_ok [(a, c, l), (a1, c1, digitsL s.size), (some ⟨b, 0, none⟩, c2, bl s)] (by have := Rd.of_block0 (S3.get 0 rfl); simpa [partV1, hbl] using this) (by
    intro p hp
    simp only [List.mem_cons, List.not_mem_nil, or_false] at hp
    rcases hp with rfl | rfl | rfl
    · exact hl.grown h3.bel
    · exact h3.rd
    · exact hrd.grown B3) (by simp) (by rw [flat3]; simp; omega)).mono ?_
  rintro _ w4 ⟨_, rfl, a3, c3, rfl, h4⟩
  rw [flat3] at h4 ⊢
  exact ⟨_, _, _, rfl, a3, c3, rfl, h4.before h3.bel⟩

/-! ### Lay -/
def layL (v : Val) : List UInt8 :=
  if v.1 = 1 then 1 :: digitsL (zigN v.2.1) else if v.1 = 2 then [2, UInt8.ofNat v.2.1.toNat] else if v.1 = 3 then 3 :: textL v.2.2 else [0]
structure ValOk (v : Val) : Prop where
  lo : -9223372036854775808 ≤ v.2.1
  hi : v.2.1 ≤ 9223372036854775807
theorem right_kind {v : Val} (h : rightB v = true) : v.1 = 0 ∨ v.1 = 1 ∨ (v.1 = 2 ∧ (v.2.1 = 0 ∨ v.2.1 = 1)) ∨ (v.1 = 3 ∧ v.2.2.size ≤ 1024) := by
  unfold rightB at h
  split at h
  · left; assumption
  · split at h
    · right; left; assumption
    · split at h
      · right; right; left; simp at h; exact ⟨by assumption, h.1⟩
      · split at h
        · right; right; right; simp at h; exact ⟨by assumption, h.2⟩
        · cases h
/-- the bytes, or that there are none -/
def layV (b : List UInt8) (v : Val) (r : Value) (w w' : World) : Prop :=
  (rightB v = false ∧ r = .tuple #[.slice none 0 0, .int .i64 2] ∧ Below w.heap.size w w') ∨ (rightB v = true ∧ ∃ a c, r = .tuple #[.slice a (b ++ layL v).length c, .int .i64 0] ∧ NewB w w' (b ++ layL v) a c)
theorem value_Lay_ok {w : World} {a : Option Addr} {c : Nat} (l : List UInt8) (hl : Rd w a (l.map byteV)) (v : Val) (hv : ValOk v) (hs : l.length + 2000 ≤ 140737488355328) :
    Calls Tryd.prog f.value_Lay #[.slice a l.length c, valV v] w (Ret fun r w' => layV l v r w w') := by
  apply R.value_Lay_calls
  unfold R.value_Lay
  refine (SH.start (fun _ => False) w).newB fun b5 w1 hb5 B1 S1 => ⟨_, S1.cell 0 rfl rfl, _, S1.cell 0 rfl rfl, _, S1.cell 0 rfl rfl, (value_Right_ok w1 v).mono ?_⟩
  rintro _ w2 ⟨_, rfl, rfl, B2⟩
  have S2 := S1.grown B2
  refine ⟨_, rfl, IFB_not (IFB_of (fun hr => ?_) (fun hr => .inl ⟨hr, rfl, S2.below⟩))⟩
  have hk := right_kind hr
  refine ⟨_, S2.cell 0 rfl rfl, S2.newB fun b12 w3 hb12 B3 S3 => S3.newB fun b13 w4 hb13 B4 S4 => ?_⟩
  obtain ⟨kk, hkk, hkb⟩ : ∃ kk : Nat, v.1 = kk ∧ kk < 4 := ⟨v.1.toNat, by omega, by omega⟩
  have hkv : Value.int .u8 (IntKind.u8.wrap v.1) = byteV (UInt8.ofNat kk) := by rw [hkk, wrap_u8_id (by omega) (by omega)]; exact byteV_of (by omega)
  refine (slices_Concat_ok [(a, c, l), (some ⟨b12, 0, none⟩, 1, [UInt8.ofNat kk])] (by have := Rd.of_block0 (S4.get 0 rfl); simpa [partV1] using this) (by
    intro p hp
    simp only [List.mem_cons, List.not_mem_nil, or_false] at hp
    rcases hp with rfl | rfl
    · exact hl.grown S4.below
    · have := Rd.of_block0 (S4.get 1 rfl)
      rw [hkv] at this
      simpa using this) (by simp) (by rw [flat2]; simp; omega)).mono ?_
  rintro _ w5 ⟨_, rfl, a5, c5, rfl, h5⟩
  rw [flat2] at h5 ⊢
  have S5 := S4.grown h5.bel
  have h5' : NewB w w5 (l ++ [UInt8.ofNat kk]) a5 c5 := h5.before S4.below
  refine ⟨_, _, _, rfl, _, S5.cell 2 rfl rfl, IFB_eq (fun h => ⟨_, S5.cell 2 rfl rfl, ?_⟩) (fun h1 => IFB_eq (fun h => ⟨_, S5.cell 2 rfl rfl, ?_⟩) (fun h2 => IFB_eq (fun h => ⟨_, S5.cell 2 rfl rfl, ?_⟩) (fun h3 => ?_)))⟩
  · refine (wire_Signed_ok _ h5'.rd v.2.1 hv.lo hv.hi (by simp; omega)).mono ?_
    rintro _ w6 ⟨_, rfl, a6, c6, rfl, h6⟩
    have e : (l ++ [UInt8.ofNat kk]) ++ digitsL (zigN v.2.1) = l ++ layL v := by
      have : kk = 1 := by omega
      subst this
      simp [layL, h]
    rw [e] at h6 ⊢
    exact ⟨_, _, _, rfl, .inr ⟨hr, a6, c6, rfl, h6.before h5'.bel⟩⟩
  · have hb01 : v.2.1 = 0 ∨ v.2.1 = 1 := by omega
    refine S5.newB fun b21 w7 hb21 B7 S7 => ?_
    refine append_byte (h5'.grown B7).row (by simp; omega) (x := UInt8.ofNat v.2.1.toNat) (by rw [wrap_u8_id (by omega) (by omega)]; rcases hb01 with h | h <;> rw [h] <;> rfl) (S7.get 0 rfl) fun a8 c8 w8 R8 K8 N8 => ⟨_, _, _, rfl, .inr ⟨hr, a8, c8, ?_⟩⟩
    have e : (l ++ [UInt8.ofNat kk]) ++ [UInt8.ofNat v.2.1.toNat] = l ++ layL v := by
      have : kk = 2 := by omega
      subst this
      simp [layL, h]
    rw [e] at R8 ⊢
    have h7 := h5'.grown B7
    refine ⟨rfl, R8, fun k hk => ?_, h7.bel.trans (K8.below h7.bel.size fun k hk he => by have := h7.new k he; omega)⟩
    rcases N8 k hk with h | h
    · exact h7.new k h
    · exact Nat.le_trans h7.bel.size h
  · refine (wire_Text_ok _ h5'.rd v.2.2 (by omega) (by simp; omega)).mono ?_
    rintro _ w6 ⟨_, rfl, a6, c6, rfl, h6⟩
    have e : (l ++ [UInt8.ofNat kk]) ++ textL v.2.2 = l ++ layL v := by
      have : kk = 3 := by omega
      subst this
      simp [layL, h]
    rw [e] at h6 ⊢
    exact ⟨_, _, _, _, rfl, .inr ⟨hr, a6, c6, rfl, h6.before h5'.bel⟩⟩
  · have e : l ++ [UInt8.ofNat kk] = l ++ layL v := by
      have : kk = 0 := by omega
      subst this
      simp [layL, h1, h2, h3]
    have h6 := h5'
    rw [e] at h6
    refine .inr ⟨hr, a5, c5, ?_, h6⟩
    rw [← e]

/-! ### Show -/
def quoteL (l : List UInt8) : List UInt8 := l.flatMap fun c => if c = 39 then [39, 39] else [c]
theorem quoteL_len (l : List UInt8) : (quoteL l).length ≤ 2 * l.length := by
  induction l with
  | nil => simp [quoteL]
  | cons c l ih =>
    simp only [quoteL, List.flatMap_cons, List.length_append, List.length_cons] at *
    split <;> simp only [List.length_cons, List.length_nil] <;> omega
theorem index39_hit (l : List UInt8) : Lib.index (39 :: l) [39] = 0 := by simp [Lib.index, List.isPrefixOf]
theorem index39_miss (c : UInt8) (l : List UInt8) (h : c ≠ 39) : Lib.index (c :: l) [39] = if Lib.index l [39] == -1 then -1 else Lib.index l [39] + 1 := by
  have : ¬ ((39 : UInt8) = c) := fun e => h e.symm
  simp [Lib.index, List.isPrefixOf, this]
theorem replaceK_miss (c : UInt8) (l : List UInt8) (h : c ≠ 39) : ∀ k, Lib.replaceK [39] [39, 39] k (c :: l) = c :: Lib.replaceK [39] [39, 39] k l
  | 0 => rfl
  | k + 1 => by
    have hge := Lib.index_ge l [39]
    rw [Lib.replaceK, Lib.replaceK, index39_miss c l h]
    by_cases hm : Lib.index l [39] = -1
    · simp [hm]
    · have h1 : ¬ (Lib.index l [39] == -1) = true := by simpa using hm
      rw [if_neg h1, if_neg h1]
      have h2 : ¬ (Lib.index l [39] + 1 == -1) = true := by simp; omega
      rw [if_neg h2]
      obtain ⟨i, hi⟩ : ∃ i : Nat, Lib.index l [39] = i := ⟨(Lib.index l [39]).toNat, by omega⟩
      rw [hi]
      have e : ((i : Int) + 1).toNat = i + 1 := by omega
      rw [e, Int.toNat_natCast]
      have e2 : i + 1 + [(39 : UInt8)].length = (i + [(39 : UInt8)].length) + 1 := by simp
      rw [e2, List.drop_succ_cons, List.take_succ_cons]
      rfl
theorem replaceK_quote : ∀ (l : List UInt8) (k : Nat), l.count 39 ≤ k → Lib.replaceK [39] [39, 39] k l = quoteL l
  | [], k, _ => by
    cases k with
    | zero => rfl
    | succ k => simp [Lib.replaceK, Lib.index, quoteL]
  | c :: l, k, hk => by
    by_cases hc : c = 39
    · subst hc
      simp only [List.count_cons_self] at hk
      obtain ⟨k, rfl⟩ : ∃ j, k = j + 1 := ⟨k - 1, by omega⟩
      rw [Lib.replaceK_hit _ _ _ _ 0 (index39_hit l)]
      have := replaceK_quote l k (by omega)
      simp [this, quoteL]
    · rw [List.count_cons_of_ne (fun e => hc e)] at hk
      rw [replaceK_miss c l hc, replaceK_quote l k hk]
      simp [quoteL, hc]
theorem replaceAll_quote (l : List UInt8) : Lib.replaceAll l [39] [39, 39] = quoteL l := by
  unfold Lib.replaceAll Lib.replace
  rw [if_neg (by decide)]
  refine replaceK_quote l _ ?_
  unfold Lib.replaceNum
  rw [if_pos (.inl (by decide)), Lib.count_one]
  exact Nat.le_refl _

def showL (v : Val) : List UInt8 :=
  if v.1 = 0 then [110, 117, 108, 108] else if v.1 = 1 then Lib.itoa v.2.1 else if v.1 = 2 then Lib.formatBool (v.2.1 == 1) else (39 :: quoteL (bl v.2.2)) ++ [39]
def showV (v : Val) : Value := if rightB v then .tuple #[.string (sof (showL v)), .int .i64 0] else .tuple #[.string ⟨#[]⟩, .int .i64 2]
theorem value_Show_ok {w : World} (he : Env w) (v : Val) (hv : ValOk v) : Calls Tryd.prog f.value_Show #[valV v] w (Ret fun r w' => r = showV v ∧ Below w.heap.size w w') := by
  apply R.value_Show_calls
  unfold R.value_Show
  refine (SH.start (fun _ => False) w).newB fun b5 w1 hb5 B1 S1 => ⟨_, S1.cell 0 rfl rfl, _, S1.cell 0 rfl rfl, _, S1.cell 0 rfl rfl, (value_Right_ok w1 v).mono ?_⟩
  rintro _ w2 ⟨_, rfl, rfl, B2⟩
  have S2 := S1.grown B2
  have he2 := he.grown S2.below
  refine ⟨_, rfl, IFB_not (IFB_of (fun hr => ?_) (fun hr => ⟨by simp [showV, hr], S2.below⟩))⟩
  have hk := right_kind hr
  have out : ∀ l, showL v = l → Value.tuple #[.string (sof l), .int .i64 0] = showV v := fun l hl => by simp [showV, hr, hl]
  refine ⟨_, S2.cell 0 rfl rfl, IFB_eq (fun h => ⟨?_, S2.below⟩) (fun h0 => IFB_eq (fun h => ⟨_, S2.cell 0 rfl rfl, ?_⟩) (fun h1 => IFB_eq (fun h => ⟨_, S2.cell 0 rfl rfl, ?_⟩) (fun h2 => ⟨_, S2.cell 0 rfl rfl, ?_⟩)))⟩
  · exact out [110, 117, 108, 108] (by simp [showL, h])
  · refine (Tryd.strconv_FormatInt_10 v.2.1 hv.lo hv.hi w2 he2.pow).mono ?_
    rintro _ w3 ⟨rfl, k, os, rfl⟩
    exact ⟨_, rfl, out (Lib.itoa v.2.1) (by simp [showL, h]), (S2.grown (below_grow w2 k os)).below⟩
  · refine (Tryd.strconv_FormatBool _ w2).mono ?_
    rintro _ w2 ⟨rfl, rfl⟩
    exact ⟨_, rfl, out (Lib.formatBool (v.2.1 == 1)) (by simp [showL, h]), S2.below⟩
  · obtain ⟨m, hm⟩ := he2.max
    have hs : v.2.2.size ≤ 1024 := by omega
    have hbl := bl_length v.2.2
    have hq := quoteL_len (bl v.2.2)
    refine (Tryd.strings_ReplaceAll v.2.2 ⟨#[39]⟩ ⟨#[39, 39]⟩ m w2 (by omega) hm (by decide) ?_).mono ?_
    · have h1 := Lib.count_le v.2.2.data.toList [39]
      have h3 : v.2.2.data.toList.length = v.2.2.size := hbl
      have h2 : Lib.countB v.2.2 ⟨#[39]⟩ ≤ 1025 := Nat.le_trans h1 (by omega)
      have h4 : (ByteArray.mk #[39, 39]).size = 2 := rfl
      rw [h4]
      omega
    rintro _ w3 ⟨rfl, B3⟩
    have e : (ByteArray.mk (Lib.replaceAll v.2.2.data.toList (ByteArray.mk #[39]).data.toList (ByteArray.mk #[39, 39]).data.toList).toArray) = sof (quoteL (bl v.2.2)) := by
      have := replaceAll_quote (bl v.2.2)
      show sof _ = _
      congr 1
    rw [e]
    refine ⟨_, rfl, ?_, ?_, ?_, (S2.grown B3).below⟩
    · rw [size_sof]
      show 1 + _ ≤ _
      omega
    · rw [ByteArray.size_append, size_sof]
      show 1 + _ + 1 ≤ _
      omega
    · rw [show (ByteArray.mk #[39]) = sof [39] from rfl, sof_append, sof_append]
      exact out _ (by simp [showL, h0, h1, h2])

theorem shown_ok {w : World} (he : Env w) : Calls Tryd.prog f.law04_shown #[] w (Ret fun r w' => r = .bool true ∧ Below w.heap.size w w') := by
  apply R.law04_shown_calls
  unfold R.law04_shown
  refine (value_Show_ok he (3, 0, ⟨#[105, 116, 39, 115]⟩) ⟨by decide, by decide⟩).mono ?_
  rintro _ w1 ⟨_, rfl, rfl, B1⟩
  have e1 : showV (3, 0, ⟨#[105, 116, 39, 115]⟩) = .tuple #[.string ⟨#[39, 105, 116, 39, 39, 115, 39]⟩, .int .i64 0] := by
    have : rightB (3, 0, ⟨#[105, 116, 39, 115]⟩) = true := by decide
    unfold showV
    rw [if_pos this]
    rfl
  rw [e1]
  refine ⟨_, _, rfl, (value_Lay_ok (w := w1) (a := none) (c := 0) [] (Rd.nil _ _) (1, -3, ⟨#[]⟩) ⟨by decide, by decide⟩ (by decide)).mono ?_⟩
  rintro _ w2 ⟨_, rfl, h⟩
  rcases h with ⟨hf, _⟩ | ⟨_, a, c, rfl, h2⟩
  · exact absurd hf (by decide)
  have e2 : [] ++ layL (1, -3, ⟨#[]⟩) = [1, 5] := by
    show 1 :: digitsL (zigN (-3)) = _
    have : zigN (-3) = 5 := by decide
    rw [this]
    unfold digitsL
    rfl
  rw [e2] at h2 ⊢
  refine ⟨_, _, _, _, rfl, IFB_true ?_⟩
  rw [bytesEq_iff]
  refine IFB_dec (fun _ => IFB_true (string_of_bytes tbytes rfl h2.rd ⟨_, rfl, ?_⟩)) (fun h => absurd rfl h)
  rw [bytesEq_iff]
  refine IFB_dec (fun _ => (value_Compare_ok w2 (0, 0, ⟨#[]⟩) (1, 0, ⟨#[]⟩)).mono ?_) (fun h => absurd rfl h)
  rintro _ w4 ⟨_, rfl, rfl, B4⟩
  exact ⟨_, rfl, rfl, below_trans (below_trans B1 h2.bel) B4⟩
end Go.Proofs.YtpaajmaecjjfjaaDoor
