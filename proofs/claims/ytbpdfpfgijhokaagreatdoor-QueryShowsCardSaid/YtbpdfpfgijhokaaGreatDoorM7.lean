/-
  Texts of this claim, laid one behind the other by a program of mine (install.py): P.Qp5, P.ShelfQ, P.Qp6, P.Qr, P.Tree, P.PlW, P.Qs, P.PlX, P.PlY, P.PlArg, P.Qt.
-/
import Derived.Test.YtbpdfpfgijhokaaGreatDoorM6
import Derived.Shelf.LaysC
import Derived.Shelf.Strconv.AtoiAll
import Derived.Shelf.Strconv.ErrVarAll
import Derived.Shelf.Strconv.ParseIntPublic10
import Derived.Shelf.Strconv.ErrVarParseInt
import Derived.Test.YtbpdfpfgijhokaaGreatDoorProg
import Derived.Tactics
import Derived.Tactics2
import Derived.Defers
import Derived.Recover
import Derived.Laws.Pointers
import Derived.Test.YtbpdfpfgijhokaaGreatDoorM4
import Derived.Test.YtbpdfpfgijhokaaGreatDoorM3
namespace Go.Proofs.YtbpdfpfgijhokaaGreatDoor
set_option maxRecDepth 100000
open Go.Dn Go.Proofs
open Go.RowKit (Below)
set_option linter.unusedVariables false
/-! ### plain -/
def blankCh (c : UInt8) : Bool := decide (c.toNat = 32 ∨ c.toNat = 10)
def blankS : ByteArray := ⟨#[32, 10]⟩
def digS : ByteArray := ⟨#[48, 49, 50, 51, 52, 53, 54, 55, 56, 57]⟩
def signS : ByteArray := ⟨#[40, 41, 44, 43, 45, 42, 47, 37, 61, 60]⟩
theorem set_blank (c : UInt8) : decide (Lib.indexByte blankS.data.toList c ≥ 0) = blankCh c := by
  have := byte_all (p := fun c => decide (Lib.indexByte blankS.data.toList c ≥ 0) == blankCh c) (by kernel_rfl) c
  simpa using this
theorem set_let (c : UInt8) : decide (Lib.indexByte lettersS.data.toList c ≥ 0) = isLet c := by
  have := byte_all (p := fun c => decide (Lib.indexByte lettersS.data.toList c ≥ 0) == isLet c) (by kernel_rfl) c
  simpa using this
theorem set_dig (c : UInt8) : decide (Lib.indexByte digS.data.toList c ≥ 0) = isDig c := by
  have := byte_all (p := fun c => decide (Lib.indexByte digS.data.toList c ≥ 0) == isDig c) (by kernel_rfl) c
  simpa using this
theorem set_word (c : UInt8) : decide (Lib.indexByte othersS.data.toList c ≥ 0) = wordCh c := by
  have := byte_all (p := fun c => decide (Lib.indexByte othersS.data.toList c ≥ 0) == wordCh c) (by kernel_rfl) c
  simpa using this
theorem set_sign (c : UInt8) : decide (Lib.indexByte signS.data.toList c ≥ 0) = signCh c := by
  have := byte_all (p := fun c => decide (Lib.indexByte signS.data.toList c ≥ 0) == signCh c) (by kernel_rfl) c
  simpa using this
def firstP : List UInt8 → Int × Nat
  | [] => (0, 0)
  | c :: r => if isLet c then (1, runN wordCh (c :: r)) else if isDig c then (2, runN isDig (c :: r)) else
    if (c :: r).take 2 = [60, 61] then (4, 2) else if signCh c then (4, 1) else (0, 0)
def toksP : Nat → List UInt8 → Nat → Option (List Tk)
  | 0, _, _ => none
  | f + 1, l, at_ =>
    if l.drop (runN blankCh l) = [] then some [(((at_ + runN blankCh l : Nat) : Int), 0, E0)] else
    if ((l.drop (runN blankCh l)).headD 0).toNat = 39 then none else
    if (firstP (l.drop (runN blankCh l))).2 = 0 then none else
    match toksP f ((l.drop (runN blankCh l)).drop (firstP (l.drop (runN blankCh l))).2) (at_ + runN blankCh l + (firstP (l.drop (runN blankCh l))).2) with
    | none => none
    | some T => some ((((at_ + runN blankCh l : Nat) : Int), (firstP (l.drop (runN blankCh l))).1, sof ((l.drop (runN blankCh l)).take (firstP (l.drop (runN blankCh l))).2)) :: T)
theorem firstP_le (l : List UInt8) : (firstP l).2 ≤ l.length := by
  cases l with
  | nil => simp [firstP]
  | cons c r =>
    have h1 := runN_le wordCh (c :: r)
    have h2 := runN_le isDig (c :: r)
    simp only [firstP]
    split
    · exact h1
    · split
      · exact h2
      · split
        · rename_i h
          have := congrArg List.length h
          simp only [List.length_take, List.length_cons, List.length_nil] at this
          simp only [List.length_cons]
          omega
        · split <;> simp
section
variable {w : World} {s : ByteArray}
theorem pspan_ok {am : ByteArray} {p : UInt8 → Bool} (hp : ∀ c, decide (Lib.indexByte am.data.toList c ≥ 0) = p c) (hs : s.size ≤ 9223372036854775800) : Calls Tryz.prog f.query_span #[.string s, .string am] w (Ret fun r w' => r = .int .i64 ((runN p (bl s) : Nat) : Int) ∧ w' = w) := by
  apply R.query_span_calls
  unfold R.query_span
  have hbl := bl_length s
  refine forUp s.size (fun j w' => (∀ c ∈ (bl s).take j, p c = true) ∧ w' = w) (by omega) ⟨by simp, rfl⟩ fun I M j w1 hj h next => ?_
  obtain ⟨hall, rfl⟩ := h
  refine IFB_dec (fun hlt => ⟨⟨by omega, hlt⟩, (Tryz.strings_IndexByte am ((sget s ((j : Int).toNat)).toNat : Int) w1).mono ?_⟩) (fun hge => ⟨?_, rfl⟩)
  · have hjl : j < (bl s).length := by omega
    rintro _ w2 ⟨rfl, rfl⟩
    refine ⟨_, rfl, ?_⟩
    have e : ((sget s ((j : Int).toNat)).toNat : Int).toNat.toUInt8 = sget s j := by simp
    rw [e, hp, sget_at (by omega)]
    refine IFB_of (fun h3 => next _ (by omega) ⟨all_snoc hjl hall h3, rfl⟩) (fun h3 => ⟨?_, rfl⟩)
    rw [runN_at (by omega) hall fun _ => h3]
  · rw [runN_at (n := j) (by omega) hall fun h => by omega]
theorem phas_ok (p : ByteArray) (hp : p.size ≤ s.size ∨ s.size < p.size) : Calls Tryz.prog f.strings_HasPrefix #[.string s, .string p] w (Ret fun r w' => r = .bool (decide (p.size ≤ s.size) && decide (s.extract 0 p.size = p)) ∧ w' = w) := by
  apply R.strings_HasPrefix_calls
  unfold R.strings_HasPrefix
  have hh : Calls Tryz.prog f.in_stringslite_HasPrefix #[.string s, .string p] w (Ret fun r w' => r = .bool (decide (p.size ≤ s.size) && decide (s.extract 0 p.size = p)) ∧ w' = w) := by
    apply R.in_stringslite_HasPrefix_calls
    unfold R.in_stringslite_HasPrefix
    refine IFB_dec (fun h => ⟨⟨by omega, by omega, by omega⟩, ?_, rfl⟩) (fun h => ⟨?_, rfl⟩)
    · rw [decide_eq_true (by omega), Bool.true_and, bytesEq_iff]
    · rw [decide_eq_false (by omega), Bool.false_and]
  exact call0 hh ⟨_, rfl, rfl, rfl⟩
theorem pfirst_ok (h0 : 0 < s.size) (hq : (sget s 0).toNat ≠ 39) (hs : s.size ≤ 9223372036854775800) : Calls Tryz.prog f.query_first #[.string s] w (Ret fun r w' => r = .tuple #[.int .i64 (firstP (bl s)).1, .int .i64 (((firstP (bl s)).2 : Nat) : Int)] ∧ w' = w) := by
  apply R.query_first_calls
  unfold R.query_first
  obtain ⟨c, r, hcr⟩ : ∃ c r, bl s = c :: r := by
    cases h : bl s with
    | nil => have := bl_length s; rw [h] at this; simp at this; omega
    | cons c r => exact ⟨c, r, rfl⟩
  have hlen : s.size = r.length + 1 := by rw [← bl_length, hcr]; simp
  have g0 : sget s 0 = c := by rw [sget_eq, hcr]; rfl
  have e : ((sget s 0).toNat : Int).toNat.toUInt8 = c := by rw [g0]; simp
  rw [g0] at hq
  refine ⟨⟨by omega, by omega⟩, (Tryz.strings_IndexByte lettersS ((sget s 0).toNat : Int) w).mono ?_⟩
  rintro _ w1 ⟨rfl, rfl⟩
  refine ⟨_, rfl, ?_⟩
  rw [e, set_let]
  unfold firstP
  rw [hcr]
  refine IFB_of (fun h1 => call0 (pspan_ok set_word hs) ⟨_, rfl, ?_, rfl⟩) (fun h1 => (Tryz.strings_IndexByte digS ((sget s 0).toNat : Int) w1).mono ?_)
  · simp only [h1, if_true, hcr]
  rintro _ w3 ⟨rfl, rfl⟩
  refine ⟨_, rfl, ?_⟩
  rw [e, set_dig]
  refine IFB_of (fun h2 => call0 (pspan_ok set_dig hs) ⟨_, rfl, ?_, rfl⟩) (fun h2 => IFB_eq (fun h => absurd h (by rw [g0]; omega)) (fun _ => call0 (phas_ok _ (by omega)) ⟨_, rfl, ?_⟩))
  · simp only [h1, h2, if_true, hcr, Bool.false_eq_true, if_false]
  have hx : (decide ((⟨#[60, 61]⟩ : ByteArray).size ≤ s.size) && decide (s.extract 0 (⟨#[60, 61]⟩ : ByteArray).size = ⟨#[60, 61]⟩)) = decide ((c :: r).take 2 = [60, 61]) := by
    rw [Bool.eq_iff_iff, Bool.and_eq_true, decide_eq_true_eq, decide_eq_true_eq, decide_eq_true_eq, extract_eq, hcr]
    show (2 ≤ s.size ∧ sof (((c :: r).drop 0).take (2 - 0)) = ⟨#[60, 61]⟩) ↔ _
    rw [List.drop_zero, Nat.sub_zero]
    constructor
    · rintro ⟨_, h⟩
      have := congrArg bl h
      rw [bl_sof] at this
      exact this
    · intro h
      refine ⟨?_, by rw [h]; rfl⟩
      have := congrArg List.length h
      simp only [List.length_take, List.length_cons, List.length_nil] at this
      omega
  rw [hx]
  refine IFB_dec (fun h3 => ⟨?_, rfl⟩) (fun h3 => (Tryz.strings_IndexByte signS ((sget s 0).toNat : Int) w3).mono ?_)
  · simp only [h1, h2, h3, Bool.false_eq_true, if_false, if_true]
    rfl
  rintro _ w7 ⟨rfl, rfl⟩
  refine ⟨_, rfl, ?_⟩
  rw [e, set_sign]
  refine IFB_of (fun h4 => ⟨?_, rfl⟩) (fun h4 => ⟨?_, rfl⟩)
  · simp only [h1, h2, h3, h4, Bool.false_eq_true, if_false, if_true]
    rfl
  · simp only [h1, h2, h3, h4, Bool.false_eq_true, if_false]
    rfl
theorem ptokens_ok : Calls Tryz.prog f.query_tokens #[.string s] w (Ret fun v w' => ∃ b, v = .func (.func f.query_tokens_c1) #[] #[.pointer (some ⟨b, 0, none⟩)] ∧ ST w w' [It.cells b #[.string s] ty.string]) := by
  apply R.query_tokens_calls
  unfold R.query_tokens
  exact (ST.start w).newB fun b1 w1 _ _ S1 => ⟨b1, rfl, S1⟩
end
theorem ptokens_c1 {w0 w : World} {s : ByteArray} {T : List Tk} {f0 L b : Nat} {I : List Tk → List It → Prop} {J : List It → Prop} (hT : toksP f0 (bl s) 0 = some T) (hs : s.size ≤ 9223372036854775800) (hy : Yld w0 L T (fun t vs => vs = [tkV t]) I J) {HN B : List It} (hI : I [] B) (S : ST w0 w (It.cells b #[.string s] ty.string :: (HN ++ B))) :
    Calls Tryz.prog f.query_tokens_c1 #[.func (.yield L) #[] #[], .pointer (some ⟨b, 0, none⟩)] w (Ret fun _ w' => ∃ B', ST w0 w' (HN ++ B') ∧ (I T B' ∨ J B')) := by
  apply R.query_tokens_c1_calls
  unfold R.query_tokens_c1
  have hbl := bl_length s
  refine ⟨fun st w => ∃ (n k : Nat) (D rest : List Tk) (B' : List It), st = [.int .i64 (n : Int)] ∧ n ≤ s.size ∧ toksP k ((bl s).drop n) n = some rest ∧ T = D ++ rest ∧ I D B' ∧ ST w0 w (It.cells b #[.string s] ty.string :: (HN ++ B')), fun st _ => match st with | [.int _ t] => s.size - t.toNat | _ => 0, ⟨0, f0, [], T, B, rfl, by omega, hT, rfl, hI, S⟩, ?_⟩
  rintro at_ w1 ⟨n, k, D, rest, B1, hst, hn, hk, hTD, hI1, S1⟩
  cases hst
  cases k with
  | zero => cases hk
  | succ k =>
  obtain ⟨l, hl⟩ : ∃ l, l = (bl s).drop n := ⟨_, rfl⟩
  have hll : l.length = s.size - n := by rw [hl, List.length_drop]; omega
  have hle := runN_le blankCh l
  obtain ⟨m, hm⟩ : ∃ m, m = runN blankCh l := ⟨_, rfl⟩
  rw [← hl, toksP, ← hm] at hk
  rw [← hm] at hle
  refine ⟨_, S1.cell 0 rfl rfl, ⟨by omega, by omega, by omega⟩, ?_⟩
  have hse : (s.extract n s.size).size = s.size - n := by rw [← bl_length, bl_extract]; simp [bl_length]
  have hbe : bl (s.extract n s.size) = l := by rw [bl_extract, ← hl, List.take_of_length_le (by omega)]
  rw [Int.toNat_natCast]
  refine call0 (pspan_ok (s := s.extract n s.size) (am := ⟨#[32, 10]⟩) set_blank (by omega)) ⟨_, rfl, _, S1.cell 0 rfl rfl, ?_⟩
  rw [hbe, ← hm]
  have ew : IntKind.i64.wrap ((n : Int) + (m : Int)) = ((n + m : Nat) : Int) := by rw [wrap_i64 (by omega) (by omega)]; omega
  rw [ew]
  have hyl : ∀ {x : Tk} {rest' : List Tk} {w2 : World}, rest = x :: rest' → ST w0 w2 (It.cells b #[.string s] ty.string :: (HN ++ B1)) → YLD Tryz.prog L #[tkV x] (fun y w' => ∃ B', ST w0 w' (It.cells b #[.string s] ty.string :: (HN ++ B')) ∧ ((y = true ∧ I (D ++ [x]) B') ∨ (y = false ∧ J B'))) w2 := fun hr S2 => hy D _ _ [tkV _] (It.cells b #[.string s] ty.string :: HN) B1 _ (by rw [hTD, hr]) hI1 S2 rfl
  refine IFB_eq (fun he => ?_) (fun hne => ?_)
  · have hnil : l.drop m = [] := List.drop_eq_nil_of_le (by omega)
    rw [if_pos hnil] at hk
    have hr := (Option.some.inj hk).symm
    refine (hyl hr S1).mono ?_
    rintro y w3 ⟨B', S3, ⟨_, hI3⟩ | ⟨_, hJ⟩⟩
    · exact ⟨B', S3.drop 1, .inl (by rw [hTD, hr]; exact hI3)⟩
    · exact ⟨B', S3.drop 1, .inr hJ⟩
  · have hml : m < l.length := by omega
    have hnn : l.drop m ≠ [] := fun h => by have := congrArg List.length h; simp only [List.length_drop, List.length_nil] at this; omega
    rw [if_neg hnn] at hk
    split at hk
    · cases hk
    rename_i hq
    split at hk
    · cases hk
    rename_i hf0
    obtain ⟨q, hqq⟩ : ∃ q, q = firstP (l.drop m) := ⟨_, rfl⟩
    rw [← hqq] at hk hf0
    have hql : q.2 ≤ s.size - (n + m) := by
      have := firstP_le (l.drop m)
      rw [← hqq, List.length_drop] at this
      omega
    have hdd : l.drop m = (bl s).drop (n + m) := by rw [hl, List.drop_drop]
    have hse2 : (s.extract (n + m) s.size).size = s.size - (n + m) := by rw [← bl_length, bl_extract]; simp [bl_length]
    have hbe2 : bl (s.extract (n + m) s.size) = l.drop m := by rw [bl_extract, ← hdd, List.take_of_length_le (by rw [List.length_drop]; omega)]
    refine ⟨_, S1.cell 0 rfl rfl, ⟨by omega, by omega, by omega⟩, ?_⟩
    rw [Int.toNat_natCast]
    have hh : sget (s.extract (n + m) s.size) 0 = (l.drop m).headD 0 := by
      rw [sget_eq, hbe2]
      all_goals (cases l.drop m <;> rfl)
    refine call0 (pfirst_ok (s := s.extract (n + m) s.size) (by omega) (by rw [hh]; exact hq) (by omega)) ⟨_, _, rfl, _, S1.cell 0 rfl rfl, ?_⟩
    rw [hbe2, ← hqq]
    have ew2 : IntKind.i64.wrap (((n + m : Nat) : Int) + (q.2 : Int)) = ((n + m + q.2 : Nat) : Int) := by rw [wrap_i64 (by omega) (by omega)]; omega
    rw [ew2, Int.toNat_natCast]
    refine ⟨⟨by omega, by omega, by omega⟩, ?_⟩
    have hex : s.extract (n + m) (n + m + q.2) = sof ((l.drop m).take q.2) := by rw [extract_eq, hdd, Nat.add_sub_cancel_left]
    rw [hex]
    split at hk
    · cases hk
    rename_i T' hT'
    have hr := (Option.some.inj hk).symm
    refine (hyl hr S1).mono ?_
    rintro y w5 ⟨B', S5, ⟨rfl, hI5⟩ | ⟨rfl, hJ⟩⟩
    · refine IFB_not (IFB_true (IFB_eq (fun h => absurd h (by omega)) (fun _ => ⟨⟨n + m + q.2, k, D ++ [_], T', B', rfl, by omega, ?_, by rw [hTD, hr]; simp, hI5, S5⟩, by simp only [Int.toNat_natCast]; omega⟩)))
      rw [hdd, List.drop_drop] at hT'
      exact hT'
    · exact IFB_not (IFB_false ⟨B', S5.drop 1, .inr hJ⟩)
end Go.Proofs.YtbpdfpfgijhokaaGreatDoor
namespace Go.Proofs
set_option linter.unusedVariables false
set_option maxRecDepth 100000
open Go.Shelf
def Tryz.laysC174_ren : Go.Shelf.Ren := ⟨fun | 174 => 274 | 247 => 256 | 245 => 241 | 287 => 268 | 279 => 257 | 280 => 258 | 281 => 259 | 282 => 260 | 321 => 275 | 322 => 276 | 316 => 269 | 171 => 56 | 205 => 270 | 243 => 90 | 246 => 148 | 283 => 207 | 284 => 208 | 285 => 209 | 286 => 210 | 129 => 134 | 317 => 235 | 318 => 236 | 319 => 237 | 320 => 238 | 337 => 252 | 338 => 253 | n => n, fun | 9 => 9 | 3 => 3 | 2 => 2 | 75 => 189 | 85 => 256 | 4 => 4 | 167 => 255 | 5 => 5 | 53 => 174 | 175 => 268 | 46 => 126 | 168 => 258 | 37 => 184 | 0 => 0 | 210 => 271 | 21 => 21 | 127 => 227 | 145 => 280 | 143 => 278 | 171 => 228 | 173 => 230 | 212 => 248 | 51 => 172 | 20 => 20 | 213 => 249 | 232 => 266 | 233 => 267 | 80 => 149 | n => n, fun | 15 => 9 | 16 => 10 | 17 => 3 | 18 => 7 | 19 => 8 | n => n⟩
theorem Tryz.laysC174 : Go.Proofs.LaysC.n174 Tryz.prog Tryz.laysC174_ren := {
  mixed := by kernel_rfl
  f129 := Tryz.func134.trans (congrArg some (by kernel_rfl))
  f171 := Tryz.func56.trans (congrArg some (by kernel_rfl))
  f174 := Tryz.func274.trans (congrArg some (by kernel_rfl))
  f205 := Tryz.func270.trans (congrArg some (by kernel_rfl))
  f243 := Tryz.func90.trans (congrArg some (by kernel_rfl))
  f245 := Tryz.func241.trans (congrArg some (by kernel_rfl))
  f246 := Tryz.func148.trans (congrArg some (by kernel_rfl))
  f247 := Tryz.func256.trans (congrArg some (by kernel_rfl))
  f279 := Tryz.func257.trans (congrArg some (by kernel_rfl))
  f280 := Tryz.func258.trans (congrArg some (by kernel_rfl))
  f281 := Tryz.func259.trans (congrArg some (by kernel_rfl))
  f282 := Tryz.func260.trans (congrArg some (by kernel_rfl))
  f283 := Tryz.func207.trans (congrArg some (by kernel_rfl))
  f284 := Tryz.func208.trans (congrArg some (by kernel_rfl))
  f285 := Tryz.func209.trans (congrArg some (by kernel_rfl))
  f286 := Tryz.func210.trans (congrArg some (by kernel_rfl))
  f287 := Tryz.func268.trans (congrArg some (by kernel_rfl))
  f316 := Tryz.func269.trans (congrArg some (by kernel_rfl))
  f317 := Tryz.func235.trans (congrArg some (by kernel_rfl))
  f318 := Tryz.func236.trans (congrArg some (by kernel_rfl))
  f319 := Tryz.func237.trans (congrArg some (by kernel_rfl))
  f320 := Tryz.func238.trans (congrArg some (by kernel_rfl))
  f321 := Tryz.func275.trans (congrArg some (by kernel_rfl))
  f322 := Tryz.func276.trans (congrArg some (by kernel_rfl))
  f337 := Tryz.func252.trans (congrArg some (by kernel_rfl))
  f338 := Tryz.func253.trans (congrArg some (by kernel_rfl))
  t0 := Tryz.underlying0
  a0 := Tryz.isAgg0
  z0 := Tryz.sizeOf0
  v0 := Tryz.zeroValue0
  t2 := Tryz.underlying2
  a2 := Tryz.isAgg2
  z2 := Tryz.sizeOf2
  v2 := Tryz.zeroValue2
  t3 := Tryz.underlying3
  a3 := Tryz.isAgg3
  z3 := Tryz.sizeOf3
  v3 := Tryz.zeroValue3
  t4 := Tryz.underlying4
  a4 := Tryz.isAgg4
  z4 := Tryz.sizeOf4
  v4 := Tryz.zeroValue4
  t5 := Tryz.underlying5
  a5 := Tryz.isAgg5
  z5 := Tryz.sizeOf5
  v5 := Tryz.zeroValue5
  t9 := Tryz.underlying9
  a9 := Tryz.isAgg9
  z9 := Tryz.sizeOf9
  v9 := Tryz.zeroValue9
  t20 := Tryz.underlying20
  a20 := Tryz.isAgg20
  z20 := Tryz.sizeOf20
  v20 := Tryz.zeroValue20
  t21 := Tryz.underlying21
  a21 := Tryz.isAgg21
  z21 := Tryz.sizeOf21
  v21 := Tryz.zeroValue21
  t37 := Tryz.underlying184
  a37 := Tryz.isAgg184
  z37 := Tryz.sizeOf184
  v37 := Tryz.zeroValue184
  t46 := Tryz.underlying126
  a46 := Tryz.isAgg126
  z46 := Tryz.sizeOf126
  v46 := Tryz.zeroValue126
  t51 := Tryz.underlying172
  a51 := Tryz.isAgg172
  z51 := Tryz.sizeOf172
  v51 := Tryz.zeroValue172
  t53 := Tryz.underlying174
  a53 := Tryz.isAgg174
  z53 := Tryz.sizeOf174
  v53 := Tryz.zeroValue174
  t75 := Tryz.underlying189
  a75 := Tryz.isAgg189
  z75 := Tryz.sizeOf189
  v75 := Tryz.zeroValue189
  t85 := Tryz.underlying256
  a85 := Tryz.isAgg256
  z85 := Tryz.sizeOf256
  v85 := Tryz.zeroValue256
  t127 := Tryz.underlying227
  a127 := Tryz.isAgg227
  z127 := Tryz.sizeOf227
  v127 := Tryz.zeroValue227
  t143 := Tryz.underlying278
  a143 := Tryz.isAgg278
  z143 := Tryz.sizeOf278
  v143 := Tryz.zeroValue278
  t145 := Tryz.underlying280
  a145 := Tryz.isAgg280
  z145 := Tryz.sizeOf280
  v145 := Tryz.zeroValue280
  t167 := Tryz.underlying255
  a167 := Tryz.isAgg255
  z167 := Tryz.sizeOf255
  v167 := Tryz.zeroValue255
  t168 := Tryz.underlying258
  a168 := Tryz.isAgg258
  z168 := Tryz.sizeOf258
  v168 := Tryz.zeroValue258
  t171 := Tryz.underlying228
  a171 := Tryz.isAgg228
  z171 := Tryz.sizeOf228
  v171 := Tryz.zeroValue228
  t173 := Tryz.underlying230
  a173 := Tryz.isAgg230
  z173 := Tryz.sizeOf230
  v173 := Tryz.zeroValue230
  t175 := Tryz.underlying268
  a175 := Tryz.isAgg268
  z175 := Tryz.sizeOf268
  v175 := Tryz.zeroValue268
  t210 := Tryz.underlying271
  a210 := Tryz.isAgg271
  z210 := Tryz.sizeOf271
  v210 := Tryz.zeroValue271
  t212 := Tryz.underlying248
  a212 := Tryz.isAgg248
  z212 := Tryz.sizeOf248
  v212 := Tryz.zeroValue248
  t213 := Tryz.underlying249
  a213 := Tryz.isAgg249
  z213 := Tryz.sizeOf249
  t232 := Tryz.underlying266
  a232 := Tryz.isAgg266
  z232 := Tryz.sizeOf266
  v232 := Tryz.zeroValue266
  t233 := Tryz.underlying267
  a233 := Tryz.isAgg267
  z233 := Tryz.sizeOf267
  v233 := Tryz.zeroValue267
  g15 := by kernel_rfl
  g16 := by kernel_rfl
  g17 := by kernel_rfl
  g18 := by kernel_rfl
  g19 := by kernel_rfl
  t80 := Tryz.underlying149
  a80 := Tryz.isAgg149
  z80 := Tryz.sizeOf149
  v80 := Tryz.zeroValue149
  i0 := by kernel_rfl
  i2 := by kernel_rfl
  i3 := by kernel_rfl
  i4 := by kernel_rfl
  i5 := by kernel_rfl
  i9 := by kernel_rfl
  i20 := by kernel_rfl
  i21 := by kernel_rfl
  i37 := by kernel_rfl
  i46 := by kernel_rfl
  i51 := by kernel_rfl
  i53 := by kernel_rfl
  i75 := by kernel_rfl
  i80 := by kernel_rfl
  i85 := by kernel_rfl
  i127 := by kernel_rfl
  i143 := by kernel_rfl
  i145 := by kernel_rfl
  i167 := by kernel_rfl
  i168 := by kernel_rfl
  i171 := by kernel_rfl
  i173 := by kernel_rfl
  i175 := by kernel_rfl
  i210 := by kernel_rfl
  i212 := by kernel_rfl
  i232 := by kernel_rfl
  i233 := by kernel_rfl
  m15 := by kernel_rfl
  m16 := by kernel_rfl
  m17 := by kernel_rfl
  m18 := by kernel_rfl
  m19 := by kernel_rfl
  c0 := by kernel_rfl
  c2 := by kernel_rfl
  c3 := by kernel_rfl
  c4 := by kernel_rfl
  c5 := by kernel_rfl
  c9 := by kernel_rfl
  c20 := by kernel_rfl
  c21 := by kernel_rfl
  c37 := by kernel_rfl
  c46 := by kernel_rfl
  c51 := by kernel_rfl
  c53 := by kernel_rfl
  c75 := by kernel_rfl
  c80 := by kernel_rfl
  c85 := by kernel_rfl
  c127 := by kernel_rfl
  c143 := by kernel_rfl
  c145 := by kernel_rfl
  c167 := by kernel_rfl
  c168 := by kernel_rfl
  c171 := by kernel_rfl
  c173 := by kernel_rfl
  c175 := by kernel_rfl
  c210 := by kernel_rfl
  c212 := by kernel_rfl
  c213 := by kernel_rfl
  c232 := by kernel_rfl
  c233 := by kernel_rfl }
open Go.RowKit in
theorem Tryz.strconv_ParseInt_10_at64_ok (s : ByteArray) (hmax : s.size ≤ 9223372036854775806) (v : Int) (h : Lib.parseIntB 64 s.data.toList = .ok v) (w : World) :
    Calls Tryz.prog 274 #[.string s, .int .i64 10, .int .i64 64] w fun e w' => e = .returned (.tuple #[.int .i64 v, .nilIface]) ∧ (w' = w ∨ ∃ t, w' = Lib.bytesWorld w 5 t) := Any.strconv_ParseInt_10_at64_ok Tryz.laysC174 s hmax v h w
end Go.Proofs
namespace Go.Proofs.YtbpdfpfgijhokaaGreatDoor
set_option maxRecDepth 100000
open Go.Dn Go.Proofs
open Go.RowKit (Below)
set_option linter.unusedVariables false
def oneS : ByteArray := ⟨#[49]⟩
theorem below_bytesWorld (w : World) (e : TypeId) (t : ByteArray) : Below w.heap.size w (Lib.bytesWorld w e t) := by
  unfold Lib.bytesWorld
  have h1 : Keeps (fun k => k = w.heap.size) w (w.drew.alloc (.cells (Lib.bytesCells w e t) e)) := (Keeps.refl _ w).drew.alloc _
  have h2 := freeze_keeps (fun k => k = w.heap.size) (w.drew.alloc (.cells (Lib.bytesCells w e t) e)) ⟨w.heap.size, (Lib.bytesCells w e t).size, none⟩ 1 rfl
  exact (h1.trans h2 (fun _ _ h => h)).below (Nat.le_refl _) (fun k hk he => by omega)
theorem iface_nil {k : Bool → Prop} (h : k true) : IFACEV .nilIface k := h
section
variable {w : World}
theorem ptrimB_one : Calls Tryz.prog f.strings_trimLeftByte #[.string oneS, .int .u8 48] w (Ret fun r w' => r = .string oneS ∧ w' = w) := by
  apply R.strings_trimLeftByte_calls
  unfold R.strings_trimLeftByte
  refine ⟨fun st w' => st = [.string oneS] ∧ w' = w, fun _ _ => 0, ⟨rfl, rfl⟩, ?_⟩
  rintro s w1 ⟨hst, rfl⟩
  cases hst
  exact IFB_dec (fun _ => ⟨⟨by decide, by decide⟩, IFB_eq (fun h => absurd h (by decide)) (fun _ => ⟨rfl, rfl⟩)⟩) (fun h => absurd (by decide) h)
theorem ptrim_one : Calls Tryz.prog f.strings_TrimLeft #[.string oneS, .string ⟨#[48]⟩] w (Ret fun r w' => r = .string oneS ∧ w' = w) := by
  apply R.strings_TrimLeft_calls
  unfold R.strings_TrimLeft
  exact IFB_no (by rw [bytesEq_iff]; decide) (IFB_no (by rw [bytesEq_iff]; decide) ⟨fun _ _ => False, IFB_eq (fun _ => ⟨⟨by decide, by decide⟩, IFB_dec (fun _ => ⟨⟨by decide, by decide⟩, call0 ptrimB_one ⟨_, rfl, rfl, rfl⟩⟩) (fun h => absurd (by decide) h)⟩) (fun h => absurd (by decide) h), fun _ h => h.elim⟩)
theorem pplain_one : Calls Tryz.prog f.query_plain #[.string kOne.2.2] w (Ret fun r w' => r = .string kOne.2.2 ∧ Below w.heap.size w w') := by
  apply R.query_plain_calls
  unfold R.query_plain
  exact call0 ptrim_one ⟨_, rfl, IFB_not (IFB_no (by rw [bytesEq_iff]; decide) ⟨rfl, .refl _ _⟩)⟩
theorem pvalue_one (E : Env w) : Calls Tryz.prog f.value_Parse #[.string oneS] w (Ret fun r w' => r = .tuple #[.agg #[.int .i64 1, .int .i64 1, .string E0], .int .i64 0] ∧ Below w.heap.size w w') := by
  apply R.value_Parse_calls
  unfold R.value_Parse
  refine (ST.start w).newB fun b2 w1 _ _ S1 => IFB_no (by rw [bytesEq_iff]; decide) (IFB_no (by rw [bytesEq_iff]; decide) (IFB_no (by rw [bytesEq_iff]; decide) (S1.lit3 fun b12 w14 _ S14 => ⟨fun st w' => st = [.bool false] ∧ ST w w' [It.cells b12 #[.int .i64 1, .int .i64 0, .string E0] ty.api_Value, It.cells b2 #[.int .i64 0, .int .i64 0, .string E0] ty.api_Value], IFB_dec (fun h => absurd h (by decide)) (fun _ => ⟨rfl, S14⟩), ?_⟩)))
  rintro _ w15 ⟨hst, S15⟩
  cases hst
  refine IFB_false ((Tryz.strconv_ParseInt_10_at64_ok oneS (by decide) 1 (by kernel_rfl) w15).mono ?_)
  rintro _ w30 ⟨rfl, hw⟩
  have B30 : Below w15.heap.size w15 w30 := by
    rcases hw with rfl | ⟨tt, rfl⟩
    · exact .refl _ _
    · exact below_bytesWorld _ _ _
  have S30 := S15.grown B30
  refine ⟨_, _, rfl, iface_nil (IFB_false ((Tryz.strconv_FormatInt_10 1 (by decide) (by decide) w30 (E.grown S30.bel).pow).mono ?_))⟩
  rintro _ w34 ⟨rfl, k, os, rfl⟩
  have S34 := S30.grown (below_grow w30 k os)
  refine ⟨_, rfl, IFB_not (IFB_yes (by kernel_rfl) (S34.sto 0 rfl (cs' := #[.int .i64 1, .int .i64 1, .string E0]) (by simp) rfl fun w38 S38 => ⟨_, S38.cell 0 rfl rfl, _, S38.cell 0 rfl rfl, _, S38.cell 0 rfl rfl, S38.sto3 1 rfl fun w41 S41 => ⟨_, S41.cell 1 rfl rfl, _, S41.cell 1 rfl rfl, _, S41.cell 1 rfl rfl, rfl, S41.bel⟩⟩))⟩
theorem pconst_one (E : Env w) : Calls Tryz.prog f.query_constant #[.string kOne.2.2] w (Ret fun r w' => r = .agg ⟨exHead (numX 1) none 0⟩ ∧ Below w.heap.size w w') := by
  apply R.query_constant_calls
  unfold R.query_constant
  refine (ST.start w).newB fun b2 w1 _ _ S1 => S1.call (pvalue_one (E.grown S1.bel)) fun w2 _ S2 => ⟨_, _, _, _, rfl, S2.lit3 fun b8 w6 _ S6 => IFB_ne (fun h => absurd rfl h) (fun _ => ⟨_, S6.cell 0 rfl rfl, _, S6.cell 0 rfl rfl, _, S6.cell 0 rfl rfl, stEx S6 1 rfl fun w19 S19 => ⟨rfl, S19.bel⟩⟩)⟩
end
theorem read_idle (p q r : Addr) (w : World) :
    CallsD Tryz.prog 99 #[.pointer (some p), .pointer (some q), .pointer (some r)] .returning w fun e u' w' => e = .returned (.tuple #[]) ∧ u' = .returning ∧ w' = w := by
  refine callsD_of_wpS Tryz.func99 rfl fun c₀ cs hu => ?_
  apply wpS_seq
  apply wpS_region
  simp [wpOpsS, go_sem, recoverD, hu, Tryz.ntmps99, Exit.thenS]
  refine wpS_of_wp ?_
  go_wp2
  cases c₀
  simp_all [bodyPostS, results, Tryz.results99]
theorem pread_ok {w0 w : World} {H : List It} (E : Env w0) {x : Option Addr} {c : Nat} (S : ST w0 w (It.rd x (tksL T1) :: H)) (hc : T1.length ≤ c) (hc2 : c ≤ 9223372036854775807) : Calls Tryz.prog 60 #[.slice x T1.length c] w (Ret fun v w' => ∃ a cap K a1 c1 ag cg ao co, mulR a cap K ∧ v = .tuple #[.agg ⟨quL Q1 a1 none ag ao c1 0 cg co⟩, .int .i64 0, .bool true] ∧ ST w0 w' (QL a cap K a1 c1 ag cg ao co ++ H)) := by
  have hmf : ∀ (fn : Fn) (first cap : Array Value) (w : World), (Instr.makeFunc fn first cap).run Tryz.prog w = .ok (.func fn first cap) w := fun _ _ _ _ => rfl
  have key : NEWB #[.slice none 0 0, .slice none 0 0, .slice none 0 0, .slice none 0 0, .int .i64 0] ty.api_Query (fun b1 w1 => NEWB #[.int .i64 0] ty.int (fun b2 w2 => NEWB #[.bool false] ty.bool (fun b3 w3 => NEWB #[.slice x T1.length c] ty.query_parser (fun b4 w4 => ST w0 w4 [It.cells b4 #[.slice x T1.length c] ty.query_parser, It.cells b3 #[.bool false] ty.bool, It.cells b2 #[.int .i64 0] ty.int, zqb b1] ∧ ST w0 w4 (It.cells b4 #[.slice x T1.length c] ty.query_parser :: It.cells b3 #[.bool false] ty.bool :: It.cells b2 #[.int .i64 0] ty.int :: zqb b1 :: It.rd x (tksL T1) :: H)) w3) w2) w1) w :=
    S.newB fun b1 w1 _ _ S1 => S1.newB fun b2 w2 _ _ S2 => S2.newB fun b3 w3 _ _ S3 => S3.newB fun b4 w4 _ _ S4 => ⟨S4.sub (.cons_cons _ (.cons_cons _ (.cons_cons _ (.cons_cons _ (List.nil_sublist _))))), S4⟩
  unfold NEWB at key
  simp only [World.size_alloc] at key
  obtain ⟨_, S4⟩ := key
  have P4 : PS w0 _ _ T1 _ := ⟨x, c, hc, hc2, S4.pull 4 rfl |>.pull 1 rfl⟩
  generalize hn : T1.length = n at *
  go_enter_defers Tryz.func60, Tryz.ntmps60
  go_wp2_with (fail)
  refine (pquery_ok pplain_one pconst_one E P4).mono ?_
  rintro _ w5 ⟨_, rfl, a, cap, K, a1, c1, ag, cg, ao, co, hR, rfl, P5⟩
  have st1 : STOREC (quL Q1 a1 none ag ao c1 0 cg co) ⟨w.heap.size, 0, none⟩ 0 (fun w6 => PS w0 w6 (w.heap.size + 1 + 1 + 1) [kEnd] (It.cells w.heap.size ⟨quL Q1 a1 none ag ao c1 0 cg co⟩ ty.api_Query :: It.cells (w.heap.size + 1) #[.int .i64 0] ty.int :: It.cells (w.heap.size + 1 + 1) #[.bool false] ty.bool :: (QL a cap K a1 c1 ag cg ao co ++ H))) w5 := by
    have P6 := (PS.front [It.cells (w.heap.size + 1 + 1) #[.bool false] ty.bool, It.cells (w.heap.size + 1) #[.int .i64 0] ty.int, zqb w.heap.size] P5)
    exact PS.sto5 ((P6.perm (List.Perm.swap _ _ _)).perm ((List.Perm.cons _ (List.Perm.swap _ _ _)).trans (List.Perm.swap _ _ _))) 0 rfl fun w6 S6 => S6.perm (List.Perm.cons _ (List.Perm.refl _))
  obtain ⟨w6, S6, hr6⟩ := STOREC_run (P := Tryz.prog) _ _ _ _ _ st1
  obtain ⟨_, z2, S7⟩ := S6.sto 1 rfl (i := 0) (v := .int .i64 0) (cs' := #[.int .i64 0]) (by simp) rfl fun w7 S7 => S7
  have c2 := S6.cell 1 rfl (i := 0) rfl
  obtain ⟨_, z3, S8⟩ := S7.sto 2 rfl (i := 0) (v := .bool true) (cs' := #[.bool true]) (by simp) rfl fun w8 S8 => S8
  have c3 := S7.cell 2 rfl (i := 0) rfl
  go_wp2_with (fail)
  generalize (w6.setCell ⟨w.heap.size + 1, 0, none⟩ (.int .i64 0)).setCell ⟨w.heap.size + 1 + 1, 0, none⟩ (.bool true) = w8 at S8 ⊢
  have d0 : w8.cell? ⟨w.heap.size, 0, none⟩ = some (.slice a1 1 c1) := S8.cell 0 rfl rfl
  have d1 : w8.cell? ⟨w.heap.size, 1, none⟩ = some (.slice none 0 0) := S8.cell 0 rfl rfl
  have d2 : w8.cell? ⟨w.heap.size, 2, none⟩ = some (.slice ag 1 cg) := S8.cell 0 rfl rfl
  have d3 : w8.cell? ⟨w.heap.size, 3, none⟩ = some (.slice ao 1 co) := S8.cell 0 rfl rfl
  have d4 : w8.cell? ⟨w.heap.size, 4, none⟩ = some (.int .i64 (-1)) := S8.cell 0 rfl rfl
  have d5 : w8.cell? ⟨w.heap.size + 1, 0, none⟩ = some (.int .i64 0) := S8.cell 1 rfl rfl
  have d6 : w8.cell? ⟨w.heap.size + 1 + 1, 0, none⟩ = some (.bool true) := S8.cell 2 rfl rfl
  have S9 : ST w0 w8 (QL a cap K a1 c1 ag cg ao co ++ H) := by
    obtain ⟨_, _, _, _, S9⟩ := S8.drop 3
    exact S9.drop 2
  refine leaves_cons (f := 99) (args := #[.pointer (some ⟨w.heap.size, 0, none⟩), .pointer (some ⟨w.heap.size + 1, 0, none⟩), .pointer (some ⟨w.heap.size + 1 + 1, 0, none⟩)]) (by simp) (by simp [go_sem]) ?_
  refine (read_idle _ _ _ _).mono ?_
  rintro e u' w'' ⟨rfl, rfl, rfl⟩
  simp [Leaves, settle, results, Tryz.results60, go_sem, d0, d1, d2, d3, d4, d5, d6]
  exact ⟨_, rfl, a, cap, K, hR, a1, c1, ag, cg, ao, co, rfl, S9⟩
section
variable {P : Program} {w : World}
theorem good_fields1 {n : Nat} {t : TypeId} {cs : List Value} {l : List (TypeId × Nat)} (h : Go.Dn.Good P w (n + 1) t cs) (ht : fieldsT P t = some l) :
    cs.length = P.cellsOf t ∧ ∀ x ∈ l, Go.Dn.Good P w n x.1 ((cs.drop x.2).take (P.cellsOf x.1)) := by
  unfold fieldsT at ht
  split at ht
  · rename_i fs hu
    unfold Go.Dn.Good at h
    rw [hu] at h
    cases ht
    refine ⟨h.1, fun x hx => ?_⟩
    obtain ⟨f, hf, rfl⟩ := List.mem_map.1 hx
    exact h.2 f hf
  · cases ht
theorem good_slice1 {n : Nat} {t e : TypeId} {cs : List Value} (h : Go.Dn.Good P w (n + 1) t cs) (ht : P.underlying t = some (.slice e)) : ∃ a len cap, cs = [.slice a len cap] ∧ len ≤ cap ∧ cap ≤ maxLen ∧ (a = none → cap = 0) ∧
    ∃ rows : List (List Value), rows.length = len ∧ Rd w a rows.flatten ∧ ∀ r ∈ rows, r.length = P.cellsOf e ∧ Go.Dn.Good P w n e r := by
  unfold Go.Dn.Good at h
  rw [ht] at h
  exact h
end
theorem wf64 {x : Int} (h : (Lit.int .i64 x).wf = true) : i64 x := by simpa [Lit.wf, IntKind.min, IntKind.max, IntKind.signed, IntKind.bits] using h
theorem cells_intP : Tryz.prog.cellsOf ty.int = 1 := by kernel_rfl
theorem cells_int64P : Tryz.prog.cellsOf ty.int64 = 1 := by kernel_rfl
theorem cells_strP : Tryz.prog.cellsOf ty.string = 1 := by kernel_rfl
theorem cells_boolP : Tryz.prog.cellsOf ty.bool = 1 := by kernel_rfl
theorem cells_valP : Tryz.prog.cellsOf ty.api_Value = 3 := by kernel_rfl
theorem cells_exP : Tryz.prog.cellsOf ty.api_Expr = 6 := by kernel_rfl
theorem cells_LexP : Tryz.prog.cellsOf ty.L_api_Expr = 1 := by kernel_rfl
theorem cells_itP : Tryz.prog.cellsOf ty.api_Item = 8 := by kernel_rfl
theorem cells_LitP : Tryz.prog.cellsOf ty.L_api_Item = 1 := by kernel_rfl
theorem cells_keyP : Tryz.prog.cellsOf ty.api_Key = 2 := by kernel_rfl
theorem cells_LkeyP : Tryz.prog.cellsOf ty.L_api_Key = 1 := by kernel_rfl
theorem cells_quP : Tryz.prog.cellsOf ty.api_Query = 5 := by kernel_rfl
theorem und_intP : Tryz.prog.underlying ty.int = some (.int .i64) := by kernel_rfl
theorem und_int64P : Tryz.prog.underlying ty.int64 = some (.int .i64) := by kernel_rfl
theorem und_strP : Tryz.prog.underlying ty.string = some .string := by kernel_rfl
theorem und_boolP : Tryz.prog.underlying ty.bool = some .bool := by kernel_rfl
theorem und_LexP : Tryz.prog.underlying ty.L_api_Expr = some (.slice ty.api_Expr) := by kernel_rfl
theorem und_LitP : Tryz.prog.underlying ty.L_api_Item = some (.slice ty.api_Item) := by kernel_rfl
theorem und_LkeyP : Tryz.prog.underlying ty.L_api_Key = some (.slice ty.api_Key) := by kernel_rfl
theorem fld_val : fieldsT Tryz.prog ty.api_Value = some [(ty.int, 0), (ty.int64, 1), (ty.string, 2)] := by kernel_rfl
theorem fld_ex : fieldsT Tryz.prog ty.api_Expr = some [(ty.int, 0), (ty.string, 1), (ty.api_Value, 2), (ty.L_api_Expr, 5)] := by kernel_rfl
theorem fld_it : fieldsT Tryz.prog ty.api_Item = some [(ty.string, 0), (ty.int, 1), (ty.api_Expr, 2)] := by kernel_rfl
theorem fld_key : fieldsT Tryz.prog ty.api_Key = some [(ty.int, 0), (ty.bool, 1)] := by kernel_rfl
theorem fld_qu : fieldsT Tryz.prog ty.api_Query = some [(ty.L_api_Item, 0), (ty.L_api_Expr, 1), (ty.L_api_Expr, 2), (ty.L_api_Key, 3), (ty.int, 4)] := by kernel_rfl
section
variable {w : World}
theorem good_val {n : Nat} {cs : List Value} (h : Go.Dn.Good Tryz.prog w n ty.api_Value cs) : ∃ v : Val, cs = [.int .i64 v.1, .int .i64 v.2.1, .string v.2.2] ∧ i64 v.1 ∧ i64 v.2.1 ∧ v.2.2.size ≤ maxLen := by
  obtain ⟨hl, m, hf⟩ := h.fields fld_val
  rw [cells_valP] at hl
  match cs, hl with
  | [v0, v1, v2], _ =>
    simp only [List.mem_cons, List.not_mem_nil, or_false, forall_eq_or_imp, forall_eq, cells_intP, cells_int64P, cells_strP] at hf
    obtain ⟨h0, h1, h2⟩ := hf
    obtain ⟨x0, e0, q0⟩ := h0.int und_intP
    obtain ⟨x1, e1, q1⟩ := h1.int und_int64P
    obtain ⟨x2, e2, q2⟩ := h2.str und_strP
    simp only [List.drop_zero, List.take_succ_cons, List.take_zero, List.drop_succ_cons, List.cons.injEq, and_true] at e0 e1 e2
    exact ⟨(x0, x1, x2), by rw [e0, e1, e2], wf64 q0, wf64 q1, q2⟩
theorem rows_all {α : Type} {C : α → List Value → Prop} : ∀ {rows : List (List Value)}, (∀ r ∈ rows, ∃ x, C x r) → ∃ xs : List α, xs.length = rows.length ∧ RowsC C xs rows.flatten
  | [], _ => ⟨[], rfl, rfl⟩
  | r :: rows, h => by
    obtain ⟨x, hx⟩ := h r (by simp)
    obtain ⟨xs, h1, h2⟩ := rows_all (rows := rows) fun r hr => h r (by simp [hr])
    exact ⟨x :: xs, by simp [h1], by rw [List.flatten_cons]; exact ⟨r, _, rfl, hx, h2⟩⟩
theorem good_ex : ∀ (n : Nat) (cs : List Value), Go.Dn.Good Tryz.prog w n ty.api_Expr cs → ∃ x, ExC (fun _ => False) w x cs := by
  intro n
  induction n using Nat.strongRecOn with
  | ind n ih =>
    intro cs h
    cases n with
    | zero => exact h.elim
    | succ n =>
      obtain ⟨hl, hf⟩ := good_fields1 h fld_ex
      rw [cells_exP] at hl
      match cs, hl with
      | [v0, v1, v2, v3, v4, v5], _ =>
        simp only [List.mem_cons, List.not_mem_nil, or_false, forall_eq_or_imp, forall_eq, cells_intP, cells_strP, cells_valP, cells_LexP] at hf
        obtain ⟨h0, h1, h2, h5⟩ := hf
        obtain ⟨x0, e0, q0⟩ := h0.int und_intP
        obtain ⟨x1, e1, q1⟩ := h1.str und_strP
        obtain ⟨v, e2, q2, q3, q4⟩ := good_val h2
        cases n with
        | zero => exact h5.elim
        | succ n =>
          obtain ⟨a, len, cap, e5, g1, g2, g3, rows, rfl, g4, g5⟩ := good_slice1 h5 und_LexP
          obtain ⟨ks, k1, k2⟩ := rows_all (C := ExC (fun _ => False) w) (rows := rows) fun r hr => ih n (by omega) r (g5 r hr).2
          simp only [List.drop_zero, List.take_succ_cons, List.take_zero, List.drop_succ_cons, List.cons.injEq, and_true] at e0 e1 e2 e5
          obtain ⟨e2, e3, e4⟩ := e2
          refine ⟨.mk x0 x1 v ks, ?_⟩
          have := ExC.close (F := fun _ => False) (w := w) (x := .mk x0 x1 v ks) (a := a) (cap := cap) g4 (fun _ _ _ h => h) (by show ks.length ≤ cap; omega) g2 g3 ⟨wf64 q0, q1, q2, q3, q4⟩ (rowsC_exL.1 k2)
          rw [e0, e1, e2, e3, e4, e5]
          rw [← k1]
          exact this
theorem good_it {n : Nat} {cs : List Value} (h : Go.Dn.Good Tryz.prog w n ty.api_Item cs) : ∃ x, ItC (fun _ => False) w x cs := by
  obtain ⟨hl, m, hf⟩ := h.fields fld_it
  rw [cells_itP] at hl
  match cs, hl with
  | v0 :: v1 :: c, hl =>
    simp only [List.mem_cons, List.not_mem_nil, or_false, forall_eq_or_imp, forall_eq, cells_intP, cells_strP, cells_exP] at hf
    obtain ⟨h0, h1, h2⟩ := hf
    obtain ⟨x0, e0, q0⟩ := h0.str und_strP
    obtain ⟨x1, e1, q1⟩ := h1.int und_intP
    simp only [List.drop_zero, List.take_succ_cons, List.take_zero, List.drop_succ_cons, List.cons.injEq, and_true] at e0 e1 h2
    rw [List.take_of_length_le (by simp at hl; omega)] at h2
    obtain ⟨x, hx⟩ := good_ex _ _ h2
    exact ⟨(x0, x1, x), c, by rw [e0, e1], hx, q0, wf64 q1⟩
theorem good_key {n : Nat} {cs : List Value} (h : Go.Dn.Good Tryz.prog w n ty.api_Key cs) : ∃ x, keyC x cs := by
  obtain ⟨hl, m, hf⟩ := h.fields fld_key
  rw [cells_keyP] at hl
  match cs, hl with
  | [v0, v1], _ =>
    simp only [List.mem_cons, List.not_mem_nil, or_false, forall_eq_or_imp, forall_eq, cells_intP, cells_boolP] at hf
    obtain ⟨h0, h1⟩ := hf
    obtain ⟨x0, e0, q0⟩ := h0.int und_intP
    obtain ⟨x1, e1⟩ := h1.bool und_boolP
    simp only [List.drop_zero, List.take_succ_cons, List.take_zero, List.drop_succ_cons, List.cons.injEq, and_true] at e0 e1
    exact ⟨(x0, x1), by rw [e0, e1], wf64 q0⟩
theorem good_sl {α : Type} {C : α → List Value → Prop} {n : Nat} {t e : TypeId} {cs : List Value} (h : Go.Dn.Good Tryz.prog w n t cs) (ht : Tryz.prog.underlying t = some (.slice e)) (hC : ∀ m r, Go.Dn.Good Tryz.prog w m e r → ∃ x, C x r) : ∃ l v, cs = [v] ∧ SlC (fun _ => False) w C l v := by
  obtain ⟨a, len, cap, rfl, h1, h2, h3, m, rows, rfl, hr, hrs⟩ := h.slice ht
  obtain ⟨l, k1, k2⟩ := rows_all (C := C) (rows := rows) fun r hr => hC m r (hrs r hr).2
  exact ⟨l, _, rfl, ⟨a, cap, _, by rw [k1], hr, fun _ _ _ h => h, by omega, h2, h3, k2⟩⟩
theorem good_qu {n : Nat} {cs : List Value} (h : Go.Dn.Good Tryz.prog w n ty.api_Query cs) : ∃ q, QuC (fun _ => False) w q cs := by
  obtain ⟨hl, m, hf⟩ := h.fields fld_qu
  rw [cells_quP] at hl
  match cs, hl with
  | [v0, v1, v2, v3, v4], _ =>
    simp only [List.mem_cons, List.not_mem_nil, or_false, forall_eq_or_imp, forall_eq, cells_intP, cells_LitP, cells_LexP, cells_LkeyP] at hf
    obtain ⟨h0, h1, h2, h3, h4⟩ := hf
    obtain ⟨l0, u0, e0, s0⟩ := good_sl h0 und_LitP fun _ _ h => good_it h
    obtain ⟨l1, u1, e1, s1⟩ := good_sl h1 und_LexP fun _ _ h => good_ex _ _ h
    obtain ⟨l2, u2, e2, s2⟩ := good_sl h2 und_LexP fun _ _ h => good_ex _ _ h
    obtain ⟨l3, u3, e3, s3⟩ := good_sl h3 und_LkeyP fun _ _ h => good_key h
    obtain ⟨x4, e4, q4⟩ := h4.int und_intP
    simp only [List.drop_zero, List.take_succ_cons, List.take_zero, List.drop_succ_cons, List.cons.injEq, and_true] at e0 e1 e2 e3 e4
    refine ⟨⟨l0, l1, l2, l3, x4⟩, ⟨u0, u1, u2, u3, by rw [e0, e1, e2, e3, e4], s0, s1, s2, s3, wf64 q4⟩⟩
end
section
variable {w : World} {cs : List Col} {a1 : Option Addr} {c1 : Nat} {q : Qu} {ai aw ag ao : Option Addr} {ci cw cg co : Nat}
end
def txt1 : ByteArray := ⟨#[115, 101, 108, 101, 99, 116, 32, 115, 117, 109, 40, 32, 97, 42, 40, 98, 43, 49, 41, 32, 41, 32, 97, 115, 32, 115, 32, 103, 114, 111, 117, 112, 32, 98, 121, 32, 99, 32, 111, 114, 100, 101, 114, 32, 98, 121, 32, 115, 32, 100, 101, 115, 99]⟩
def out1 : ByteArray := ⟨#[115, 101, 108, 101, 99, 116, 32, 115, 117, 109, 40, 97, 32, 42, 32, 40, 98, 32, 43, 32, 49, 41, 41, 32, 97, 115, 32, 115, 32, 103, 114, 111, 117, 112, 32, 98, 121, 32, 99, 32, 111, 114, 100, 101, 114, 32, 98, 121, 32, 115, 32, 100, 101, 115, 99]⟩
theorem toks1 : toksP 60 (bl txt1) 0 = some T1 := by kernel_rfl
theorem show1 : showQ Q1 = .tuple #[.string out1, .int .i64 0] := by kernel_rfl
abbrev ptkI (a : Option Addr) (c : Nat) (T : List Tk) : It := It.row ty.query_token 3 a T.length c (tksL T)
theorem tPks : slT Tryz.prog ty.L_query_token = some (ty.query_token, 3, 32, zTk) := by kernel_rfl
theorem T1_end : ∀ x ∈ T1, x.2.2 = E0 → ¬ x.1 < (txt1.size : Int) := by decide
theorem pparse1 {w : World} (E : Env w) : Calls Tryz.prog f.query_Parse #[.string txt1] w (Ret fun v w' => ∃ ai ag ao ci cg co, v = .tuple #[.agg ⟨quL Q1 ai none ag ao ci 0 cg co⟩, .int .i64 0, .int .i64 0] ∧ QAt w' Q1 ai none ag ao ∧ Below w.heap.size w w') := by
  apply R.query_Parse_calls
  unfold R.query_Parse
  refine (ST.start w).newB fun b2 w1 _ _ S1 => S1.newB fun b3 w2 _ _ S2 => S2.newB fun b4 w3 _ _ S3 => S3.newB fun b5 w4 _ _ S4 => ⟨_, S4.cell 3 rfl rfl, IFB_dec (fun h => absurd h (by decide)) (fun _ => S4.newB fun b14 w12 _ _ S12 => ⟨_, S12.cell 4 rfl rfl, ptokens_ok.mono ?_⟩)⟩
  rintro _ w13 ⟨_, rfl, bt, rfl, P13⟩
  have S13 := (S12.nil ty.query_token 3).join P13
  refine ⟨_, _, _, rfl, by kernel_rfl, fun rr hst hpe hy => ?_⟩
  have S14 := S13.range rr
  obtain ⟨L, hL⟩ : ∃ L, L = w13.heap.size + 1 := ⟨_, rfl⟩
  obtain ⟨m, hm⟩ : ∃ m, m = w13.heap.size := ⟨_, rfl⟩
  rw [← hL] at S14 hy ⊢
  rw [← hm] at S14 ⊢
  have S15 : ST w ((w13.alloc (.deferred (some []))).alloc (.loop rr)) (It.cells bt #[.string txt1] ty.string :: ([It.obj m (.deferred (some []))] ++ [ptkI none 0 [], It.cells b14 #[.slice none 0 0] ty.L_query_token, It.obj L (.loop rr), It.cells b5 #[.int .i64 0] ty.api_Errno, It.cells b4 #[.int .i64 0] ty.int, zqb b3, It.cells b2 #[.string txt1] ty.string])) :=
    (((S14.pull 4 rfl).pull 4 rfl).pull 3 rfl).pull 4 rfl
  refine (ptokens_c1 (I := fun D B => ∃ a c, B = [ptkI a c D, It.cells b14 #[.slice a D.length c] ty.L_query_token, It.obj L (.loop rr), It.cells b5 #[.int .i64 0] ty.api_Errno, It.cells b4 #[.int .i64 0] ty.int, zqb b3, It.cells b2 #[.string txt1] ty.string]) (J := fun _ => False) toks1 (by decide) ?_ ⟨none, 0, rfl⟩ S15).mono ?_
  · rintro D x rest vs HN _ w14 htot ⟨a, c, rfl⟩ S rfl
    have S := ST.mid (B := []) [ptkI a c D, It.cells b14 #[.slice a D.length c] ty.L_query_token, It.obj L (.loop rr), It.cells b5 #[.int .i64 0] ty.api_Errno, It.cells b4 #[.int .i64 0] ty.int, zqb b3, It.cells b2 #[.string txt1] ty.string] S
    have hxm : x ∈ T1 := by rw [htot]; simp
    have hD : D.length ≤ 21 := by
      have := congrArg List.length htot
      simp only [List.length_append, List.length_cons] at this
      have h21 : T1.length = 21 := rfl
      omega
    refine hy _ _ _ _ w14 (S.get 2 rfl) ?_
    refine S.lit3 fun b22 w18 _ S => S.begr 3 rfl fun w19 S => ⟨_, S.cell 0 rfl rfl, ?_⟩
    have app : ∀ {k : Bool → World → Prop}, (∀ w', (∃ B', ST w w' (HN ++ B') ∧ ∃ a c, B' = [ptkI a c (D ++ [x]), It.cells b14 #[.slice a (D ++ [x]).length c] ty.L_query_token, It.obj L (.loop rr), It.cells b5 #[.int .i64 0] ty.api_Errno, It.cells b4 #[.int .i64 0] ty.int, zqb b3, It.cells b2 #[.string txt1] ty.string]) → k true w') →
        ∃ (t32 : Option Addr) (t32l t32c : Nat), w19.cell? ⟨b14, 0, none⟩ = some (.slice t32 t32l t32c) ∧ ∃ t330 : Int, w19.cell? ⟨b22, 0, none⟩ = some (.int .i64 t330) ∧ ∃ t331 : Int, w19.cell? ⟨b22, 1, none⟩ = some (.int .i64 t331) ∧ ∃ t332 : ByteArray, w19.cell? ⟨b22, 2, none⟩ = some (.string t332) ∧
          NEWB #[.int .i64 t330, .int .i64 t331, .string t332] 103 (fun b31 w28 => OPR Tryz.prog (Builtin.append_ #[98, 98] 98 #[.slice t32 t32l t32c, .slice (some ⟨b31, 0, none⟩) 1 1]) (fun r w29 => ∃ (t35 : Option Addr) (t35l t35c : Nat), r = .slice t35 t35l t35c ∧ STO ⟨b14, 0, none⟩ (.slice t35 t35l t35c) (fun w30 => ENDR rr L k none w30) w29) w28) w19 := fun hk => by
      refine ⟨_, _, _, S.cell 2 rfl rfl, _, S.cell 0 rfl rfl, _, S.cell 0 rfl rfl, _, S.cell 0 rfl rfl, S.newB fun b31 w28 _ _ S28 => ?_⟩
      refine S28.app 2 rfl tPks rfl (by omega) (by omega) (S28.rdc 0 rfl) (mm := 1) rfl (by intro u hu; simp at hu; rcases hu with rfl | rfl | rfl <;> rfl) (by omega) fun a' c' w29 S29 => ⟨_, _, _, rfl, S29.sto 3 rfl (cs' := #[.slice a' (D.length + 1) c']) (by simp) rfl fun w30 S30 => S30.endr0 4 hst hpe rfl fun w' S' => hk w' ⟨[ptkI a' c' (D ++ [x]), It.cells b14 #[.slice a' (D ++ [x]).length c'] ty.L_query_token, It.obj L (.loop rr), It.cells b5 #[.int .i64 0] ty.api_Errno, It.cells b4 #[.int .i64 0] ty.int, zqb b3, It.cells b2 #[.string txt1] ty.string], ?_, a', c', rfl⟩⟩
      have S9 := S'.drop 2
      have e : ptkI a' c' (D ++ [x]) = It.row ty.query_token 3 a' (D.length + 1) c' (tksL D ++ tkC x) := by
        show It.row ty.query_token 3 a' (D ++ [x]).length c' (tksL (D ++ [x])) = _
        rw [List.length_append, List.length_singleton]
        simp [tksL]
      rw [e, List.length_append, List.length_singleton]
      exact ST.unmid (B := []) [It.row ty.query_token 3 a' (D.length + 1) c' (tksL D ++ tkC x), It.cells b14 #[.slice a' (D.length + 1) c'] ty.L_query_token, It.obj L (.loop rr), It.cells b5 #[.int .i64 0] ty.api_Errno, It.cells b4 #[.int .i64 0] ty.int, zqb b3, It.cells b2 #[.string txt1] ty.string] S9
    rw [bytesEq_iff]
    refine IFB_dec (fun he => ⟨_, S.cell 0 rfl rfl, _, S.cell 7 rfl rfl, IFB_dec (fun hlt => absurd hlt (T1_end x hxm he)) (fun _ => app fun w' ⟨B', h1, h2⟩ => ⟨B', h1, .inl ⟨rfl, h2⟩⟩)⟩) (fun _ => app fun w' ⟨B', h1, h2⟩ => ⟨B', h1, .inl ⟨rfl, h2⟩⟩)
  · rintro _ w35 ⟨_, rfl, B', S35, ⟨a, c, rfl⟩ | h⟩
    rotate_left
    · cases h
    have S35 := ST.mid (B := []) [ptkI a c T1, It.cells b14 #[.slice a T1.length c] ty.L_query_token, It.obj L (.loop rr), It.cells b5 #[.int .i64 0] ty.api_Errno, It.cells b4 #[.int .i64 0] ty.int, zqb b3, It.cells b2 #[.string txt1] ty.string] S35
    refine ⟨⟨_, rfl⟩, S35.endl0 2 hst hpe rfl fun w36 S36 => .inl ⟨rfl, _, _, _, S36.cell 1 rfl rfl, ?_⟩⟩
    have hrow := S36.rw 0 rfl
    have hcap : T1.length ≤ c ∧ c ≤ 9223372036854775807 := by
      rcases hrow.2 with ⟨_, h0, _⟩ | ⟨_, _, _, _, h1, h2, _⟩
      · cases h0
      · exact ⟨h1, h2⟩
    refine (pread_ok E (S36.toRd 0 rfl) hcap.1 hcap.2).mono ?_
    rintro _ w37 ⟨_, rfl, x, cap, K, a1, c1, ag, cg, ao, co, hR, rfl, S37⟩
    refine ⟨_, _, _, _, _, _, _, _, _, _, _, _, _, _, _, rfl, S37.newB fun b58 w38 _ _ S38 => S38.sto5 0 rfl fun w42 S42 => IFB_not (IFB_true ?_)⟩
    have q42 : ∀ {w' : World} {H : List It}, ST w w' (quI b58 Q1 a1 none ag ao c1 0 cg co :: (QL x cap K a1 c1 ag cg ao co ++ H)) → QAt w' Q1 a1 none ag ao := fun S => qat1 hR (fun it hi => S.ok it (by simp [hi])) (S.rd 1 rfl) (S.rd 2 rfl) (S.rd 3 rfl)
    have S42 : ST w w42 (quI b58 Q1 a1 none ag ao c1 0 cg co :: (QL x cap K a1 c1 ag cg ao co ++ [It.cells b14 #[.slice a T1.length c] ty.L_query_token, It.obj L (.loop { rr with state := .exhausted, pending := none }), It.cells b5 #[.int .i64 0] ty.api_Errno, It.cells b4 #[.int .i64 0] ty.int, zqb b3, It.cells b2 #[.string txt1] ty.string, It.obj m (.deferred (some []))])) := S42
    refine stQ S42 0 rfl (S42.call (query_Show_ok (E.grown S42.bel) (q42 S42)) fun w50 _ S50 => ?_)
    rw [show1]
    refine ⟨_, _, rfl, IFB_ne (fun h => absurd rfl h) (fun _ => stQ S50 0 rfl ?_)⟩
    have S51 : ST w w50 (zqb b3 :: It.cells b4 #[.int .i64 0] ty.int :: It.cells b5 #[.int .i64 0] ty.api_Errno :: It.obj m (.deferred (some [])) :: quI b58 Q1 a1 none ag ao c1 0 cg co :: (QL x cap K a1 c1 ag cg ao co ++ [])) := by
      have S := ST.mid (B := []) (X := quI b58 Q1 a1 none ag ao c1 0 cg co :: QL x cap K a1 c1 ag cg ao co) [It.cells b14 #[.slice a T1.length c] ty.L_query_token, It.obj L (.loop { rr with state := .exhausted, pending := none }), It.cells b5 #[.int .i64 0] ty.api_Errno, It.cells b4 #[.int .i64 0] ty.int, zqb b3, It.cells b2 #[.string txt1] ty.string, It.obj m (.deferred (some []))] (by simpa using S50)
      have S := S.drop 2
      exact ((((S.pull 4 rfl).pull 1 rfl).pull 2 rfl).pull 3 rfl).sub (.cons_cons _ (.cons_cons _ (.cons_cons _ (.cons_cons _ (.cons _ (.refl _))))))
    refine S51.sto5 0 rfl fun w62 S62 => S62.sto 1 rfl (cs' := #[.int .i64 0]) (by simp) rfl fun w63 S63 => S63.sto 2 rfl (cs' := #[.int .i64 0]) (by simp) rfl fun w64 S64 => ⟨S64.get 3 rfl, ?_⟩
    have S65 := S64.put 3 rfl (.deferred none)
    refine ⟨_, _, _, S65.cell 0 rfl rfl, _, _, _, S65.cell 0 rfl rfl, _, _, _, S65.cell 0 rfl rfl, _, _, _, S65.cell 0 rfl rfl, _, S65.cell 0 rfl rfl, _, S65.cell 1 rfl rfl, _, S65.cell 2 rfl rfl, a1, ag, ao, c1, cg, co, rfl, ?_, S65.bel⟩
    exact qat1 hR (fun it hi => S65.ok it (by simp [hi])) (S65.rd 5 rfl) (S65.rd 6 rfl) (S65.rd 7 rfl)
theorem law11_shown_ok {w : World} (E : Env w) : Calls Tryz.prog f.law11_shown #[] w (Ret fun r w' => r = .bool true ∧ Below w.heap.size w w') := by
  apply R.law11_shown_calls
  unfold R.law11_shown
  refine (pparse1 E).mono ?_
  rintro _ w1 ⟨_, rfl, ai, ag, ao, ci, cg, co, rfl, Q, B1⟩
  refine ⟨_, _, _, _, _, _, _, _, _, _, _, _, _, _, _, rfl, (ST.start w1).newB fun b9 w2 _ _ S2 => S2.sto5 0 rfl fun w7 S7 => ?_⟩
  have S7 : ST w1 w7 [quI b9 Q1 ai none ag ao ci 0 cg co] := S7
  refine stQ S7 0 rfl (S7.call (query_Show_ok ((E.grown B1).grown S7.bel) (Q.grown S7.bel)) fun w8 _ S8 => ?_)
  rw [show1]
  exact ⟨_, _, rfl, IFB_true (IFB_true ⟨by rw [bytesEq_iff]; exact congrArg Value.bool (decide_eq_true rfl), below_j B1 S8.bel⟩)⟩
section
variable {w : World} {cs : List Col} {a1 : Option Addr} {c1 : Nat} {q : Qu} {ai aw ag ao : Option Addr} {ci cw cg co : Nat}
end
section
variable {w : World} {cs : List Col} {a1 : Option Addr} {c1 : Nat} {q : Qu} {ai aw ag ao : Option Addr} {ci cw cg co : Nat}
end
theorem open_qu {H : Type} {enc : TypeId × Value → H} {W : World} {base b : Nat} {sp : Nat → Bool} {held : Bool} {v : Value} {d : DataW H} {p : List MemPlace} (hv : Value.okWide Tryz.prog W .any base ty.api_Query v) (h : DataW.Trod enc Tryz.prog W b sp held ty.api_Query v d p) :
    ∃ x : List Value, v = .agg ⟨x⟩ ∧ ∃ q, QuC (fun _ => False) W q x := by
  obtain ⟨cs, rfl⟩ := okWide_agg fld_qu hv
  obtain ⟨n, hn⟩ := h
  obtain ⟨q, hq⟩ := good_qu (good_of_trod n _ _ _ hn)
  exact ⟨cs.toList, rfl, q, hq⟩
theorem showQ_form (q : Qu) : ∃ s e, showQ q = .tuple #[.string s, .int .i64 e] := by
  unfold showQ
  split
  · exact ⟨_, _, rfl⟩
  · exact ⟨_, _, rfl⟩
theorem ref11_Show_ok {w : World} {q : Qu} {ai aw ag ao : Option Addr} {ci cw cg co : Nat} (Q : QAt w q ai aw ag ao) : Calls Tryz.prog f.ref11_Show #[.agg ⟨quL q ai aw ag ao ci cw cg co⟩] w (Ret fun r w' => r = showQ q ∧ Below w.heap.size w w') := by
  apply R.ref11_Show_calls
  unfold R.ref11_Show
  refine (ST.start w).newB fun b6 w1 _ _ S1 => ?_
  have S1 : ST w w1 [quI b6 q ai aw ag ao ci cw cg co] := S1
  refine stQ S1 0 rfl (S1.call (ref11_Right_ok (Q.grown S1.bel)) fun w2 _ S2 => ⟨_, rfl, IFB_not (IFB_of (fun h => stQ S2 0 rfl (S2.call (ref11_shown_ok (Q.grown S2.bel) (rightQ_small h).1) fun w3 _ S3 => ⟨_, rfl, ?_, S3.bel⟩)) (fun h => ⟨?_, S2.bel⟩))⟩)
  · rw [showQ, if_pos h]
  · rw [showQ, if_neg (by rw [h]; decide)]
theorem QueryShows_core {w : World} {q : Qu} {ai aw ag ao : Option Addr} {ci cw cg co : Nat} (E : Env w) (Q : QAt w q ai aw ag ao) : Calls Tryz.prog f.law11_QueryShows #[.agg ⟨quL q ai aw ag ao ci cw cg co⟩] w (Ret fun v w' => v = .bool true ∧ Below w.heap.size w w') := by
  apply R.law11_QueryShows_calls
  unfold R.law11_QueryShows
  obtain ⟨s, e, hse⟩ := showQ_form q
  refine (ST.start w).newB fun b6 w1 _ _ S1 => S1.call (law11_shown_ok (E.grown S1.bel)) fun w2 _ S2 => ⟨_, rfl, ?_⟩
  have S2 : ST w w2 [quI b6 q ai aw ag ao ci cw cg co] := S2
  refine stQ S2 0 rfl (S2.call (query_Show_ok (E.grown S2.bel) (Q.grown S2.bel)) fun w3 _ S3 => ?_)
  rw [hse]
  refine ⟨_, _, rfl, stQ S3 0 rfl (S3.call (ref11_Show_ok (Q.grown S3.bel)) fun w4 _ S4 => ?_)⟩
  rw [hse]
  exact ⟨_, _, rfl, IFB_true (IFB_yes (by rw [bytesEq_iff]; exact decide_eq_true rfl) ⟨by rw [beq_self_eq_true], S4.bel⟩)⟩
theorem QueryShows_ok {w : World} (E : Env w) (x : List Value) (hx : ∃ q, QuC (fun _ => False) w q x) : Calls Tryz.prog f.law11_QueryShows #[.agg ⟨x⟩] w (Ret fun r w' => r = .bool true ∧ Below w.heap.size w w') := by
  obtain ⟨q, hq⟩ := hx
  obtain ⟨ai, aw, ag, ao, ci, cw, cg, co, rfl, Q, _⟩ := hq.at
  exact QueryShows_core E Q
end Go.Proofs.YtbpdfpfgijhokaaGreatDoor
