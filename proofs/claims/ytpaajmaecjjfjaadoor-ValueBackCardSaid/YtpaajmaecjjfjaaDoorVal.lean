/-
  Values: which may be, how two stand, which text one is.
-/
import Derived.Test.YtpaajmaecjjfjaaDoorWire
import Derived.Test.YtpaajmaecjjfjaaDoorShelf
import Derived.Test.YtpaajmaecjjfjaaDoorDnOpen
namespace Go.Proofs.YtpaajmaecjjfjaaDoor
open Go.Dn Go.Proofs
open Go.RowKit (Below)
set_option linter.unusedVariables false
set_option maxRecDepth 20000

/-- kind, number, text -/
abbrev Val := Int × Int × ByteArray
def valV (v : Val) : Value := .agg #[.int .i64 v.1, .int .i64 v.2.1, .string v.2.2]
abbrev E0 : ByteArray := ⟨#[]⟩
def rightB (v : Val) : Bool :=
  if v.1 = 0 then decide (v.2.1 = 0 ∧ v.2.2 = E0) else if v.1 = 1 then decide (v.2.2 = E0) else if v.1 = 2 then decide ((v.2.1 = 0 ∨ v.2.1 = 1) ∧ v.2.2 = E0) else
  if v.1 = 3 then decide (v.2.1 = 0 ∧ v.2.2.size ≤ 1024) else false

theorem and1 (n : Int) : n = IntKind.i64.wrap (((BitVec.ofInt 64 n &&& BitVec.ofInt 64 1).toNat : Int)) ↔ (n = 0 ∨ n = 1) := by
  have h : (BitVec.ofInt 64 n &&& BitVec.ofInt 64 1).toNat = 0 ∨ (BitVec.ofInt 64 n &&& BitVec.ofInt 64 1).toNat = 1 := by
    rw [BitVec.toNat_and]
    have h1 : (BitVec.ofInt 64 1).toNat = 2 ^ 1 - 1 := by decide
    rw [h1, Nat.and_two_pow_sub_one_eq_mod]
    omega
  constructor
  · intro e
    rcases h with h | h
    · rw [h] at e; left; rw [e]; decide
    · rw [h] at e; right; rw [e]; decide
  · rintro (rfl | rfl) <;> decide

theorem value_Right_ok (w : World) (v : Val) : Calls Tryd.prog f.value_Right #[valV v] w (Ret fun r w' => r = .bool (rightB v) ∧ Below w.heap.size w w') := by
  obtain ⟨k, n, s⟩ := v
  apply R.value_Right_calls
  show R.value_Right k n s _ _
  unfold R.value_Right
  refine (SH.start (fun _ => False) w).newB fun b4 w1 hb4 B1 S1 => ⟨_, S1.cell 0 rfl rfl, S1.lit3 fun b6 w5 hb6 B5 S5 => ?_⟩
  refine ⟨fun _ w9 => ∃ p : Val, SH (fun _ => False) w w9 [(b6, #[.int .i64 p.1, .int .i64 p.2.1, .string p.2.2], 23), (b4, #[.int .i64 k, .int .i64 n, .string s], 23)] ∧ p.1 = k ∧
      (0 ≤ k → k < 4 → (((k, n, s) : Val) = p ∧ s.size ≤ 1024 ↔ rightB (k, n, s) = true)), ?_, ?_⟩
  · refine ⟨_, S5.cell 1 rfl rfl, IFB_eq (fun h => ?_) (fun h0 => IFB_eq (fun h => ⟨_, S5.cell 1 rfl rfl, ?_⟩) (fun h1 => IFB_eq (fun h => ⟨_, S5.cell 1 rfl rfl, ?_⟩) (fun h2 => IFB_eq (fun h => ⟨_, S5.cell 1 rfl rfl, ?_⟩) (fun h3 => ?_))))⟩
    · subst h
      refine ⟨(0, 0, E0), S5, rfl, fun _ _ => ?_⟩
      simp only [rightB, if_pos, decide_eq_true_eq, Prod.mk.injEq, true_and]
      constructor
      · rintro ⟨⟨h1, h2⟩, _⟩; exact ⟨h1, h2⟩
      · rintro ⟨h1, rfl⟩; exact ⟨⟨h1, rfl⟩, by decide⟩
    · subst h
      refine S5.sto 0 rfl (show 1 < 3 by decide) fun w6 S6 => ⟨(1, n, E0), S6, rfl, fun _ _ => ?_⟩
      simp only [rightB, if_neg (show ¬ (1 : Int) = 0 by decide), if_pos, decide_eq_true_eq, Prod.mk.injEq, true_and]
      constructor
      · rintro ⟨h1, _⟩; exact h1
      · rintro rfl; exact ⟨rfl, by decide⟩
    · subst h
      refine S5.sto 0 rfl (show 1 < 3 by decide) fun w6 S6 => ⟨(2, IntKind.i64.wrap (((BitVec.ofInt 64 n &&& BitVec.ofInt 64 1).toNat : Int)), E0), S6, rfl, fun _ _ => ?_⟩
      simp only [rightB, if_neg (show ¬ (2 : Int) = 0 by decide), if_neg (show ¬ (2 : Int) = 1 by decide), if_pos, decide_eq_true_eq, Prod.mk.injEq, true_and]
      rw [and1]
      constructor
      · rintro ⟨⟨h1, h2⟩, _⟩; exact ⟨h1, h2⟩
      · rintro ⟨h1, rfl⟩; exact ⟨⟨h1, rfl⟩, by decide⟩
    · subst h
      refine S5.sto 0 rfl (show 2 < 3 by decide) fun w6 S6 => ⟨(3, 0, s), S6, rfl, fun _ _ => ?_⟩
      simp only [rightB, if_neg (show ¬ (3 : Int) = 0 by decide), if_neg (show ¬ (3 : Int) = 1 by decide), if_neg (show ¬ (3 : Int) = 2 by decide), if_pos, decide_eq_true_eq, Prod.mk.injEq, true_and, and_true]
    · exact ⟨(k, 0, E0), S5, rfl, fun _ _ => by omega⟩
  · rintro w9 ⟨p, S9, hp, hiff⟩
    have no : ¬ (0 ≤ k ∧ k < 4) → Value.bool false = .bool (rightB (k, n, s)) := by
      intro hk
      simp only [rightB]
      rw [if_neg (by omega), if_neg (by omega), if_neg (by omega), if_neg (by omega)]
    refine ⟨_, S9.cell 1 rfl rfl, IFB_dec (fun h0 => ⟨_, S9.cell 1 rfl rfl, IFB_dec (fun h4 => ?_) (fun h4 => ⟨no (by omega), S9.below⟩)⟩) (fun h0 => ⟨no (by omega), S9.below⟩)⟩
    refine ⟨_, S9.cell 1 rfl rfl, _, S9.cell 1 rfl rfl, _, S9.cell 1 rfl rfl, _, S9.cell 0 rfl rfl, _, S9.cell 0 rfl rfl, _, S9.cell 0 rfl rfl, ?_⟩
    have hi := hiff h0 h4
    rw [beq_str]
    refine IFB_of (fun he => ⟨_, S9.cell 1 rfl rfl, ?_, S9.below⟩) (fun he => ⟨?_, S9.below⟩)
    · simp only [Bool.and_true, Bool.and_eq_true, beq_iff_eq, decide_eq_true_eq] at he
      have e : ((k, n, s) : Val) = p := by
        obtain ⟨p1, p2, p3⟩ := p
        simp only at he
        rw [he.1, he.2.1, he.2.2]
      congr 1
      rw [Bool.eq_iff_iff]
      rw [← hi]
      simp only [e, true_and, decide_eq_true_eq]
      omega
    · have hn : ¬ (rightB (k, n, s) = true) := by
        rw [← hi]
        rintro ⟨e, _⟩
        rw [← e] at he
        simp at he
      simp [Bool.eq_false_iff.2 hn]

theorem ref_Right_ok (w : World) (v : Val) : Calls Tryd.prog f.ref04_Right #[valV v] w (Ret fun r w' => r = .bool (rightB v) ∧ Below w.heap.size w w') := by
  obtain ⟨k, n, s⟩ := v
  apply R.ref04_Right_calls
  show R.ref04_Right k n s _ _
  unfold R.ref04_Right
  refine (SH.start (fun _ => False) w).newB fun b4 w1 hb4 B1 S1 => ⟨_, S1.cell 0 rfl rfl, ?_⟩
  simp only [bytesEq_iff, rightB]
  refine IFB_eq (fun h => ⟨_, S1.cell 0 rfl rfl, IFB_eq (fun hn => ⟨_, S1.cell 0 rfl rfl, ?_, B1⟩) (fun hn => ⟨?_, B1⟩)⟩) (fun h0 => IFB_eq (fun h => ⟨_, S1.cell 0 rfl rfl, ?_, B1⟩) (fun h1 => IFB_eq (fun h => ⟨_, S1.cell 0 rfl rfl, ?_⟩) (fun h2 => IFB_eq (fun h => ⟨_, S1.cell 0 rfl rfl, IFB_eq (fun hn => ⟨_, S1.cell 0 rfl rfl, ?_, B1⟩) (fun hn => ⟨?_, B1⟩)⟩) (fun h3 => ⟨?_, B1⟩))))
  · simp [h, hn]
  · simp [h, hn]
  · simp [h]
  · refine IFB_eq (fun hn => ⟨_, S1.cell 0 rfl rfl, ?_, B1⟩) (fun hn => ⟨_, S1.cell 0 rfl rfl, IFB_eq (fun hn1 => ⟨_, S1.cell 0 rfl rfl, ?_, B1⟩) (fun hn1 => ⟨?_, B1⟩)⟩)
    · simp [h, hn]
    · simp [h, hn1]
    · simp [h, hn, hn1]
  · simp [h, hn]
    omega
  · simp [h, hn]
  · simp [h0, h1, h2, h3]

/-! ### the order -/
def cmpV (a b : Val) : Int :=
  if Lib.compareInt a.1 b.1 ≠ 0 then Lib.compareInt a.1 b.1 else if Lib.compareInt a.2.1 b.2.1 ≠ 0 then Lib.compareInt a.2.1 b.2.1 else Lib.compareBytes (bl a.2.2) (bl b.2.2)

theorem cmp_isNaN64 (w : World) (x : Int) : Calls Tryd.prog f.cmp_isNaN_int64 #[.int .i64 x] w (Ret fun r w' => r = .bool false ∧ w' = w) := by
  apply R.cmp_isNaN_int64_calls
  exact ⟨by simp, rfl⟩
theorem cmp_Compare64 (w : World) (x y : Int) : Calls Tryd.prog f.cmp_Compare_int64 #[.int .i64 x, .int .i64 y] w (Ret fun r w' => r = .int .i64 (Lib.compareInt x y) ∧ w' = w) := by
  apply R.cmp_Compare_int64_calls
  unfold R.cmp_Compare_int64
  refine (cmp_isNaN64 w x).mono ?_
  rintro _ w ⟨_, rfl, rfl, rfl⟩
  refine ⟨_, rfl, (cmp_isNaN64 w y).mono ?_⟩
  rintro _ w ⟨_, rfl, rfl, rfl⟩
  refine ⟨_, rfl, IFB_false (IFB_false (IFB_dec (fun h => ⟨?_, rfl⟩) (fun h => IFB_dec (fun h2 => ⟨?_, rfl⟩) (fun h2 => ⟨?_, rfl⟩))))⟩
  · simp [Lib.compareInt, h]
  · simp [Lib.compareInt, h, h2]
  · simp [Lib.compareInt, h, h2]
theorem cmp_Or3 {w : World} {b : Nat} {t : TypeId} (x y z : Int) (hb : w.heap[b]? = some (.cells #[.int .i64 x, .int .i64 y, .int .i64 z] t (0, 0))) :
    Calls Tryd.prog f.cmp_Or_int #[.slice (some ⟨b, 0, none⟩) 3 3] w (Ret fun r w' => r = .int .i64 (if x ≠ 0 then x else if y ≠ 0 then y else z) ∧ w' = w) := by
  apply R.cmp_Or_int_calls
  unfold R.cmp_Or_int
  have cell : ∀ (k : Nat) (v : Value), [Value.int .i64 x, .int .i64 y, .int .i64 z][k]? = some v → w.cell? ((⟨b, 0, none⟩ : Addr).add ((k : Int).toNat * 1)) = some v := by
    intro k v hv
    rw [Int.toNat_natCast, Nat.mul_one, addr_add_blk, Nat.zero_add]
    simp only [World.cell?, hb]
    simpa using hv
  refine ⟨fun s w1 => w1 = w ∧ (s = [.int .i64 ((0 : Nat) : Int)] ∨ (s = [.int .i64 ((1 : Nat) : Int)] ∧ x = 0) ∨ (s = [.int .i64 ((2 : Nat) : Int)] ∧ x = 0 ∧ y = 0) ∨ (s = [.int .i64 ((3 : Nat) : Int)] ∧ x = 0 ∧ y = 0 ∧ z = 0)),
    fun s _ => match s with
      | [.int _ i] => 3 - i.toNat
      | _ => 0, ⟨rfl, .inl rfl⟩, ?_⟩
  rintro i w1 ⟨rfl, hs⟩
  rcases hs with hs | ⟨hs, h0⟩ | ⟨hs, h0, h1⟩ | ⟨hs, h0, h1, h2⟩
  · cases hs
    refine IFB_true ⟨by decide, _, cell 0 _ rfl, IFB_ne (fun h => ⟨by rw [if_pos h], rfl⟩) (fun h => ?_)⟩
    rw [wrap_succ (by omega)]
    exact ⟨⟨rfl, .inr (.inl ⟨rfl, h⟩)⟩, show 2 < 3 by decide⟩
  · cases hs
    refine IFB_true ⟨by decide, _, cell 1 _ rfl, IFB_ne (fun h => ⟨by rw [if_neg (by omega), if_pos h], rfl⟩) (fun h => ?_)⟩
    rw [wrap_succ (by omega)]
    exact ⟨⟨rfl, .inr (.inr (.inl ⟨rfl, h0, h⟩))⟩, show 1 < 2 by decide⟩
  · cases hs
    refine IFB_true ⟨by decide, _, cell 2 _ rfl, IFB_ne (fun h => ⟨by rw [if_neg (by omega), if_neg (by omega)], rfl⟩) (fun h => ?_)⟩
    rw [wrap_succ (by omega)]
    exact ⟨⟨rfl, .inr (.inr (.inr ⟨rfl, h0, h1, h⟩))⟩, show 0 < 1 by decide⟩
  · cases hs
    exact IFB_false ⟨by rw [if_neg (by omega), if_neg (by omega), h2], rfl⟩

theorem value_Compare_ok (w : World) (a b : Val) : Calls Tryd.prog f.value_Compare #[valV a, valV b] w (Ret fun r w' => r = .int .i64 (cmpV a b) ∧ Below w.heap.size w w') := by
  apply R.value_Compare_calls
  unfold R.value_Compare
  refine (SH.start (fun _ => False) w).newB fun b7 w1 hb7 B1 S1 => S1.newB fun b8 w2 hb8 B2 S2 => S2.drawB fun w3 B3 S3 => ?_
  refine ⟨_, S3.cell 1 rfl rfl, _, S3.cell 0 rfl rfl, _, S3.cell 1 rfl rfl, _, S3.cell 0 rfl rfl, _, S3.cell 1 rfl rfl, _, S3.cell 0 rfl rfl, (Tryd.cmp_Compare_int _ _ w3).mono ?_⟩
  rintro _ w3 ⟨rfl, rfl⟩
  refine ⟨_, rfl, S3.cell 0 rfl rfl, S3.cell 1 rfl rfl, S3.cell 0 rfl rfl, S3.cell 1 rfl rfl, (cmp_Compare64 w3 _ _).mono ?_⟩
  rintro _ w3 ⟨_, rfl, rfl, rfl⟩
  refine ⟨_, rfl, S3.cell 0 rfl rfl, S3.cell 1 rfl rfl, (Tryd.strings_Compare _ _ w3).mono ?_⟩
  rintro _ w3 ⟨rfl, rfl⟩
  refine ⟨_, rfl, S3.newB fun b21 w7 hb21 B7 S7 => (cmp_Or3 _ _ _ (S7.get 0 rfl)).mono ?_⟩
  rintro _ w7 ⟨_, rfl, rfl, rfl⟩
  exact ⟨_, rfl, rfl, S7.below⟩

def lessV (a b : Val) : Bool := if a.1 ≠ b.1 then decide (a.1 < b.1) else if a.1 = 3 then bytesLt a.2.2 b.2.2 else decide (a.2.1 < b.2.1)
theorem ref_less_ok (w : World) (a b : Val) : Calls Tryd.prog f.ref04_less #[valV a, valV b] w (Ret fun r w' => r = .bool (lessV a b) ∧ Below w.heap.size w w') := by
  apply R.ref04_less_calls
  unfold R.ref04_less
  refine (SH.start (fun _ => False) w).newB fun b7 w1 hb7 B1 S1 => S1.newB fun b8 w2 hb8 B2 S2 => ?_
  refine ⟨_, S2.cell 1 rfl rfl, _, S2.cell 0 rfl rfl, IFB_ne (fun h => ⟨_, S2.cell 1 rfl rfl, _, S2.cell 0 rfl rfl, by simp [lessV, h], S2.below⟩) (fun h => ⟨_, S2.cell 1 rfl rfl, IFB_eq (fun h3 => ⟨_, S2.cell 1 rfl rfl, _, S2.cell 0 rfl rfl, ?_, S2.below⟩) (fun h3 => ⟨_, S2.cell 1 rfl rfl, _, S2.cell 0 rfl rfl, ?_, S2.below⟩)⟩)⟩
  · simp only [lessV]; rw [if_neg (by simp [h]), if_pos h3]
  · simp only [lessV]; rw [if_neg (by simp [h]), if_neg h3]
def rcmpV (a b : Val) : Int := if lessV a b = true then -1 else if lessV b a = true then 1 else 0
theorem ref_Compare_ok (w : World) (a b : Val) : Calls Tryd.prog f.ref04_Compare #[valV a, valV b] w (Ret fun r w' => r = .int .i64 (rcmpV a b) ∧ Below w.heap.size w w') := by
  apply R.ref04_Compare_calls
  unfold R.ref04_Compare
  refine (SH.start (fun _ => False) w).newB fun b7 w1 hb7 B1 S1 => S1.newB fun b8 w2 hb8 B2 S2 => ?_
  refine ⟨_, S2.cell 1 rfl rfl, _, S2.cell 1 rfl rfl, _, S2.cell 1 rfl rfl, _, S2.cell 0 rfl rfl, _, S2.cell 0 rfl rfl, _, S2.cell 0 rfl rfl, (ref_less_ok w2 a b).mono ?_⟩
  rintro _ w3 ⟨_, rfl, rfl, B3⟩
  have S3 := S2.grown B3
  refine ⟨_, rfl, _, S3.cell 0 rfl rfl, _, S3.cell 0 rfl rfl, _, S3.cell 0 rfl rfl, _, S3.cell 1 rfl rfl, _, S3.cell 1 rfl rfl, _, S3.cell 1 rfl rfl, (ref_less_ok w3 b a).mono ?_⟩
  rintro _ w4 ⟨_, rfl, rfl, B4⟩
  refine ⟨_, rfl, IFB_of (fun h => ⟨by simp [rcmpV, h], (S3.grown B4).below⟩) (fun h => IFB_of (fun h2 => ⟨by simp [rcmpV, h, h2], (S3.grown B4).below⟩) (fun h2 => ⟨by simp [rcmpV, h, h2], (S3.grown B4).below⟩))⟩
end Go.Proofs.YtpaajmaecjjfjaaDoor
