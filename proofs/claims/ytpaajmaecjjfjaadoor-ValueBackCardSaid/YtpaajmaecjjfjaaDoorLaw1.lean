/-
  The order of values: the laws ValueOrders, ValueOne, ValueNumbers.
-/
import Derived.Test.YtpaajmaecjjfjaaDoorEnv
namespace Go.Dn
/-- the three cells of a struct that is known -/
theorem SH.v3 {F : Nat → Prop} {w0 w : World} {H : List Ent} (S : SH F w0 w H) (n : Nat) {b : Nat} {x y : Int} {s : ByteArray} {t : TypeId} (hn : H[n]? = some (b, #[.int .i64 x, .int .i64 y, .string s], t)) {Q : Int → Int → ByteArray → Prop} (h : Q x y s) :
    ∃ a : Int, w.cell? ⟨b, 0, none⟩ = some (.int .i64 a) ∧ ∃ c : Int, w.cell? ⟨b, 1, none⟩ = some (.int .i64 c) ∧ ∃ d : ByteArray, w.cell? ⟨b, 2, none⟩ = some (.string d) ∧ Q a c d :=
  ⟨x, S.cell n hn rfl, y, S.cell n hn rfl, s, S.cell n hn rfl, h⟩
end Go.Dn
namespace Go.Proofs.YtpaajmaecjjfjaaDoor
open Go.Dn Go.Proofs
open Go.RowKit (Below)
set_option linter.unusedVariables false
set_option maxRecDepth 20000

/-! ### orders -/
structure IsOrd {α : Type} (f : α → α → Int) : Prop where
  neg : ∀ x y, f y x = - f x y
  zero : ∀ x y, f x y = 0 ↔ x = y
  trans : ∀ x y z, f x y ≤ 0 → f y z ≤ 0 → f x z ≤ 0
theorem IsOrd.strict {α : Type} {f : α → α → Int} (h : IsOrd f) (x y z : α) (h1 : f x y < 0) (h2 : f y z ≤ 0) : f x z < 0 := by
  have h3 := h.trans x y z (by omega) h2
  rcases Int.lt_or_eq_of_le h3 with h4 | h4
  · exact h4
  · have := (h.zero x z).1 h4
    subst this
    have := h.neg x y
    omega
theorem ord_int : IsOrd Lib.compareInt := by
  refine ⟨fun x y => ?_, fun x y => ?_, fun x y z => ?_⟩
  · unfold Lib.compareInt
    split <;> split <;> (try split) <;> (try split) <;> omega
  · unfold Lib.compareInt
    split
    · constructor <;> intro h <;> omega
    · split
      · constructor <;> intro h <;> omega
      · constructor <;> intro h <;> omega
  · unfold Lib.compareInt
    intro h1 h2
    split at h1 <;> split at h2 <;> split <;> (try split at h1) <;> (try split at h2) <;> (try split) <;> omega
theorem cb_neg : ∀ x y : List UInt8, Lib.compareBytes y x = - Lib.compareBytes x y
  | [], [] => rfl
  | [], _ :: _ => rfl
  | _ :: _, [] => rfl
  | a :: x, b :: y => by
    simp only [Lib.compareBytes]
    by_cases h1 : a < b
    · have h2 : ¬ b < a := fun h => absurd (UInt8.lt_trans h1 h) (UInt8.lt_irrefl a)
      simp [h1, h2]
    · by_cases h2 : b < a
      · simp [h1, h2]
      · simp [h1, h2, cb_neg x y]
theorem u8_eq {a b : UInt8} (h1 : ¬ a < b) (h2 : ¬ b < a) : a = b := UInt8.le_antisymm (UInt8.not_lt.1 h2) (UInt8.not_lt.1 h1)
theorem cb_zero : ∀ x y : List UInt8, Lib.compareBytes x y = 0 ↔ x = y
  | [], [] => by simp [Lib.compareBytes]
  | [], _ :: _ => by simp [Lib.compareBytes]
  | _ :: _, [] => by simp [Lib.compareBytes]
  | a :: x, b :: y => by
    simp only [Lib.compareBytes]
    by_cases h1 : a < b
    · rw [if_pos h1]
      constructor
      · intro h; cases h
      · intro h; cases h; exact absurd h1 (UInt8.lt_irrefl a)
    · rw [if_neg h1]
      by_cases h2 : b < a
      · rw [if_pos h2]
        constructor
        · intro h; cases h
        · intro h; cases h; exact absurd h2 (UInt8.lt_irrefl a)
      · rw [if_neg h2, cb_zero x y, u8_eq h1 h2]
        simp
theorem cb_trans : ∀ x y z : List UInt8, Lib.compareBytes x y ≤ 0 → Lib.compareBytes y z ≤ 0 → Lib.compareBytes x z ≤ 0
  | [], _, [], _, _ => by simp [Lib.compareBytes]
  | [], _, _ :: _, _, _ => by simp [Lib.compareBytes]
  | _ :: _, [], _, h, _ => by simp [Lib.compareBytes] at h
  | _ :: _, _ :: _, [], _, h => by simp [Lib.compareBytes] at h
  | a :: x, b :: y, c :: z, h1, h2 => by
    simp only [Lib.compareBytes] at h1 h2 ⊢
    by_cases e1 : a < b
    · by_cases e2 : b < c
      · rw [if_pos (UInt8.lt_trans e1 e2)]; decide
      · rw [if_neg e2] at h2
        by_cases e3 : c < b
        · rw [if_pos e3] at h2; omega
        · have := u8_eq e2 e3; subst this
          rw [if_pos e1]; decide
    · rw [if_neg e1] at h1
      by_cases e2 : b < a
      · rw [if_pos e2] at h1; omega
      · have := u8_eq e1 e2
        subst this
        rw [if_neg e2] at h1
        by_cases e3 : a < c
        · rw [if_pos e3]; decide
        · rw [if_neg e3] at h2 ⊢
          by_cases e4 : c < a
          · rw [if_pos e4] at h2; omega
          · rw [if_neg e4] at h2 ⊢
            exact cb_trans x y z h1 h2
theorem ord_bytes : IsOrd Lib.compareBytes := ⟨cb_neg, cb_zero, cb_trans⟩
def lexF {α β : Type} (f : α → α → Int) (g : β → β → Int) (x y : α × β) : Int := if f x.1 y.1 ≠ 0 then f x.1 y.1 else g x.2 y.2
theorem IsOrd.lex {α β : Type} {f : α → α → Int} {g : β → β → Int} (hf : IsOrd f) (hg : IsOrd g) : IsOrd (lexF f g) := by
  refine ⟨fun x y => ?_, fun x y => ?_, fun x y z => ?_⟩
  · have h1 := hf.neg x.1 y.1
    have h2 := hg.neg x.2 y.2
    unfold lexF
    split <;> split <;> omega
  · have h1 := hf.zero x.1 y.1
    have h2 := hg.zero x.2 y.2
    unfold lexF
    split
    · rename_i h
      constructor
      · intro e; exact absurd e h
      · intro e; rw [e] at h; exact absurd ((hf.zero _ _).2 rfl) h
    · rename_i h
      have e1 : x.1 = y.1 := h1.1 (by omega)
      rw [h2]
      constructor
      · intro e; exact Prod.ext e1 e
      · intro e; rw [e]
  · unfold lexF
    intro a b
    by_cases h1 : f x.1 y.1 = 0
    · have e1 := (hf.zero _ _).1 h1
      rw [if_neg (by omega)] at a
      rw [← e1] at b
      by_cases h2 : f x.1 z.1 = 0
      · rw [if_neg (by omega)] at b ⊢
        exact hg.trans _ _ _ a b
      · rw [if_pos h2] at b ⊢
        exact b
    · rw [if_pos h1] at a
      by_cases h2 : f y.1 z.1 = 0
      · have e2 := (hf.zero _ _).1 h2
        rw [← e2, if_pos h1]
        exact a
      · rw [if_pos h2] at b
        have := hf.strict x.1 y.1 z.1 (by omega) b
        rw [if_pos (by omega)]
        omega
def cmpT (a b : Val) : Int := lexF Lib.compareInt (lexF Lib.compareInt (fun s t => Lib.compareBytes (bl s) (bl t))) a b
theorem cmpV_eq (a b : Val) : cmpV a b = cmpT a b := by
  simp only [cmpV, cmpT, lexF]
theorem ord_str : IsOrd (fun s t : ByteArray => Lib.compareBytes (bl s) (bl t)) :=
  ⟨fun x y => cb_neg _ _, fun x y => (cb_zero _ _).trans ⟨fun h => bl_inj h, fun h => by rw [h]⟩, fun x y z => cb_trans _ _ _⟩
theorem ord_val : IsOrd cmpV := by
  have : cmpV = cmpT := by funext a b; exact cmpV_eq a b
  rw [this]
  exact ord_int.lex (ord_int.lex ord_str)
theorem cmpV_small (a b : Val) : -1 ≤ cmpV a b ∧ cmpV a b ≤ 1 := by
  have h1 : ∀ x y, -1 ≤ Lib.compareInt x y ∧ Lib.compareInt x y ≤ 1 := by intro x y; unfold Lib.compareInt; split <;> (try split) <;> decide
  have h2 : ∀ x y, -1 ≤ Lib.compareBytes x y ∧ Lib.compareBytes x y ≤ 1 := by
    intro x
    induction x with
    | nil => intro y; cases y <;> simp [Lib.compareBytes]
    | cons a x ih =>
      intro y
      cases y with
      | nil => simp [Lib.compareBytes]
      | cons b y => simp only [Lib.compareBytes]; split; decide; split; decide; exact ih y
  unfold cmpV
  split
  · exact h1 _ _
  · split
    · exact h1 _ _
    · exact h2 _ _

theorem bytesLess_iff : ∀ x y : List UInt8, Op.bytesLess x y = true ↔ Lib.compareBytes x y < 0
  | [], [] => by simp [Op.bytesLess, Lib.compareBytes]
  | [], _ :: _ => by simp [Op.bytesLess, Lib.compareBytes]
  | _ :: _, [] => by simp [Op.bytesLess, Lib.compareBytes]
  | a :: x, b :: y => by
    simp only [Op.bytesLess, Lib.compareBytes, Bool.or_eq_true, decide_eq_true_eq, Bool.and_eq_true, beq_iff_eq, bytesLess_iff x y]
    by_cases h1 : a < b
    · simp [h1]
    · by_cases h2 : b < a
      · have : a ≠ b := fun e => by subst e; exact UInt8.lt_irrefl a h2
        simp [h1, h2, this]
      · have := u8_eq h1 h2
        simp [this]
theorem bytesLt_iff (s t : ByteArray) : bytesLt s t = true ↔ Lib.compareBytes (bl s) (bl t) < 0 := by
  unfold bytesLt
  rw [ByteArray.toList_eq, ByteArray.toList_eq]
  exact bytesLess_iff _ _

theorem right_empty {v : Val} (h : rightB v = true) (h3 : ¬ v.1 = 3) : v.2.2 = E0 := by
  unfold rightB at h
  split at h
  · simp at h; exact h.2
  · split at h
    · simpa using h
    · split at h
      · simp at h; exact h.2
      · cases h
theorem cmp_ref {a b : Val} (ha : rightB a = true) (hb : rightB b = true) : cmpV a b = rcmpV a b := by
  have hs := cmpV_small a b
  have hneg := ord_val.neg a b
  have key : ∀ x y : Val, rightB x = true → rightB y = true → (lessV x y = true ↔ cmpV x y < 0) := by
    intro x y hx hy
    by_cases h1 : x.1 = y.1
    · have e0 : Lib.compareInt x.1 y.1 = 0 := (ord_int.zero _ _).2 h1
      have c0 : cmpV x y = if Lib.compareInt x.2.1 y.2.1 ≠ 0 then Lib.compareInt x.2.1 y.2.1 else Lib.compareBytes (bl x.2.2) (bl y.2.2) := by unfold cmpV; rw [if_neg (by omega)]
      have l0 : lessV x y = if x.1 = 3 then bytesLt x.2.2 y.2.2 else decide (x.2.1 < y.2.1) := by unfold lessV; rw [if_neg (by omega)]
      rw [c0, l0]
      by_cases h3 : x.1 = 3
      · have h3' : y.1 = 3 := h1 ▸ h3
        rw [if_pos h3]
        unfold rightB at hx hy
        simp [h3] at hx
        simp [h3'] at hy
        have e1 : Lib.compareInt x.2.1 y.2.1 = 0 := (ord_int.zero _ _).2 (by rw [hx.1, hy.1])
        rw [if_neg (by omega)]
        exact bytesLt_iff _ _
      · rw [if_neg h3]
        have e2 : x.2.2 = E0 ∧ y.2.2 = E0 := ⟨right_empty hx h3, right_empty hy (h1 ▸ h3)⟩
        rw [e2.1, e2.2]
        have e3 : Lib.compareBytes (bl E0) (bl E0) = 0 := rfl
        rw [e3]
        unfold Lib.compareInt
        split
        · simp; omega
        · split
          · simp; omega
          · simp; omega
    · have e0 : Lib.compareInt x.1 y.1 ≠ 0 := fun h => h1 ((ord_int.zero _ _).1 h)
      have c0 : cmpV x y = Lib.compareInt x.1 y.1 := by unfold cmpV; rw [if_pos e0]
      have l0 : lessV x y = decide (x.1 < y.1) := by unfold lessV; rw [if_pos h1]
      rw [c0, l0]
      unfold Lib.compareInt at *
      split
      · simp; omega
      · split
        · simp; omega
        · rename_i n1 n2; omega
  unfold rcmpV
  by_cases h1 : lessV a b = true
  · rw [if_pos h1]
    have := (key a b ha hb).1 h1
    omega
  · rw [if_neg h1]
    have n1 : ¬ cmpV a b < 0 := fun h => h1 ((key a b ha hb).2 h)
    by_cases h2 : lessV b a = true
    · rw [if_pos h2]
      have := (key b a hb ha).1 h2
      omega
    · rw [if_neg h2]
      have n2 : ¬ cmpV b a < 0 := fun h => h2 ((key b a hb ha).2 h)
      omega

/-! ### the laws -/
theorem ValueOrders_ok {w : World} (he : Env w) (a : Val) (qa : valQ a) (b : Val) (qb : valQ b) : Calls Tryd.prog f.law04_ValueOrders #[valV a, valV b] w (Ret fun r w' => r = .bool true ∧ Below w.heap.size w w') := by
  apply R.law04_ValueOrders_calls
  unfold R.law04_ValueOrders
  refine (SH.start (fun _ => False) w).newB fun b7 w1 hb7 B1 S1 => S1.newB fun b8 w2 hb8 B2 S2 => (shown_ok (he.grown S2.below)).mono ?_
  rintro _ w3 ⟨_, rfl, rfl, B3⟩
  have S3 := S2.grown B3
  refine ⟨_, rfl, S3.v3 1 rfl ((ref_Right_ok w3 a).mono ?_)⟩
  rintro _ w4 ⟨_, rfl, rfl, B4⟩
  have S4 := S3.grown B4
  refine ⟨_, rfl, S4.v3 0 rfl ((ref_Right_ok w4 b).mono ?_)⟩
  rintro _ w5 ⟨_, rfl, rfl, B5⟩
  have S5 := S4.grown B5
  refine ⟨_, rfl, S5.v3 1 rfl ((value_Right_ok w5 a).mono ?_)⟩
  rintro _ w6 ⟨_, rfl, rfl, B6⟩
  have S6 := S5.grown B6
  refine ⟨_, rfl, IFB_of (fun h => absurd h (by simp)) (fun _ => S6.v3 0 rfl ((value_Right_ok w6 b).mono ?_))⟩
  rintro _ w7 ⟨_, rfl, rfl, B7⟩
  have S7 := S6.grown B7
  refine ⟨_, rfl, IFB_of (fun h => absurd h (by simp)) (fun _ => S7.drawB fun w8 B8 S8 => IFB_true (IFB_not (IFB_of (fun ha => IFB_not (IFB_of (fun hb => ?_) (fun _ => ⟨rfl, S8.below⟩))) (fun _ => ⟨rfl, S8.below⟩))))⟩
  refine S8.v3 1 rfl (S8.v3 0 rfl (S8.v3 1 rfl (S8.v3 0 rfl ((value_Compare_ok w8 a b).mono ?_))))
  rintro _ w9 ⟨_, rfl, rfl, B9⟩
  have S9 := S8.grown B9
  refine ⟨_, rfl, ⟨S9.cell 0 rfl rfl, S9.cell 0 rfl rfl, S9.cell 0 rfl rfl⟩, ⟨S9.cell 1 rfl rfl, S9.cell 1 rfl rfl, S9.cell 1 rfl rfl⟩, (ref_Compare_ok w9 a b).mono ?_⟩
  rintro _ w10 ⟨_, rfl, rfl, B10⟩
  refine ⟨_, rfl, ?_, (S9.grown B10).below⟩
  rw [cmp_ref ha hb]
  simp

theorem ValueOne_ok {w : World} (he : Env w) (a : Val) (qa : valQ a) (b : Val) (qb : valQ b) (c : Val) (qc : valQ c) : Calls Tryd.prog f.law04_ValueOne #[valV a, valV b, valV c] w (Ret fun r w' => r = .bool true ∧ Below w.heap.size w w') := by
  apply R.law04_ValueOne_calls
  unfold R.law04_ValueOne
  refine (SH.start (fun _ => False) w).newB fun b10 w1 hb10 B1 S1 => S1.newB fun b11 w2 hb11 B2 S2 => S2.newB fun b12 w3 hb12 B3 S3 => (shown_ok (he.grown S3.below)).mono ?_
  rintro _ w4 ⟨_, rfl, rfl, B4⟩
  have S4 := S3.grown B4
  refine ⟨_, rfl, S4.v3 2 rfl ((value_Right_ok w4 a).mono ?_)⟩
  rintro _ w5 ⟨_, rfl, rfl, B5⟩
  have S5 := S4.grown B5
  refine ⟨_, rfl, IFB_not (IFB_of (fun ha => S5.v3 1 rfl ((value_Right_ok w5 b).mono ?_)) (fun _ => ⟨rfl, S5.below⟩))⟩
  rintro _ w6 ⟨_, rfl, rfl, B6⟩
  have S6 := S5.grown B6
  refine ⟨_, rfl, IFB_not (IFB_of (fun hb => S6.v3 0 rfl ((value_Right_ok w6 c).mono ?_)) (fun _ => ⟨rfl, S6.below⟩))⟩
  rintro _ w7 ⟨_, rfl, rfl, B7⟩
  have S7 := S6.grown B7
  refine ⟨_, rfl, IFB_not (IFB_of (fun hc => S7.v3 2 rfl (S7.v3 1 rfl ((value_Compare_ok w7 a b).mono ?_))) (fun _ => ⟨rfl, S7.below⟩))⟩
  rintro _ w8 ⟨_, rfl, rfl, B8⟩
  have S8 := S7.grown B8
  refine ⟨_, rfl, S8.v3 1 rfl (S8.v3 0 rfl ((value_Compare_ok w8 b c).mono ?_))⟩
  rintro _ w9 ⟨_, rfl, rfl, B9⟩
  have S9 := S8.grown B9
  refine ⟨_, rfl, S9.v3 2 rfl (S9.v3 0 rfl ((value_Compare_ok w9 a c).mono ?_))⟩
  rintro _ w10 ⟨_, rfl, rfl, B10⟩
  have S10 := S9.grown B10
  refine ⟨_, rfl, IFB_true (S10.v3 1 rfl (S10.v3 2 rfl ((value_Compare_ok w10 b a).mono ?_)))⟩
  rintro _ w11 ⟨_, rfl, rfl, B11⟩
  have S11 := S10.grown B11
  have hs := cmpV_small a b
  have hneg := ord_val.neg a b
  have htr := ord_val.trans a b c
  have hst := ord_val.strict a b c
  have hz := ord_val.zero a b
  rw [wrap_i64 (by omega) (by omega)]
  refine ⟨_, rfl, IFB_eq (fun _ => S11.v3 2 rfl (S11.v3 1 rfl ?_)) (fun h => absurd (by omega) h)⟩
  rw [beq_str]
  refine IFB_of (fun _ => ?_) (fun h => ?_)
  · have fin : Below w.heap.size w w11 := S11.below
    refine IFB_dec (fun h1 => IFB_dec (fun h2 => ⟨rfl, fin⟩) (fun h2 => by omega)) (fun h1 => IFB_dec (fun h2 => IFB_dec (fun _ => ⟨rfl, fin⟩) (fun _ => IFB_dec (fun _ => ⟨rfl, fin⟩) (fun h => absurd h2 h))) (fun h2 => IFB_dec (fun h3 => IFB_dec (fun _ => ⟨rfl, fin⟩) (fun h4 => IFB_dec (fun _ => ⟨rfl, fin⟩) (fun h5 => ⟨?_, fin⟩))) (fun h3 => absurd (htr (by omega) (by omega)) h3)))
    have := hst (by omega) (by omega)
    simp [this]
  · exfalso
    have : (cmpV a b == 0) = (a.1 == b.1 && (a.2.1 == b.2.1 && (decide (a.2.2 = b.2.2) && true))) := by
      rw [Bool.eq_iff_iff]
      simp only [beq_iff_eq, hz, Bool.and_true, Bool.and_eq_true, decide_eq_true_eq]
      constructor
      · intro e; rw [e]; exact ⟨rfl, rfl, rfl⟩
      · rintro ⟨h1, h2, h3⟩; exact Prod.ext h1 (Prod.ext h2 h3)
    rw [this] at h
    simp at h
end Go.Proofs.YtpaajmaecjjfjaaDoor
