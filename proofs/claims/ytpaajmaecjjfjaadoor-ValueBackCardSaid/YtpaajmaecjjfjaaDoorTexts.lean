/-
  A value's text is its own; texts that say a value (plain, no program in sight).
-/
import Derived.Test.YtpaajmaecjjfjaaDoorLaw2
namespace Go.Proofs.YtpaajmaecjjfjaaDoor
open Go.Dn Go.Proofs
set_option linter.unusedVariables false
set_option maxRecDepth 20000

/-! ### quotes -/
def unq : List UInt8 → Option (List UInt8)
  | [] => some []
  | [c] => if c = 39 then none else some [c]
  | c :: d :: r => if c = 39 then (if d = 39 then (unq r).map (39 :: ·) else none) else (unq (d :: r)).map (c :: ·)
theorem unq_quote : ∀ t : List UInt8, unq (quoteL t) = some t
  | [] => rfl
  | c :: t => by
    have ih := unq_quote t
    by_cases h : c = 39
    · subst h
      have e : quoteL (39 :: t) = 39 :: 39 :: quoteL t := by simp [quoteL]
      rw [e]
      simp [unq, ih]
    · have e : quoteL (c :: t) = c :: quoteL t := by simp [quoteL, h]
      rw [e]
      cases hq : quoteL t with
      | nil => rw [hq] at ih; simp [unq] at ih; subst ih; simp [unq, h]
      | cons d r => rw [hq] at ih; simp [unq, h, ih]
theorem quote_unq : ∀ (m t : List UInt8), unq m = some t → quoteL t = m
  | [], t, h => by simp [unq] at h; subst h; rfl
  | [c], t, h => by
    unfold unq at h
    split at h
    · cases h
    · rename_i hc
      simp at h
      subst h
      simp [quoteL, hc]
  | c :: d :: r, t, h => by
    unfold unq at h
    split at h
    · rename_i hc
      split at h
      · rename_i hd
        obtain ⟨u, hu, rfl⟩ := Option.map_eq_some_iff.1 h
        subst hc hd
        simp [quoteL]
        exact quote_unq r u hu
      · cases h
    · rename_i hc
      obtain ⟨u, hu, rfl⟩ := Option.map_eq_some_iff.1 h
      have := quote_unq (d :: r) u hu
      simp only [quoteL, List.flatMap_cons, hc, if_false] at this ⊢
      rw [this]
      rfl

/-! ### numbers -/
theorem dec_head (u : Nat) : ∃ c r, Lib.decDigits u = c :: r ∧ 48 ≤ c.toNat ∧ c.toNat ≤ 57 := by
  induction u using Nat.strongRecOn with
  | _ u ih =>
    by_cases h : u < 10
    · refine ⟨UInt8.ofNat (48 + u), [], Lib.decDigits_one h, ?_, ?_⟩ <;> simp <;> omega
    · obtain ⟨c, r, e, h1, h2⟩ := ih (u / 10) (by omega)
      exact ⟨c, r ++ [UInt8.ofNat (48 + u % 10)], by rw [Lib.decDigits, dif_neg h, e]; rfl, h1, h2⟩
theorem dec_parse {M : Nat} (hM : M ≤ 18446744073709551615) : ∀ (u : Nat), u ≤ M → ∀ r, Lib.parseUintM M 0 (Lib.decDigits u ++ r) = Lib.parseUintM M u r := by
  intro u
  induction u using Nat.strongRecOn with
  | _ u ih =>
    intro hu r
    by_cases h : u < 10
    · rw [Lib.decDigits_one h]
      have e : (UInt8.ofNat (48 + u)).toNat = 48 + u := by simp; omega
      conv => lhs; rw [List.singleton_append, Lib.parseUintM]
      rw [e, if_pos (by omega), if_neg (by omega), if_neg (by omega)]
      congr 1
      omega
    · have e : (UInt8.ofNat (48 + u % 10)).toNat = 48 + u % 10 := by simp; omega
      rw [Lib.decDigits, dif_neg h, List.append_assoc, ih (u / 10) (by omega) (by omega)]
      conv => lhs; rw [List.singleton_append, Lib.parseUintM]
      rw [e, if_pos (by omega), if_neg (by omega), if_neg (by omega)]
      congr 1
      omega
theorem itoa_parse (n : Int) (h1 : -9223372036854775808 ≤ n) (h2 : n ≤ 9223372036854775807) : Lib.parseIntB 64 (Lib.itoa n) = .ok n := by
  have p64 : (2 : Nat) ^ 64 - 1 = 18446744073709551615 := by decide
  have p63 : (2 : Nat) ^ (64 - 1) = 9223372036854775808 := by decide
  have key : ∀ u : Nat, u ≤ 9223372036854775808 → Lib.parseUintB 64 (Lib.decDigits u) = .ok u := by
    intro u hu
    obtain ⟨c, r, e, _⟩ := dec_head u
    unfold Lib.parseUintB
    rw [if_neg (by rw [e]; simp), p64]
    have := dec_parse (M := 18446744073709551615) (by omega) u (by omega) []
    rw [List.append_nil] at this
    rw [this]
    rfl
  unfold Lib.itoa
  by_cases hn : n < 0
  · rw [if_pos hn]
    simp only [Lib.parseIntB]
    have e45 : (45 : UInt8).toNat = 45 := rfl
    rw [if_pos (.inr e45), key _ (by omega)]
    simp only [e45, p63]
    simp only [not_true_eq_false, false_and, if_false, true_and, if_true]
    rw [if_neg (by omega)]
    congr 1
    omega
  · rw [if_neg hn]
    obtain ⟨c, r, e, hc1, hc2⟩ := dec_head n.toNat
    have hk := key n.toNat (by omega)
    rw [e] at hk ⊢
    simp only [Lib.parseIntB]
    rw [if_neg (by omega), hk]
    simp only [p63]
    rw [if_neg (by omega), if_neg (by omega), if_neg (by omega)]
    congr 1
    omega
theorem itoa_inj {m n : Int} (hm : -9223372036854775808 ≤ m ∧ m ≤ 9223372036854775807) (hn : -9223372036854775808 ≤ n ∧ n ≤ 9223372036854775807) (h : Lib.itoa m = Lib.itoa n) : m = n := by
  have h1 := itoa_parse m hm.1 hm.2
  have h2 := itoa_parse n hn.1 hn.2
  rw [h, h2] at h1
  cases h1
  rfl
theorem itoa_head (n : Int) : ∃ c r, Lib.itoa n = c :: r ∧ (c.toNat = 45 ∨ (48 ≤ c.toNat ∧ c.toNat ≤ 57)) := by
  unfold Lib.itoa
  split
  · exact ⟨45, _, rfl, .inl rfl⟩
  · obtain ⟨c, r, e, h1, h2⟩ := dec_head n.toNat
    exact ⟨c, r, e, .inr ⟨h1, h2⟩⟩

/-! ### one text, one value -/
def tTrue : List UInt8 := [116, 114, 117, 101]
def tFalse : List UInt8 := [102, 97, 108, 115, 101]
def tNull : List UInt8 := [110, 117, 108, 108]
theorem fmt_true : Lib.formatBool true = tTrue := by decide
theorem fmt_false : Lib.formatBool false = tFalse := by decide
/-- the ways in which a text is a value's -/
theorem show_cases {v : Val} (h : rightB v = true) (s : List UInt8) (hs : showL v = s) :
    (v = (0, 0, E0) ∧ s = tNull) ∨ (v = (1, v.2.1, E0) ∧ s = Lib.itoa v.2.1) ∨ (v = (2, 0, E0) ∧ s = tFalse) ∨ (v = (2, 1, E0) ∧ s = tTrue) ∨ (v = (3, 0, v.2.2) ∧ v.2.2.size ≤ 1024 ∧ s = (39 :: quoteL (bl v.2.2)) ++ [39]) := by
  obtain ⟨k, n, t⟩ := v
  unfold rightB at h
  unfold showL at hs
  simp only at h hs
  by_cases h0 : k = 0
  · subst h0
    simp at h hs
    left
    exact ⟨by rw [h.1, h.2], hs.symm⟩
  · rw [if_neg h0] at h hs
    by_cases h1 : k = 1
    · subst h1
      simp at h hs
      right; left
      exact ⟨by rw [h], hs.symm⟩
    · rw [if_neg h1] at h hs
      by_cases h2 : k = 2
      · subst h2
        simp at h hs
        obtain ⟨hn, rfl⟩ := h
        rcases hn with rfl | rfl
        · right; right; left
          exact ⟨rfl, by rw [← hs]; exact fmt_false⟩
        · right; right; right; left
          exact ⟨rfl, by rw [← hs]; exact fmt_true⟩
      · rw [if_neg h2] at h hs
        by_cases h3 : k = 3
        · subst h3
          simp at h
          right; right; right; right
          exact ⟨by rw [h.1], h.2, hs.symm⟩
        · rw [if_neg h3] at h; cases h
theorem show_inj {u v : Val} (hu : rightB u = true) (hv : rightB v = true) (qu : ValOk u) (qv : ValOk v) (h : showL u = showL v) : u = v := by
  have cu := show_cases hu _ h
  have cv := show_cases hv _ rfl
  generalize showL v = s at cu cv
  have hd : ∀ w : Val, ((w = (0, 0, E0) ∧ s = tNull) → (s.headD 0).toNat = 110) ∧ ((w = (1, w.2.1, E0) ∧ s = Lib.itoa w.2.1) → ((s.headD 0).toNat = 45 ∨ 48 ≤ (s.headD 0).toNat ∧ (s.headD 0).toNat ≤ 57)) ∧ ((w = (2, 0, E0) ∧ s = tFalse) → (s.headD 0).toNat = 102) ∧
      ((w = (2, 1, E0) ∧ s = tTrue) → (s.headD 0).toNat = 116) ∧ ((w = (3, 0, w.2.2) ∧ w.2.2.size ≤ 1024 ∧ s = (39 :: quoteL (bl w.2.2)) ++ [39]) → (s.headD 0).toNat = 39) := by
    intro w
    refine ⟨fun h => by rw [h.2]; rfl, fun h => ?_, fun h => by rw [h.2]; rfl, fun h => by rw [h.2]; rfl, fun h => by rw [h.2.2]; rfl⟩
    obtain ⟨c1, r1, i1, d1⟩ := itoa_head w.2.1
    rw [h.2, i1]
    exact d1
  obtain ⟨u1, u2, u3, u4, u5⟩ := hd u
  obtain ⟨v1, v2, v3, v4, v5⟩ := hd v
  rcases cu with cu | cu | cu | cu | cu
  · have hu' := u1 cu
    rcases cv with cv | cv | cv | cv | cv
    · rw [cu.1, cv.1]
    · have := v2 cv; omega
    · have := v3 cv; omega
    · have := v4 cv; omega
    · have := v5 cv; omega
  · have hu' := u2 cu
    rcases cv with cv | cv | cv | cv | cv
    · have := v1 cv; omega
    · rw [cu.1, cv.1]
      have := itoa_inj ⟨qu.lo, qu.hi⟩ ⟨qv.lo, qv.hi⟩ (cu.2.symm.trans cv.2)
      rw [this]
    · have := v3 cv; omega
    · have := v4 cv; omega
    · have := v5 cv; omega
  · have hu' := u3 cu
    rcases cv with cv | cv | cv | cv | cv
    · have := v1 cv; omega
    · have := v2 cv; omega
    · rw [cu.1, cv.1]
    · have := v4 cv; omega
    · have := v5 cv; omega
  · have hu' := u4 cu
    rcases cv with cv | cv | cv | cv | cv
    · have := v1 cv; omega
    · have := v2 cv; omega
    · have := v3 cv; omega
    · rw [cu.1, cv.1]
    · have := v5 cv; omega
  · have hu' := u5 cu
    rcases cv with cv | cv | cv | cv | cv
    · have := v1 cv; omega
    · have := v2 cv; omega
    · have := v3 cv; omega
    · have := v4 cv; omega
    · rw [cu.1, cv.1]
      have e := cu.2.2.symm.trans cv.2.2
      simp only [List.cons_append, List.cons.injEq, true_and] at e
      have e2 : quoteL (bl u.2.2) = quoteL (bl v.2.2) := List.append_cancel_right e
      have e3 := unq_quote (bl u.2.2)
      rw [e2, unq_quote] at e3
      simp at e3
      rw [bl_inj e3]
/-- a text that no value has, or the value that it is -/
def ParseV (s : ByteArray) (r : Value) : Prop :=
  (∃ v : Val, rightB v = true ∧ ValOk v ∧ showL v = bl s ∧ r = .tuple #[.agg #[.int .i64 v.1, .int .i64 v.2.1, .string v.2.2], .int .i64 0]) ∨
  ((∀ v : Val, rightB v = true → ValOk v → showL v ≠ bl s) ∧ r = .tuple #[.agg #[.int .i64 0, .int .i64 0, .string E0], .int .i64 40])
theorem parse_one {s : ByteArray} {r r' : Value} (h : ParseV s r) (h' : ParseV s r') : r = r' := by
  rcases h with ⟨v, a1, a2, a3, rfl⟩ | ⟨a1, rfl⟩ <;> rcases h' with ⟨v', b1, b2, b3, rfl⟩ | ⟨b1, rfl⟩
  · rw [show_inj a1 b1 a2 b2 (a3.trans b3.symm)]
  · exact absurd a3 (b1 v a1 a2)
  · exact absurd b3 (a1 v' b1 b2)
  · rfl
end Go.Proofs.YtpaajmaecjjfjaaDoor
