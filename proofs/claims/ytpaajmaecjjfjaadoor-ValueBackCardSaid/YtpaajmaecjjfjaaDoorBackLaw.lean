/-
  Bytes back to values, values back to bytes: plain laws.
-/
import Derived.Test.YtpaajmaecjjfjaaDoorLays2
namespace Go.Proofs.YtpaajmaecjjfjaaDoor
open Go.Dn Go.Proofs
open Go.RowKit (Below)
set_option linter.unusedVariables false
set_option maxRecDepth 20000

theorem ofNat_toNat8 {n : Nat} (h : n < 256) : (UInt8.ofNat n).toNat = n := by simp; omega
theorem digitsL_small {n : Nat} (h : n < 128) : digitsL n = [UInt8.ofNat n] := by unfold digitsL; rw [dif_pos h]
theorem digitsL_big {n : Nat} (h : ¬ n < 128) : digitsL n = UInt8.ofNat (n % 128 + 128) :: digitsL (n / 128) := by conv => lhs; unfold digitsL; rw [dif_neg h]

theorem readN_digits (n : Nat) : ∀ (i acc : Nat) (r : List UInt8), n * 128 ^ i < 18446744073709551616 → i ≤ 9 → (n = 0 → i = 0) → readN i acc (digitsL n ++ r) = some (acc + n * 128 ^ i, i + (digitsL n).length) := by
  induction n using Nat.strongRecOn with
  | _ n ih =>
    intro i acc r hn hi h0
    by_cases h : n < 128
    · rw [digitsL_small h]
      simp only [List.singleton_append, readN]
      rw [ofNat_toNat8 (by omega)]
      have e9 : i = 9 → n = 1 := by
        intro h9
        subst h9
        have : (128 : Nat) ^ 9 = 9223372036854775808 := by decide
        rw [this] at hn
        have : n ≠ 0 := fun h => by have := h0 h; omega
        omega
      rw [if_neg (by omega), if_pos h, if_neg (by omega)]
      rfl
    · rw [digitsL_big h]
      simp only [List.cons_append, readN]
      rw [ofNat_toNat8 (by omega)]
      have h8 : i ≤ 8 := by
        by_cases h9 : i = 9
        · subst h9
          have : (128 : Nat) ^ 9 = 9223372036854775808 := by decide
          rw [this] at hn
          omega
        · omega
      have ep : (128 : Nat) ^ (i + 1) = 128 * 128 ^ i := by rw [Nat.pow_succ, Nat.mul_comm]
      have key : n / 128 * 128 ^ (i + 1) + n % 128 * 128 ^ i = n * 128 ^ i := by
        rw [ep, ← Nat.mul_assoc, ← Nat.add_mul]
        congr 1
        omega
      rw [if_neg (by omega), if_neg (by omega), ih (n / 128) (by omega) (i + 1) _ r (by omega) (by omega) (by omega)]
      simp only [List.length_cons]
      have : (n % 128 + 128) % 128 = n % 128 := by omega
      rw [this]
      congr 2
      · omega
      · omega

theorem readN_conv : ∀ (l : List UInt8) (i acc n k : Nat), readN i acc l = some (n, k) → ∃ m, n = acc + m * 128 ^ i ∧ k = i + (digitsL m).length ∧ l = digitsL m ++ l.drop (digitsL m).length ∧ (0 < i → m ≠ 0)
  | [], _, _, _, _, h => by simp [readN] at h
  | c :: r, i, acc, n, k, h => by
    have hc := c.toNat_lt
    unfold readN at h
    split at h
    · cases h
    · split at h
      · rename_i hlt
        split at h
        · cases h
        · rename_i hz
          simp only [Option.some.injEq, Prod.mk.injEq] at h
          obtain ⟨rfl, rfl⟩ := h
          refine ⟨c.toNat, rfl, ?_, ?_, fun hi hh => hz ⟨hh, hi⟩⟩
          · rw [digitsL_small hlt]; rfl
          · rw [digitsL_small hlt]; simp
      · rename_i hge
        obtain ⟨m, e1, e2, e3, e4⟩ := readN_conv r (i + 1) _ n k h
        have hm := e4 (by omega)
        have hb : ¬ (c.toNat % 128 + 128 * m) < 128 := by omega
        have ed : digitsL (c.toNat % 128 + 128 * m) = c :: digitsL m := by
          rw [digitsL_big hb]
          have h1 : (c.toNat % 128 + 128 * m) % 128 + 128 = c.toNat := by omega
          have h2 : (c.toNat % 128 + 128 * m) / 128 = m := by omega
          rw [h1, h2]
          simp
        refine ⟨c.toNat % 128 + 128 * m, ?_, ?_, ?_, fun _ => by omega⟩
        · rw [e1, Nat.pow_succ, Nat.add_mul, Nat.add_assoc]
          congr 2
          rw [Nat.mul_comm (128 ^ i) 128, ← Nat.mul_assoc, Nat.mul_comm m 128]
        · rw [e2, ed]
          simp only [List.length_cons]
          omega
        · rw [ed]
          simp only [List.length_cons, List.drop_succ_cons, List.cons_append]
          rw [← e3]

theorem takeN_lay {n : Nat} (h : n < 18446744073709551616) (c : UInt8) (b : List UInt8) : takeN (c :: (digitsL n ++ b)) 1 = some (n, 1 + (digitsL n).length) := by
  unfold takeN
  rw [if_neg (by decide)]
  have : (c :: (digitsL n ++ b)).drop (1 : Int).toNat = digitsL n ++ b := rfl
  rw [this, readN_digits n 0 0 b (by omega) (by omega) (by simp)]
  simp
theorem takeN_conv {c : UInt8} {l : List UInt8} {n k : Nat} (h : takeN (c :: l) 1 = some (n, k)) : n < 18446744073709551616 ∧ k = 1 + (digitsL n).length ∧ l = digitsL n ++ l.drop (digitsL n).length := by
  have hb := (takeN_bounds h).1
  unfold takeN at h
  rw [if_neg (by decide)] at h
  obtain ⟨⟨x1, x2⟩, hx, he⟩ := Option.map_eq_some_iff.1 h
  simp only [Prod.mk.injEq] at he
  obtain ⟨rfl, rfl⟩ := he
  obtain ⟨m, e1, e2, e3, _⟩ := readN_conv _ _ _ _ _ hx
  have e1' : x1 = m := by omega
  subst e1'
  refine ⟨hb, by rw [e2]; simp, e3⟩

theorem getD_zero (c : UInt8) (l : List UInt8) : (c :: l).getD (0 : Int).toNat 0 = c := rfl
theorem unzig_zig {n : Int} : unzig (zigN n) = n := by unfold unzig zigN; split <;> split <;> omega
theorem zig_unzig (n : Nat) : zigN (unzig n) = n := by unfold unzig zigN; split <;> split <;> omega

/-- what was laid is read -/
theorem take_lay {v : Val} (hr : rightB v = true) (hv : ValOk v) (b : List UInt8) : takeV (layL v ++ b) 0 = some (v, (layL v).length) := by
  have hne : 0 < (layL v).length := by unfold layL; split; simp; split; simp; split; simp; simp
  obtain ⟨k, n, s⟩ := v
  unfold rightB at hr
  simp only at hr hv ⊢
  have h01 := hv.lo
  have h02 := hv.hi
  simp only at h01 h02
  unfold takeV
  rw [if_neg (by rw [List.length_append]; omega)]
  split at hr
  · rename_i h
    subst h
    simp only [decide_eq_true_eq] at hr
    obtain ⟨rfl, rfl⟩ := hr
    have : layL (0, 0, E0) = [0] := rfl
    rw [this]
    rfl
  · split at hr
    · rename_i h
      subst h
      simp only [decide_eq_true_eq] at hr
      subst hr
      have e : layL (1, n, E0) = 1 :: digitsL (zigN n) := by simp [layL]
      rw [e]
      have := takeN_lay (zigN_lt h01 h02) 1 b
      simp only [List.cons_append, getD_zero]
      rw [if_neg (by decide), if_pos (by decide)]
      rw [show (0 : Int) + 1 = 1 by decide, this]
      simp only [Option.map_some, unzig_zig, List.length_cons]
      congr 2
      omega
    · split at hr
      · rename_i h
        subst h
        simp only [decide_eq_true_eq] at hr
        obtain ⟨h, rfl⟩ := hr
        rcases h with rfl | rfl
        · have e : layL (2, 0, E0) = [2, 0] := rfl
          rw [e]
          simp only [List.cons_append, List.nil_append, List.length_cons, List.length_nil, getD_zero]
          rw [if_neg (by decide), if_neg (by decide), if_pos (by decide), if_pos ⟨by omega, by simp⟩]
          rfl
        · have e : layL (2, 1, E0) = [2, 1] := rfl
          rw [e]
          simp only [List.cons_append, List.nil_append, List.length_cons, List.length_nil, getD_zero]
          rw [if_neg (by decide), if_neg (by decide), if_pos (by decide), if_pos ⟨by omega, by simp⟩]
          rfl
      · split at hr
        · rename_i h
          subst h
          simp only [decide_eq_true_eq] at hr
          obtain ⟨rfl, hs⟩ := hr
          have e : layL (3, 0, s) = 3 :: (digitsL s.size ++ bl s) := by simp [layL, textL]
          rw [e]
          have := takeN_lay (n := s.size) (by omega) 3 (bl s ++ b)
          simp only [List.cons_append, List.append_assoc, getD_zero]
          rw [if_neg (by decide), if_neg (by decide), if_neg (by decide), if_pos (by decide)]
          rw [show (0 : Int) + 1 = 1 by decide]
          unfold takeT
          rw [this]
          have hbl := bl_length s
          simp only
          rw [if_neg (by simp only [List.length_cons, List.length_append]; omega)]
          simp only [Option.map_some, List.length_cons, List.length_append]
          have ed : ((3 :: (digitsL s.size ++ (bl s ++ b))).drop (1 + (digitsL s.size).length)).take s.size = bl s := by
            rw [Nat.add_comm, List.drop_succ_cons, List.drop_left, ← hbl, List.take_left]
          rw [ed, sof_bl]
          congr 2
          omega
        · cases hr

/-- what was read is what was laid -/
theorem lay_take {b : List UInt8} {v : Val} {k : Nat} (h : takeV b 0 = some (v, k)) : rightB v = true ∧ ValOk v ∧ k ≤ b.length ∧ layL v = b.take k := by
  cases b with
  | nil => simp [takeV] at h
  | cons c l =>
    have hc := c.toNat_lt
    unfold takeV at h
    rw [if_neg (by simp only [List.length_cons]; omega)] at h
    have e0 : (c :: l).getD (0 : Int).toNat 0 = c := rfl
    simp only [e0, show (0 : Int) + 1 = 1 by decide] at h
    have cc : ∀ {m : Nat}, c.toNat = m → c = UInt8.ofNat m := by
      intro m hm
      rw [← hm]
      simp
    split at h
    · rename_i h0
      cases h
      refine ⟨by decide, ⟨by decide, by decide⟩, by simp, ?_⟩
      rw [cc h0]
      rfl
    · split at h
      · rename_i h1
        obtain ⟨⟨n, k'⟩, hx, he⟩ := Option.map_eq_some_iff.1 h
        cases he
        obtain ⟨hn, rfl, hl⟩ := takeN_conv hx
        have hr := unzig_range hn
        refine ⟨by simp [rightB], ⟨hr.1, hr.2⟩, ?_, ?_⟩
        · have := congrArg List.length hl
          simp only [List.length_append, List.length_drop, List.length_cons] at this ⊢
          omega
        · have e : layL (1, unzig n, E0) = 1 :: digitsL n := by simp [layL, zig_unzig]
          rw [e, Nat.add_comm, List.take_succ_cons]
          congr 1
          · exact (cc h1).symm
          · conv => rhs; rw [hl]
            rw [List.take_left]
      · split at h
        · rename_i h2
          split at h
          · rename_i hh
            obtain ⟨g1, g2⟩ := hh
            cases h
            cases l with
            | nil => simp at g1
            | cons d l =>
              have ed : (c :: d :: l).getD ((0 : Int).toNat + 1) 0 = d := rfl
              rw [ed] at g2 ⊢
              have hd : d.toNat = 0 ∨ d.toNat = 1 := by omega
              have e : layL (2, (d.toNat : Int), E0) = [2, d] := by simp [layL]
              refine ⟨?_, ?_, by simp, ?_⟩
              · rcases hd with hd | hd <;> rw [hd] <;> decide
              · rcases hd with hd | hd <;> rw [hd] <;> exact ⟨by decide, by decide⟩
              · rw [e, cc h2]
                rfl
          · cases h
        · split at h
          · rename_i h3
            obtain ⟨⟨s, k'⟩, hx, he⟩ := Option.map_eq_some_iff.1 h
            cases he
            unfold takeT at hx
            split at hx
            · rename_i x hx'
              obtain ⟨n, j⟩ := x
              split at hx
              · cases hx
              · rename_i hno
                simp only [Option.some.injEq, Prod.mk.injEq] at hx
                obtain ⟨rfl, rfl⟩ := hx
                obtain ⟨hn, rfl, hl⟩ := takeN_conv hx'
                have hll := congrArg List.length hl
                simp only [List.length_append, List.length_drop, List.length_cons] at hll hno
                have ed : (c :: l).drop (1 + (digitsL n).length) = l.drop (digitsL n).length := by rw [Nat.add_comm, List.drop_succ_cons]
                rw [ed]
                have hsz : ((l.drop (digitsL n).length).take n).length = n := by rw [List.length_take, List.length_drop]; omega
                refine ⟨?_, ⟨show -9223372036854775808 ≤ (0 : Int) by decide, show (0 : Int) ≤ 9223372036854775807 by decide⟩, by simp only [List.length_cons]; omega, ?_⟩
                · simp [rightB, size_sof]
                  omega
                · have e : layL (3, 0, sof ((l.drop (digitsL n).length).take n)) = 3 :: (digitsL n ++ (l.drop (digitsL n).length).take n) := by
                    simp only [layL, textL, size_sof, hsz, bl_sof]
                    rfl
                  rw [e, show 1 + (digitsL n).length + n = (digitsL n).length + n + 1 by omega, List.take_succ_cons]
                  congr 1
                  · exact (cc h3).symm
                  · conv => rhs; rw [hl]
                    rw [List.take_append, show List.take ((digitsL n).length + n) (digitsL n) = digitsL n from List.take_of_length_le (by omega), Nat.add_sub_cancel_left]
            · cases hx
          · cases h
end Go.Proofs.YtpaajmaecjjfjaaDoor
