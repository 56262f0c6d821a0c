/-
  So many messages are on their way, and no more.
-/
import Derived.Test.YtijjimoooflkaaaNetLaw
namespace Go.Proofs.Ytijjimoooflkaaa
open Go.Dn Go.Proofs
open Go.RowKit (Below)
set_option linter.unusedVariables false

/-- behind k sends -/
def fullN (n : Int) (d : ByteArray) (k : Nat) : NetS := { newNet n with l := List.replicate (min k 2000) (1, 2, d), lost := ((k - 2000 : Nat) : Int) }
theorem fullN_send (n : Int) (d : ByteArray) (k : Nat) (hn : 2 ≤ n) (hd : d.size ≤ 1000) (hk : k < 2003) : sendE (fullN n d k).n (1, 2, d) = 0 ∧ sendN (fullN n d k) (1, 2, d) = fullN n d (k + 1) := by
  have hl : lineOk n 1 2 := by unfold lineOk; omega
  have h1 : lineOk (fullN n d k).n ((1, 2, d) : Msg).1 ((1, 2, d) : Msg).2.1 ∧ ((1, 2, d) : Msg).2.2.size ≤ 600000 := ⟨hl, by show d.size ≤ 600000; omega⟩
  refine ⟨by unfold sendE; rw [if_pos h1], ?_⟩
  unfold sendN
  rw [if_pos h1]
  have hc : (fullN n d k).cuts.getD (placeOf ((1, 2, d) : Msg).1 ((1, 2, d) : Msg).2.1) false = false := by
    show (List.replicate 64 false).getD 10 false = false
    rfl
  rw [hc]
  have hlen : (fullN n d k).l.length = min k 2000 := by simp [fullN]
  rw [hlen]
  by_cases h2 : 2000 ≤ k
  · rw [if_pos (.inr (by omega))]
    have e1 : min k 2000 = min (k + 1) 2000 := by omega
    have e2 : IntKind.i64.wrap (((k - 2000 : Nat) : Int) + 1) = ((k + 1 - 2000 : Nat) : Int) := by rw [wrap_i64 (by omega) (by omega)]; omega
    unfold fullN
    rw [← e1, ← e2]
  · rw [if_neg (by simp; omega)]
    have e1 : min (k + 1) 2000 = min k 2000 + 1 := by omega
    have e2 : k + 1 - 2000 = k - 2000 := by omega
    unfold fullN
    rw [e1, e2, List.replicate_succ']

theorem fullN_zero (n : Int) (d : ByteArray) : fullN n d 0 = newNet n := by
  unfold fullN
  rw [Nat.zero_min, Nat.zero_sub]
  rfl

set_option maxRecDepth 20000 in
theorem NetFull_ok (w : World) (n : Int) (d : ByteArray) : Calls Try.prog f.law20_NetFull #[.int .i64 n, .string d] w (Ret fun v w' => v = .bool true ∧ Below w.heap.size w w') := by
  apply R.law20_NetFull_calls
  unfold R.law20_NetFull
  refine (shown_ok w).mono ?_
  rintro _ w1 ⟨_, rfl, rfl, B1⟩
  refine ⟨_, rfl, IFB_dec (fun _ => ⟨rfl, B1⟩) (fun h2 => IFB_dec (fun _ => ⟨rfl, B1⟩) (fun h7 => IFB_dec (fun _ => ⟨rfl, B1⟩) (fun hd => ?_)))⟩
  refine (net_New_in w1 n (by omega) (by omega) B1 (Nat.le_refl _)).mono ?_
  rintro _ w2 ⟨_, rfl, b, rfl, h⟩
  refine ⟨_, _, rfl, IFB_ne (fun h => absurd rfl h) (fun _ => ?_)⟩
  refine ⟨fun s w3 => match s with
      | [.int _ i] => ∃ k : Nat, i = k ∧ k ≤ 2003 ∧ NetIn w.heap.size w w3 b (fullN n d k)
      | _ => False,
    fun s _ => match s with
      | [.int _ i] => 2003 - i.toNat
      | _ => 0, ?_, ?_⟩
  · refine ⟨0, rfl, Nat.zero_le _, ?_⟩
    rw [fullN_zero]
    exact h
  intro i w3 hI
  obtain ⟨k, hi, hk, h3⟩ := hI
  subst hi
  refine IFB_dec (fun hlt => ?_) (fun hge => ?_)
  · obtain ⟨e1, e2⟩ := fullN_send n d k (by omega) (by omega) (by omega)
    refine (net_Send_in h3 (1, 2, d)).mono ?_
    rintro _ w4 ⟨_, rfl, rfl, h4⟩
    rw [e2] at h4
    rw [e1]
    refine ⟨_, rfl, IFB_ne (fun h => absurd rfl h) (fun _ => ?_)⟩
    rw [wrap_succ (by omega)]
    refine ⟨⟨k + 1, rfl, by omega, h4⟩, ?_⟩
    simp only [Int.toNat_natCast]
    omega
  · have : k = 2003 := by omega
    subst this
    have hl : (fullN n d 2003).l.length = 2000 := by simp [fullN]
    refine ⟨fun s w8 => s = [.bool true] ∧ NetIn w.heap.size w w8 b (fullN n d 2003), ?_, ?_⟩
    · refine (net_Many_in h3).mono ?_
      rintro _ _ ⟨_, rfl, rfl, rfl⟩
      rw [hl]
      refine ⟨_, rfl, IFB_true ((net_Lost_in h3).mono ?_)⟩
      rintro _ _ ⟨_, rfl, rfl, rfl⟩
      refine ⟨_, rfl, IFB_true ((net_Copy_in h3 0).mono ?_)⟩
      rintro _ w7 ⟨_, rfl, rfl, h7⟩
      have e1 : copyB (fullN n d 2003).l 0 = false := by simp [copyB, hl]
      have e2 : copyL (fullN n d 2003).l 0 = (fullN n d 2003).l := by
        unfold copyL
        split
        · rw [if_neg (by omega)]
        · rfl
      rw [e2] at h7
      rw [e1]
      exact ⟨_, rfl, rfl, h7⟩
    · rintro full w8 ⟨hf, h8⟩
      cases hf
      refine (net_Take_in h8 7).mono ?_
      rintro _ w9 ⟨_, rfl, rfl, h9⟩
      have e1 : (lookM (fullN n d 2003).l 7).isSome = true := by simp [lookM, hl]
      refine ⟨_, _, _, _, rfl, (SH.start (fun _ => False) w9).new fun b25 w10 hb25 S10 => S10.sto3 0 rfl fun w13 S13 => ?_⟩
      rw [e1]
      have h13 := h9.grown S13.below
      refine IFB_true (IFB_true (IFB_true ((net_Copy_in h13 0).mono ?_)))
      rintro _ w14 ⟨_, rfl, rfl, h14⟩
      have hl1 : (takeL (fullN n d 2003).l 7).length = 1999 := by simp [takeL, List.length_eraseIdx, hl]
      have e2 : copyB (takeL (fullN n d 2003).l 7) 0 = true := by simp [copyB, lookM, hl1]
      have e3 : (copyL (takeL (fullN n d 2003).l 7) 0).length = 2000 := by
        unfold copyL
        simp [lookM, hl1]
      rw [show copyB ({ fullN n d 2003 with l := takeL (fullN n d 2003).l 7 } : NetS).l 0 = true from e2]
      refine ⟨_, rfl, IFB_true ((net_Copy_in h14 0).mono ?_)⟩
      rintro _ w15 ⟨_, rfl, rfl, h15⟩
      refine ⟨_, rfl, ?_, h15.below⟩
      simp [copyB, e3]
end Go.Proofs.Ytijjimoooflkaaa
