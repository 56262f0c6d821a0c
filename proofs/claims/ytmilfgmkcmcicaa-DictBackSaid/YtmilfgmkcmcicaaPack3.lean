/-
  Pack, by the document.
-/
import Derived.Test.YtmilfgmkcmcicaaPack2
namespace Go.Proofs.Ytmilfgmkcmcicaa
open Go.Dn Go.Proofs
open Go.RowKit (Below)
set_option linter.unusedVariables false
set_option maxRecDepth 20000

theorem rowC_skip {f : Nat → Bool} {m t : Nat} (h : f t = false) : rowC f m (t + 1) = rowC f m t := by
  unfold rowC
  congr 1
  apply List.map_congr_left
  intro j _
  conv => lhs; unfold stB
  rw [if_neg (by simp [h])]
section
variable {w : World} {a : Option Addr} {c : Nat} {xs : List Nat}
theorem ref_Pack_ok (hl : Rd w a (xs.map u64V)) (hn : xs.length ≤ 4096) {wd : Nat} (hw : wd ≤ 64) (hx : ∀ x ∈ xs, x < 2 ^ wd) :
    Calls Try.prog f.ref01_Pack #[.int .i64 (wd : Int), .slice a xs.length c] w (Ret fun v w' => ∃ a' c', v = .tuple #[.slice a' (packL xs wd).length c', .int .i64 0] ∧ NewB w w' (packL xs wd) a' c') := by
  have h64 : (2 : Nat) ^ wd ≤ 2 ^ 64 := Nat.pow_le_pow_right (by omega) hw
  have hx64 : ∀ x ∈ xs, x < 18446744073709551616 := fun x h => Nat.lt_of_lt_of_le (hx x h) h64
  have hm : xs.length * wd ≤ 4096 * 64 := Nat.mul_le_mul hn hw
  obtain ⟨m, hmd⟩ : ∃ m, m = sizeN xs.length wd := ⟨_, rfl⟩
  have hmv : m = (xs.length * wd + 7) / 8 := hmd
  apply R.ref01_Pack_calls
  unfold R.ref01_Pack
  refine (ref_Size_ok w (xs.length : Int) (wd : Int)).mono ?_
  rintro _ w ⟨_, rfl, rfl, rfl⟩
  rw [if_pos ⟨by omega, by omega, by omega, by omega⟩]
  refine ⟨_, _, rfl, IFB_ne (fun h => absurd rfl h) (fun _ => ?_)⟩
  have em : ((xs.length : Int) * (wd : Int) + 7) / 8 = (m : Int) := by
    rw [hmv]
    have : ((xs.length : Int) * (wd : Int)) = ((xs.length * wd : Nat) : Int) := by norm_cast
    rw [this]
    omega
  rw [em]
  refine make_new tB (l := (m : Int)) (c := (m : Int)) (by omega) (by omega) (by omega) (by omega) fun bo w2 hbo B2 hO2 => ?_
  rw [Int.toNat_natCast, rowC_zero (bitA xs wd) m] at hO2
  rw [Int.toNat_natCast]
  refine ⟨_, _, _, rfl, ?_⟩
  have low : ∀ {w' : World}, Keeps (fun k => k = bo) w2 w' → Below w.heap.size w w' := fun K => B2.trans (K.below B2.size fun k hk h => by omega)
  refine ⟨fun s w3 => ∃ i : Nat, i ≤ xs.length ∧ s = [.int .i64 (i : Int)] ∧ Keeps (fun k => k = bo) w2 w3 ∧ w3.heap[bo]? = some (.cells (rowC (bitA xs wd) m (i * wd)) ty.uint8 (0, 0)), fun s _ => match s with
      | [.int _ i] => xs.length - i.toNat
      | _ => 0, ⟨0, by omega, rfl, .refl _ _, by rw [Nat.zero_mul]; exact hO2⟩, ?_⟩
  rintro _ w3 ⟨i, hi, hs, K3, hO3⟩
  cases hs
  refine IFB_dec (fun hlt => ⟨⟨by omega, hlt⟩, ?_⟩) (fun hge => ?_)
  · have hil : i < xs.length := by omega
    have hxi := hx64 _ (List.getElem_mem hil)
    obtain ⟨p, rfl, hc⟩ := num_at (hl.grown (low K3)) hil
    refine ⟨_, by rw [Int.toNat_natCast]; exact hc, (ref_Of_ok w3 xs[i] wd hxi hw).mono ?_⟩
    rintro _ w4 ⟨_, rfl, rfl, rfl⟩
    refine ⟨_, rfl, IFB_not (IFB_dec (fun _ => ⟨⟨by omega, hlt⟩, _, by rw [Int.toNat_natCast]; exact hc, ?_⟩) (fun h => absurd (hx _ (List.getElem_mem hil)) h))⟩
    refine ⟨fun s w5 => ∃ k : Nat, k ≤ wd ∧ s = [.int .u64 ((xs[i] / 2 ^ k : Nat) : Int), .int .i64 (k : Int)] ∧ Keeps (fun k => k = bo) w2 w5 ∧ w5.heap[bo]? = some (.cells (rowC (bitA xs wd) m (i * wd + k)) ty.uint8 (0, 0)), fun s _ => match s with
        | [_, .int _ k] => wd - k.toNat
        | _ => 0, ⟨0, by omega, by simp, K3, hO3⟩, ?_⟩
    rintro _ _ w5 ⟨k, hk, hs, K5, hO5⟩
    cases hs
    refine IFB_dec (fun hlt2 => ?_) (fun hge2 => ?_)
    · have hkw : k < wd := by omega
      have hiw : i * wd + k < xs.length * wd := by
        have : (i + 1) * wd ≤ xs.length * wd := Nat.mul_le_mul_right _ hil
        rw [Nat.succ_mul] at this
        omega
      have hle : xs[i] / 2 ^ k ≤ xs[i] := Nat.div_le_self _ _
      have e2 : IntKind.u64.wrap (Int.tdiv ((xs[i] / 2 ^ k : Nat) : Int) 2) = ((xs[i] / 2 ^ (k + 1) : Nat) : Int) := by
        rw [Nat.pow_succ, ← Nat.div_div_eq_div_mul]
        generalize xs[i] / 2 ^ k = y at hle
        rw [Int.tdiv_eq_ediv_of_nonneg (by omega), wrap_u64_id (by omega) (by omega)]
        omega
      rw [e2, wrap_succ (by omega)]
      have em2 : Int.tmod ((xs[i] / 2 ^ k : Nat) : Int) 2 = ((xs[i] / 2 ^ k % 2 : Nat) : Int) := by
        rw [Int.tmod_eq_emod_of_nonneg (Int.natCast_nonneg _)]
        norm_cast
      rw [em2]
      have hbit : bitA xs wd (i * wd + k) = decide (xs[i] / 2 ^ k % 2 = 1) := by
        have h1 : (i * wd + k) / wd = i := by
          rw [Nat.mul_comm, Nat.mul_add_div (by omega), Nat.div_eq_of_lt hkw, Nat.add_zero]
        have h2 : (i * wd + k) % wd = k := by
          rw [Nat.mul_comm, Nat.mul_add_mod, Nat.mod_eq_of_lt hkw]
        unfold bitA
        rw [h1, h2, Nat.testBit_eq_decide_div_mod_eq]
        simp [List.getD, hil]
      obtain ⟨t, ht⟩ : ∃ t, t = i * wd + k := ⟨_, rfl⟩
      rw [← ht] at hbit hO5 hiw
      have hmu : ∀ wx : World, Keeps (fun k => k = bo) w2 wx → wx.heap[bo]? = some (.cells (rowC (bitA xs wd) m (t + 1)) ty.uint8 (0, 0)) →
          ((∃ k' : Nat, k' ≤ wd ∧ [Value.int .u64 ((xs[i] / 2 ^ (k + 1) : Nat) : Int), .int .i64 ((k + 1 : Nat) : Int)] = [.int .u64 ((xs[i] / 2 ^ k' : Nat) : Int), .int .i64 (k' : Int)] ∧ Keeps (fun k => k = bo) w2 wx ∧ wx.heap[bo]? = some (.cells (rowC (bitA xs wd) m (i * wd + k')) ty.uint8 (0, 0))) ∧ wd - ((k + 1 : Nat) : Int).toNat < wd - ((k : Nat) : Int).toNat) := by
        intro wx K hO
        refine ⟨⟨k + 1, by omega, rfl, K, by rw [← Nat.add_assoc, ← ht]; exact hO⟩, ?_⟩
        simp only [Int.toNat_natCast]
        omega
      refine IFB_eq (fun h1 => ?_) (fun h1 => ?_)
      · have hb1 : bitA xs wd t = true := by
          rw [hbit]
          exact decide_eq_true (by exact_mod_cast h1)
        unfold DRAW
        have et : IntKind.i64.wrap (IntKind.i64.wrap ((i : Int) * (wd : Int)) + (k : Int)) = (t : Int) := by
          have h1 : (i : Int) * (wd : Int) = ((i * wd : Nat) : Int) := by rw [Int.natCast_mul]
          rw [h1, ht]
          generalize i * wd = q at ht
          rw [wrap_i64 (n := (q : Int)) (by omega) (by omega), wrap_i64 (by omega) (by omega)]
          omega
        have ed : IntKind.i64.wrap (Int.tdiv (t : Int) 8) = ((t / 8 : Nat) : Int) := by
          rw [Int.tdiv_eq_ediv_of_nonneg (by omega), wrap_i64 (by omega) (by omega)]
          omega
        have er : Int.tmod (t : Int) 8 = ((t % 8 : Nat) : Int) := by
          rw [Int.tmod_eq_emod_of_nonneg (by omega)]
          omega
        rw [et, ed, er]
        have htm : t / 8 < m := by omega
        refine ⟨⟨by omega, by omega⟩, ?_⟩
        rw [Int.toNat_natCast, Int.toNat_natCast]
        have ea : (⟨bo, 0, none⟩ : Addr).add (t / 8 * 1) = ⟨bo, t / 8, none⟩ := by rw [addr_add_blk]; simp
        have hcell : w5.drew.cell? ((⟨bo, 0, none⟩ : Addr).add (t / 8 * 1)) = some (.int .u8 (stB (bitA xs wd) t (t / 8) : Int)) := by
          rw [ea]
          have : w5.drew.heap[bo]? = some (.cells (rowC (bitA xs wd) m t) ty.uint8 (0, 0)) := hO5
          simp only [World.cell?, this]
          simpa using rowC_get htm
        refine ⟨by omega, _, hcell, ⟨by omega, by omega⟩, ?_⟩
        have esh := shl_bit (b := true) (s := t % 8) (Nat.mod_lt _ (by omega))
        simp only [Bool.toNat_true, Nat.one_mul] at esh
        rw [show (((1 : Nat) : Int)) = 1 from rfl] at esh
        rw [esh]
        have hsh : 2 ^ (t % 8) < 2 ^ 8 := Nat.pow_lt_pow_right (by omega) (Nat.mod_lt _ (by omega))
        rw [or8 (stB_lt _ _ _) hsh]
        have estep := stB_step (bitA xs wd) t
        rw [hb1] at estep
        simp only [Bool.toNat_true, Nat.one_mul] at estep
        rw [estep]
        unfold PTR
        simp only
        rw [ea]
        refine sto_blk (show w5.drew.heap[bo]? = _ from hO5) (by rw [rowC_size]; exact htm) fun w7 K7 hO7 => ?_
        rw [rowC_set _ rfl] at hO7
        exact hmu w7 (K5.drew.trans K7 (fun k _ h => h)) hO7
      · have hb0 : bitA xs wd t = false := by
          rw [hbit]
          exact decide_eq_false (fun h => h1 (by exact_mod_cast h))
        exact hmu w5 K5 (by rw [rowC_skip hb0]; exact hO5)
    · have : k = wd := by omega
      subst this
      rw [wrap_succ (by omega)]
      refine ⟨⟨i + 1, by omega, rfl, K5, by rw [Nat.succ_mul]; exact hO5⟩, ?_⟩
      simp only [Int.toNat_natCast]
      omega
  · have : i = xs.length := by omega
    subst this
    have B3 := low K3
    refine ⟨some ⟨bo, 0, none⟩, m, by rw [packL_len, ← hmd], ⟨by simp, .inr ⟨bo, rowC (bitA xs wd) m (xs.length * wd), rfl, hO3, ?_, by omega, by rw [rowC_size]; omega, ?_⟩⟩, fun k hk => ?_, B3⟩
    · rw [packL_len, ← hmd]; exact Nat.le_refl _
    · have e := rowC_end xs wd
      rw [← hmd] at e
      rw [e, Nat.mul_one, ← List.length_map (f := byteV), List.take_length]
    · cases hk
      exact hbo
end
end Go.Proofs.Ytmilfgmkcmcicaa
